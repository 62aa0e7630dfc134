/- Contracts of margins and errors (exact). -/
import Derived.Test.YtiiiaeemblcniaaRake
import Derived.Test.YtiiiaeemblcniaaRakeI
namespace Go.Proofs.Ytiiiaeemblcniaa
set_option maxRecDepth 20000
open Go.ChangeShapes Go.WideShapes Go.ChangeAt Go.RowKit
set_option linter.unusedVariables false
set_option linter.unusedSimpArgs false

/-- what MarginOf returns -/
def mgOK (z : List Int) (s : ByteArray) (x : Int) (t : ByteArray) : Bool := rvOK z s x && bitsOK t.data.toList && decide (1 ≤ t.size)
def mgO (z : List Int) (s : ByteArray) (x : Int) (t : ByteArray) : Option Int := if mgOK z s x t then some (mgT z s.data.toList x.toNat t.data.toList t.size) else none
theorem mg_yes {z : List Int} {s : ByteArray} {X : Nat} {t : ByteArray} (h : mgOK z s (X : Int) t = true) : mgO z s (X : Int) t = some (mgT z s.data.toList X t.data.toList t.size) := if_pos h
theorem mg_no {z : List Int} {s : ByteArray} {x : Int} {t : ByteArray} (h : mgOK z s x t = false) : mgO z s x t = none := if_neg (by simp [h])
theorem mgT_step {z : List Int} {l : List UInt8} {x : Nat} {d : List UInt8} {k : Nat} {V m : Int} (hV : V = mgV z l x d k) (hm : m = mgT z l x d k) : mgT z l x d (k + 1) = if k = 0 ∨ V < m then V else m := by rw [mgT, hV, hm]
theorem chipI_same (c : UInt8) (w : World) : Calls Try.prog 44 #[.int .u8 (c.toNat : Int)] w fun e w' => e = .returned (.int .i64 (chip c)) ∧ w = w' := (chipI_any c w).mono fun e w' ⟨h1, h2⟩ => ⟨h1, h2.symm⟩
set_option maxHeartbeats 2000000 in
theorem mgI_any (A : Option Addr) (c : Nat) (z : List Int) (s : ByteArray) (x : Int) (t : ByteArray) (w : World) (hr : Reads w w.heap.size A z) (hl : z.length ≤ 1048576) (hs : s.size ≤ maxLen) (ht : t.size ≤ maxLen) :
    Calls Try.prog 17 #[.slice A z.length c, .string s, .int .i64 x, .string t] w fun e w' => e = .returned (intRes (mgO z s x t)) ∧ Below w.heap.size w w' := by
  have HV := Lib.hid (rvI_any A c z s x w hr hl hs)
  have HQ := Lib.hid (isBits_any t w ht)
  cases hv : rvOK z s x with
  | false =>
    rw [mg_no (by unfold mgOK; rw [hv]; rfl)]
    rw [hv] at HV
    clear hr
    go_enter Try.func17, Try.ntmps17
    go_wp2_with fail
    refine (HV.out).mono ?_
    rintro e w' ⟨rfl, rfl⟩
    go_wp2
    go_ret2
    exact ⟨rfl, Below.refl _ _⟩
  | true =>
    rw [hv] at HV
    cases hq : bitsOK t.data.toList with
    | false =>
      rw [mg_no (by unfold mgOK; rw [hq, Bool.and_false]; rfl)]
      rw [hq] at HQ
      clear hr
      go_enter Try.func17, Try.ntmps17
      go_wp2_with fail
      refine (HV.out).mono ?_
      rintro e w' ⟨rfl, rfl⟩
      go_wp2_with fail
      refine (HQ.out).mono ?_
      rintro e w' ⟨rfl, rfl⟩
      go_wp2
      go_ret2
      exact ⟨rfl, Below.refl _ _⟩
    | true =>
      rw [hq] at HQ
      by_cases h1 : 1 ≤ t.size
      rotate_left
      · rw [mg_no (by unfold mgOK; rw [decide_eq_false h1, Bool.and_false])]
        have hne := isEmpty_yes h1
        clear hr
        go_enter Try.func17, Try.ntmps17
        go_wp2_with fail
        refine (HV.out).mono ?_
        rintro e w' ⟨rfl, rfl⟩
        go_wp2_with fail
        refine (HQ.out).mono ?_
        rintro e w' ⟨rfl, rfl⟩
        go_wp2
        go_ret2
        exact ⟨rfl, Below.refl _ _⟩
      have hok : mgOK z s x t = true := by unfold mgOK; rw [hv, hq, decide_eq_true h1]; rfl
      obtain ⟨hz, hsq, hx0, hx3⟩ := rv_parts hv
      obtain ⟨X, rfl⟩ : ∃ X : Nat, x = (X : Int) := ⟨x.toNat, by omega⟩
      obtain ⟨q1, q2, _⟩ := seq_parts hsq
      have ht6 := bits_le_size hq
      rw [mg_yes hok]
      have hne := isEmpty_no h1
      have HC : Hid (∀ u : World, Reads u u.heap.size A z → Calls Try.prog 34 #[.slice A z.length c, .string s, .int .i64 (X : Int), .int .i64 (t.size : Int)] u (RetL (dots z s.data.toList X t.size) u)) := fun u hu => corrsI_any A c z s X t.size u hu hz q2 (by omega) ht6
      have hql : s.data.toList.length ≤ 255 := by rw [data_length]; exact q2
      have HVL : Hid (∀ k, -255000000 ≤ mgV z s.data.toList X t.data.toList k ∧ mgV z s.data.toList X t.data.toList k ≤ 255000000) := fun k => mgV_le hz hql X _ k
      have HML : Hid (∀ k, -255000000 ≤ mgT z s.data.toList X t.data.toList k ∧ mgT z s.data.toList X t.data.toList k ≤ 255000000) := fun k => mgT_le hz hql X _ k
      have HVE : Hid (∀ k (h : k < t.size), mgV z s.data.toList X t.data.toList k = (dots z s.data.toList X t.size).getD k 0 * chip t[k]) := fun k h => by rw [dots_at _ _ _ _ h, ← getD_at t _ h]; rfl
      have HTS : Hid (∀ (k : Nat) (V m : Int), V = mgV z s.data.toList X t.data.toList k → m = mgT z s.data.toList X t.data.toList k → mgT z s.data.toList X t.data.toList (k + 1) = if k = 0 ∨ V < m then V else m) := fun k V m h1 h2 => mgT_step h1 h2
      have hdl := dots_len z s.data.toList X t.size
      have HR := Lib.hid hr
      obtain ⟨DL, hDL⟩ : ∃ DL, DL = dots z s.data.toList X t.size := ⟨_, rfl⟩
      rw [← hDL] at HC HVE hdl
      obtain ⟨Mg, hMg⟩ : ∃ Mg : Nat → Int, Mg = fun k => mgT z s.data.toList X t.data.toList k := ⟨_, rfl⟩
      obtain ⟨Vg, hVg⟩ : ∃ Vg : Nat → Int, Vg = fun k => mgV z s.data.toList X t.data.toList k := ⟨_, rfl⟩
      have HVL2 : Hid (∀ k, -255000000 ≤ Vg k ∧ Vg k ≤ 255000000) := by rw [hVg]; exact HVL
      have HML2 : Hid (∀ k, -255000000 ≤ Mg k ∧ Mg k ≤ 255000000) := by rw [hMg]; exact HML
      have HVE2 : Hid (∀ k (h : k < t.size), Vg k = DL.getD k 0 * chip t[k]) := by rw [hVg]; exact HVE
      have HTS2 : Hid (∀ k : Nat, Mg (k + 1) = if k = 0 ∨ Vg k < Mg k then Vg k else Mg k) := by rw [hMg, hVg]; exact fun k => HTS.out k _ _ rfl rfl
      have HFIN : Hid (mgT z s.data.toList X t.data.toList t.size = Mg t.size) := by rw [hMg]; exact Lib.hid rfl
      have HM0 : Hid (Mg 0 = 0) := by rw [hMg]; exact Lib.hid rfl
      have HDN := Lib.hid hdl
      clear hok hr hv hq hz hsq hDL hMg hVg HVL HML HVE HTS hdl hx0 hx3
      rw [HFIN.out]
      clear HFIN
      go_enter Try.func17, Try.ntmps17
      go_wp2_with fail
      refine (HV.out).mono ?_
      rintro e w' ⟨rfl, rfl⟩
      go_wp2_with fail
      refine (HQ.out).mono ?_
      rintro e w' ⟨rfl, rfl⟩
      go_wp2_with fail
      refine (HC.out _ HR.out).mono ?_
      rintro e w1 ⟨v, rfl, hsl, hb⟩
      obtain ⟨A1, c1, rfl, _, _⟩ := hsl.reads
      rw [HDN.out] at hsl ⊢
      have HS := Lib.hid hsl
      clear hsl
      go_wp2
      go_loopw [10, 11, 12, 34] (fun m _ _ i wr => ∃ k : Nat, k ≤ t.size ∧ i = .int .i64 (k : Int) ∧ m = .int .i64 (Mg k) ∧ wr.heap = w1.heap ∧ Below w.heap.size w wr) (fun _ _ _ i _ => t.size - (intOf i).toNat)
      case atStart => exact ⟨0, Nat.zero_le _, rfl, by rw [HM0.out], rfl, hb⟩
      case round =>
        clear hb HM0
        obtain ⟨k, hk, rfl, rfl, hh, hb⟩ := hrel
        have HH := Lib.hid hh
        have HB := Lib.hid hb
        clear hh hb
        have hmk := HML2.out k
        obtain ⟨m, hm⟩ : ∃ m, m = Mg k := ⟨_, rfl⟩
        rw [← hm] at hmk
        have HM := Lib.hid hm
        rw [← hm]
        clear hm
        by_cases hlt : k < t.size
        · obtain ⟨ad, rfl, hcell⟩ := HS.out.at_ (k := k) (by rw [HDN.out]; exact hlt)
          have hc : wr.cell? (ad.add k) = some (.int .i64 (DL.getD k 0)) := by
            have e : wr.cell? (ad.add k) = w1.cell? (ad.add k) := by simp only [World.cell?, HH.out]
            rw [e]; exact hcell
          have hvk := HVL2.out k
          have hve := HVE2.out k hlt
          have hts := HTS2.out k
          obtain ⟨y, hy⟩ : ∃ y, y = DL.getD k 0 := ⟨_, rfl⟩
          rw [← hy] at hc hve
          obtain ⟨V, hV⟩ : ∃ V, V = Vg k := ⟨_, rfl⟩
          rw [← hV] at hvk hve hts
          rw [← HM.out] at hts
          have HTS := Lib.hid hts
          have ew : IntKind.i64.wrap (y * chip t[k]) = V := by rw [← hve]; exact IntWalk.i64_in _ (by omega)
          clear hcell hy hV hve hts
          go_wp2_with fail
          refine (chipI_same t[k] wr).mono ?_
          rintro e w' ⟨rfl, rfl⟩
          by_cases hk0 : k = 0
          · have b0 : ((k : Int) == 0) = true := by simpa using hk0
            have HE : Hid (Mg (k + 1) = V) := by show _ = _; rw [HTS.out, if_pos (.inl hk0)]
            clear hk0
            go_wp2
            go_roundw
            case rel => exact ⟨k + 1, by omega, by go_num, by rw [HE.out], HH.out, HB.out⟩
            case measure => simp [intOf]; omega
          · have b0 : ((k : Int) == 0) = false := by simpa using hk0
            by_cases hvm : V < m
            · have HE : Hid (Mg (k + 1) = V) := by show _ = _; rw [HTS.out, if_pos (.inr hvm)]
              clear hk0
              go_wp2
              go_roundw
              case rel => exact ⟨k + 1, by omega, by go_num, by rw [HE.out], HH.out, HB.out⟩
              case measure => simp [intOf]; omega
            · have HE : Hid (Mg (k + 1) = m) := by show _ = _; rw [HTS.out, if_neg (by rintro (h | h); exact hk0 h; exact hvm h)]
              clear hk0
              go_wp2
              go_roundw
              case rel => exact ⟨k + 1, by omega, by go_num, by rw [HE.out], HH.out, HB.out⟩
              case measure => simp [intOf]; omega
        · obtain rfl : k = t.size := by omega
          go_wp2
          go_ret2
          exact ⟨by rw [HM.out]; rfl, HB.out⟩
set_option maxHeartbeats 2000000 in
theorem mgS_any (A : Option Addr) (c : Nat) (z : List Int) (s : ByteArray) (x : Int) (t : ByteArray) (w : World) (hr : Reads w w.heap.size A z) (hl : z.length ≤ 1048576) (hs : s.size ≤ maxLen) (ht : t.size ≤ maxLen) :
    Calls Try.prog 18 #[.slice A z.length c, .string s, .int .i64 x, .string t] w fun e w' => e = .returned (intRes (mgO z s x t)) ∧ Below w.heap.size w w' := by
  have HV := Lib.hid (listenS_any A c z s x (t.size : Int) w hr hl hs)
  have HQ := Lib.hid (l1Bits_any t w ht)
  cases hq : bitsOK t.data.toList with
  | false =>
    rw [mg_no (by unfold mgOK; rw [hq, Bool.and_false]; rfl)]
    rw [hq] at HQ
    clear hr
    go_enter Try.func18, Try.ntmps18
    go_wp2_with fail
    refine (HQ.out).mono ?_
    rintro e w' ⟨rfl, rfl⟩
    go_wp2
    go_ret2
    exact ⟨rfl, Below.refl _ _⟩
  | true =>
    rw [hq] at HQ
    have ht6 := bits_le_size hq
    rw [ls_rv, inB_yes (by omega) (by omega), Bool.and_true] at HV
    cases hv : rvOK z s x with
    | false =>
      rw [mg_no (by unfold mgOK; rw [hv]; rfl)]
      rw [hv] at HV
      clear hr
      go_enter Try.func18, Try.ntmps18
      go_wp2_with fail
      refine (HQ.out).mono ?_
      rintro e w' ⟨rfl, rfl⟩
      go_wp2_with fail
      refine (HV.out).mono ?_
      rintro e w' ⟨rfl, rfl⟩
      go_wp2
      go_ret2
      exact ⟨rfl, Below.refl _ _⟩
    | true =>
      rw [hv] at HV
      by_cases h1 : 1 ≤ t.size
      rotate_left
      · rw [mg_no (by unfold mgOK; rw [decide_eq_false h1, Bool.and_false])]
        have hne := isEmpty_yes h1
        clear hr
        go_enter Try.func18, Try.ntmps18
        go_wp2_with fail
        refine (HQ.out).mono ?_
        rintro e w' ⟨rfl, rfl⟩
        go_wp2_with fail
        refine (HV.out).mono ?_
        rintro e w' ⟨rfl, rfl⟩
        go_wp2
        go_ret2
        exact ⟨rfl, Below.refl _ _⟩
      have hok : mgOK z s x t = true := by unfold mgOK; rw [hv, hq, decide_eq_true h1]; rfl
      obtain ⟨hz, hsq, hx0, hx3⟩ := rv_parts hv
      obtain ⟨X, rfl⟩ : ∃ X : Nat, x = (X : Int) := ⟨x.toNat, by omega⟩
      obtain ⟨q1, q2, _⟩ := seq_parts hsq
      rw [mg_yes hok]
      have hne := isEmpty_no h1
      have HC : Hid (∀ u : World, Reads u u.heap.size A z → Calls Try.prog 37 #[.slice A z.length c, .string s, .int .i64 (X : Int), .int .i64 (t.size : Int)] u (RetL (dots z s.data.toList X t.size) u)) := fun u hu => despS_any A c z s X t.size u hu hz hsq (by omega) ht6
      have hql : s.data.toList.length ≤ 255 := by rw [data_length]; exact q2
      have HBT : Hid (∀ k (h : k < t.size), bit t[k]) := fun k h => by rw [← getD_at t _ h]; exact bits_at4 hq (by rw [data_length]; exact h)
      have HVL : Hid (∀ k, -255000000 ≤ mgV z s.data.toList X t.data.toList k ∧ mgV z s.data.toList X t.data.toList k ≤ 255000000) := fun k => mgV_le hz hql X _ k
      have HML : Hid (∀ k, -255000000 ≤ mgT z s.data.toList X t.data.toList k ∧ mgT z s.data.toList X t.data.toList k ≤ 255000000) := fun k => mgT_le hz hql X _ k
      have HVE : Hid (∀ k (h : k < t.size), mgV z s.data.toList X t.data.toList k = (dots z s.data.toList X t.size).getD k 0 * chip t[k]) := fun k h => by rw [dots_at _ _ _ _ h, ← getD_at t _ h]; rfl
      have HTS : Hid (∀ (k : Nat) (V m : Int), V = mgV z s.data.toList X t.data.toList k → m = mgT z s.data.toList X t.data.toList k → mgT z s.data.toList X t.data.toList (k + 1) = if k = 0 ∨ V < m then V else m) := fun k V m h1 h2 => mgT_step h1 h2
      have hdl := dots_len z s.data.toList X t.size
      have HYL : Hid (∀ k, k < t.size → -255000000 ≤ (dots z s.data.toList X t.size).getD k 0 ∧ (dots z s.data.toList X t.size).getD k 0 ≤ 255000000) := fun k h => by rw [dots_at _ _ _ _ h]; exact dot_le hz _ hql
      have HR := Lib.hid hr
      obtain ⟨DL, hDL⟩ : ∃ DL, DL = dots z s.data.toList X t.size := ⟨_, rfl⟩
      rw [← hDL] at HC HVE hdl HYL
      obtain ⟨Mg, hMg⟩ : ∃ Mg : Nat → Int, Mg = fun k => mgT z s.data.toList X t.data.toList k := ⟨_, rfl⟩
      obtain ⟨Vg, hVg⟩ : ∃ Vg : Nat → Int, Vg = fun k => mgV z s.data.toList X t.data.toList k := ⟨_, rfl⟩
      have HVL2 : Hid (∀ k, -255000000 ≤ Vg k ∧ Vg k ≤ 255000000) := by rw [hVg]; exact HVL
      have HML2 : Hid (∀ k, -255000000 ≤ Mg k ∧ Mg k ≤ 255000000) := by rw [hMg]; exact HML
      have HVE2 : Hid (∀ k (h : k < t.size), Vg k = DL.getD k 0 * chip t[k]) := by rw [hVg]; exact HVE
      have HTS2 : Hid (∀ k : Nat, Mg (k + 1) = if k = 0 ∨ Vg k < Mg k then Vg k else Mg k) := by rw [hMg, hVg]; exact fun k => HTS.out k _ _ rfl rfl
      have HFIN : Hid (mgT z s.data.toList X t.data.toList t.size = Mg t.size) := by rw [hMg]; exact Lib.hid rfl
      have HM0 : Hid (Mg 0 = 0) := by rw [hMg]; exact Lib.hid rfl
      have HDN := Lib.hid hdl
      clear hok hr hv hq hz hsq hDL hMg hVg HVL HML HVE HTS hdl hx0 hx3
      rw [HFIN.out]
      clear HFIN
      go_enter Try.func18, Try.ntmps18
      go_wp2_with fail
      refine (HQ.out).mono ?_
      rintro e w' ⟨rfl, rfl⟩
      go_wp2_with fail
      refine (HV.out).mono ?_
      rintro e w' ⟨rfl, rfl⟩
      go_wp2_with fail
      refine (HC.out _ HR.out).mono ?_
      rintro e w1 ⟨v, rfl, hsl, hb⟩
      obtain ⟨A1, c1, rfl, _, _⟩ := hsl.reads
      rw [HDN.out] at hsl ⊢
      have HS := Lib.hid hsl
      clear hsl
      go_wp2
      go_loopw [11, 12, 13] (fun m i _ wr => ∃ k : Nat, k ≤ t.size ∧ i = .int .i64 (k : Int) ∧ m = .int .i64 (Mg k) ∧ wr.heap = w1.heap ∧ Below w.heap.size w wr) (fun _ i _ _ => t.size - (intOf i).toNat)
      case atStart => exact ⟨0, Nat.zero_le _, rfl, by rw [HM0.out], rfl, hb⟩
      case round =>
        clear hb HM0
        obtain ⟨k, hk, rfl, rfl, hh, hb⟩ := hrel
        have HH := Lib.hid hh
        have HB := Lib.hid hb
        clear hh hb
        have hmk := HML2.out k
        obtain ⟨m, hm⟩ : ∃ m, m = Mg k := ⟨_, rfl⟩
        rw [← hm] at hmk
        have HM := Lib.hid hm
        rw [← hm]
        clear hm
        by_cases hlt : k < t.size
        · obtain ⟨ad, rfl, hcell⟩ := HS.out.at_ (k := k) (by rw [HDN.out]; exact hlt)
          have hc : wr.cell? (ad.add k) = some (.int .i64 (DL.getD k 0)) := by
            have e : wr.cell? (ad.add k) = w1.cell? (ad.add k) := by simp only [World.cell?, HH.out]
            rw [e]; exact hcell
          have hvk := HVL2.out k
          have hve := HVE2.out k hlt
          have hts := HTS2.out k
          have hyl := HYL.out k hlt
          obtain ⟨q, hv2, hcv, hch⟩ := chip_bit4 (c := t[k]) (HBT.out k hlt)
          rw [hch] at hve
          clear hch
          obtain ⟨y, hy⟩ : ∃ y, y = DL.getD k 0 := ⟨_, rfl⟩
          rw [← hy] at hc hve hyl
          rw [← HM.out, hve] at hts
          rw [hve] at hvk
          have HTS := Lib.hid hts
          clear hcell hy hve hts
          by_cases hk0 : k = 0
          · have b0 : ((k : Int) == 0) = true := by simpa using hk0
            have HE : Hid (Mg (k + 1) = y * (1 - 2 * (q - 48))) := by show _ = _; rw [HTS.out, if_pos (.inl hk0)]
            clear hk0
            go_wp2
            refine wp_region_still_lit (by kernel_rfl) (by kernel_rfl) ?_
            repeat (refine wpStill_step (fun K hK => ?_); (try go_simp); (try simp only [IntWalk.iteOmega]); (try go_ints); (try simp (disch := omega) only [dif_pos]); (try go_simp); refine hK _ ?_; clear hK K)
            refine wpStill_nil ?_
            go_wp2
            go_roundw
            case rel => exact ⟨k + 1, by omega, by go_num, by rw [HE.out], HH.out, HB.out.drew⟩
            case measure => simp [intOf]; omega
          · have b0 : ((k : Int) == 0) = false := by simpa using hk0
            by_cases hvm : y * (1 - 2 * (q - 48)) < m
            · have HE : Hid (Mg (k + 1) = y * (1 - 2 * (q - 48))) := by show _ = _; rw [HTS.out, if_pos (.inr hvm)]
              clear hk0
              go_wp2
              refine wp_region_still_lit (by kernel_rfl) (by kernel_rfl) ?_
              repeat (refine wpStill_step (fun K hK => ?_); (try go_simp); (try simp only [IntWalk.iteOmega]); (try go_ints); (try simp (disch := omega) only [dif_pos]); (try go_simp); refine hK _ ?_; clear hK K)
              refine wpStill_nil ?_
              go_wp2
              go_roundw
              case rel => exact ⟨k + 1, by omega, by go_num, by rw [HE.out], HH.out, HB.out.drew⟩
              case measure => simp [intOf]; omega
            · have HE : Hid (Mg (k + 1) = m) := by show _ = _; rw [HTS.out, if_neg (by rintro (h | h); exact hk0 h; exact hvm h)]
              clear hk0
              go_wp2
              refine wp_region_still_lit (by kernel_rfl) (by kernel_rfl) ?_
              repeat (refine wpStill_step (fun K hK => ?_); (try go_simp); (try simp only [IntWalk.iteOmega]); (try go_ints); (try simp (disch := omega) only [dif_pos]); (try go_simp); refine hK _ ?_; clear hK K)
              refine wpStill_nil ?_
              go_wp2
              go_roundw
              case rel => exact ⟨k + 1, by omega, by go_num, by rw [HE.out], HH.out, HB.out.drew⟩
              case measure => simp [intOf]; omega
        · obtain rfl : k = t.size := by omega
          go_wp2
          go_ret2
          exact ⟨by rw [HM.out]; rfl, HB.out⟩
set_option maxHeartbeats 2000000 in
theorem be_any (a b : List UInt8) (w : World) (ha : a.length ≤ 1048576) (hb : b.length ≤ 1048576) :
    Calls Try.prog 19 #[.string (str a), .string (str b)] w fun e w' => e = .returned (.int .i64 (beI a b)) ∧ Below w.heap.size w w' := by
  have za := str_size a
  have zb := str_size b
  have HQ1 := Lib.hid (isBits_any (str a) w (by unfold maxLen; omega))
  have HQ2 := Lib.hid (isBits_any (str b) w (by unfold maxLen; omega))
  rw [str_list] at HQ1 HQ2
  cases h1 : bitsOK a with
  | false =>
    rw [be_no (by rw [h1]; rfl)]
    rw [h1] at HQ1
    go_enter Try.func19, Try.ntmps19
    go_wp2_with fail
    refine (HQ1.out).mono ?_
    rintro e w' ⟨rfl, rfl⟩
    go_wp2
    go_ret
    exact ⟨rfl, Below.refl _ _⟩
  | true =>
    rw [h1] at HQ1
    cases h2 : bitsOK b with
    | false =>
      rw [be_no (by rw [h2, Bool.and_false]; rfl)]
      rw [h2] at HQ2
      go_enter Try.func19, Try.ntmps19
      go_wp2_with fail
      refine (HQ1.out).mono ?_
      rintro e w' ⟨rfl, rfl⟩
      go_wp2_with fail
      refine (HQ2.out).mono ?_
      rintro e w' ⟨rfl, rfl⟩
      go_wp2
      go_ret
      exact ⟨rfl, Below.refl _ _⟩
    | true =>
      rw [h2] at HQ2
      by_cases hl : a.length = b.length
      rotate_left
      · rw [be_no (by rw [decide_eq_false hl, Bool.and_false])]
        have hne : ¬ (str a).size = (str b).size := by omega
        have hne2 : (((str a).size : Int) != ((str b).size : Int)) = true := by simp; omega
        clear za zb
        go_enter Try.func19, Try.ntmps19
        go_wp2_with fail
        refine (HQ1.out).mono ?_
        rintro e w' ⟨rfl, rfl⟩
        go_wp2_with fail
        refine (HQ2.out).mono ?_
        rintro e w' ⟨rfl, rfl⟩
        go_wp2
        go_ret
        exact ⟨rfl, Below.refl _ _⟩
      rw [be_yes h1 h2 hl]
      have ht6 := bits_le h1
      have HG1 : Hid (∀ k (h : k < (str a).size), (str a)[k] = a.getD k 0) := Lib.hid fun k h => str_get a k h
      have HG2 : Hid (∀ k (h : k < (str b).size), (str b)[k] = b.getD k 0) := Lib.hid fun k h => str_get b k h
      obtain ⟨N, hN⟩ : ∃ N, N = a.length := ⟨_, rfl⟩
      rw [← hN] at za hl ht6 ⊢
      rw [← hl] at zb
      have HDL : Hid (∀ k, diffN a b k ≤ k) := Lib.hid fun k => diffN_le a b k
      have HDE : Hid (∀ k, diffN a b (k + 1) = diffN a b k + if a.getD k 0 = b.getD k 0 then 0 else 1) := Lib.hid fun k => rfl
      have hz0 : Hid (((diffN a b 0 : Nat) : Int) = 0) := Lib.hid rfl
      clear hN hl h1 h2 ha hb
      go_enter Try.func19, Try.ntmps19
      go_wp2_with fail
      refine (HQ1.out).mono ?_
      rintro e w' ⟨rfl, rfl⟩
      go_wp2_with fail
      refine (HQ2.out).mono ?_
      rintro e w' ⟨rfl, rfl⟩
      go_wp2
      go_loopw [5, 6, 24] (fun m _ i wr => ∃ k : Nat, k ≤ N ∧ i = .int .i64 (k : Int) ∧ m = .int .i64 (diffN a b k : Int) ∧ Below w.heap.size w wr) (fun _ _ i _ => N - (intOf i).toNat)
      case atStart => exact ⟨0, Nat.zero_le _, rfl, by rw [hz0.out], Below.refl _ _⟩
      case round =>
        obtain ⟨k, hk, rfl, rfl, hb⟩ := hrel
        have hdk := HDL.out k
        have hde := HDE.out k
        obtain ⟨m, hm⟩ : ∃ m, m = diffN a b k := ⟨_, rfl⟩
        rw [← hm] at hdk hde
        have HM := Lib.hid hm
        rw [← hm]
        clear hm
        by_cases hlt : k < N
        · have g1 := HG1.out k (by omega)
          have g2 := HG2.out k (by omega)
          have l1 : k < (str a).size := by omega
          have l2 : k < (str b).size := by omega
          obtain ⟨p, hp⟩ : ∃ p, p = a.getD k 0 := ⟨_, rfl⟩
          obtain ⟨q, hq⟩ : ∃ q, q = b.getD k 0 := ⟨_, rfl⟩
          rw [← hp] at g1 hde
          rw [← hq] at g2 hde
          have HE := Lib.hid hde
          clear hp hq hde
          by_cases hpq : p = q
          · subst hpq
            have HE2 : Hid (diffN a b (k + 1) = m) := by show _ = _; rw [HE.out, if_pos rfl]; rfl
            go_wp2
            refine wp_region_still_lit (by kernel_rfl) (by kernel_rfl) ?_
            repeat (refine wpStill_step (fun K hK => ?_); (try go_simp); (try simp only [IntWalk.iteOmega]); (try go_ints); (try simp (disch := omega) only [dif_pos]); (try go_simp); refine hK _ ?_; clear hK K)
            refine wpStill_nil ?_
            go_wp2
            go_roundw
            case rel => exact ⟨k + 1, by omega, by go_num, by rw [HE2.out], hb.drew⟩
            case measure => simp [intOf]; omega
          · have HE2 : Hid (diffN a b (k + 1) = m + 1) := by show _ = _; rw [HE.out, if_neg hpq]
            have hne : ((p.toNat : Int) != (q.toNat : Int)) = true := by
              simp only [bne_iff_ne, ne_eq]
              intro h
              exact hpq (UInt8.toNat_inj.mp (by omega))
            clear hpq
            go_wp2
            refine wp_region_still_lit (by kernel_rfl) (by kernel_rfl) ?_
            repeat (refine wpStill_step (fun K hK => ?_); (try go_simp); (try simp only [IntWalk.iteOmega]); (try go_ints); (try simp (disch := omega) only [dif_pos]); (try go_simp); refine hK _ ?_; clear hK K)
            refine wpStill_nil ?_
            go_wp2
            go_roundw
            case rel => exact ⟨k + 1, by omega, by go_num, by rw [HE2.out]; rfl, hb.drew⟩
            case measure => simp [intOf]; omega
        · obtain rfl : k = N := by omega
          go_wp2
          go_ret
          exact ⟨by rw [HM.out]; rfl, hb⟩
end Go.Proofs.Ytiiiaeemblcniaa
