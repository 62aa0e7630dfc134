/- Contracts of DropSample and RepeatSample. -/
import Derived.Test.YtholipfekecloaaTable
import Derived.Laws.AppendOwnNone
namespace Go.Proofs.Ytholipfekecloaa
set_option maxRecDepth 20000
open Go.ChangeShapes Go.WideShapes Go.ChangeAt Go.RowKit
set_option linter.unusedVariables false
set_option linter.unusedSimpArgs false

theorem add_blk (a : Addr) (j : Nat) : (a.add j).block = a.block := by unfold Addr.add; split <;> rfl
/-- 'append(out, s..)' at a plain region's list, in terms of the lists -/
theorem appSl {w0 w : World} {ops : Array Oper} {rest : List Oper} {o : Oper} {a : Act} {Q : Exit → Act → World → Prop} (hgd : o.guard = none) (s x : Operand)
    (ho : o.op = .call { callee := .builtin .append, args := #[s, x], argTypes := #[32, 32] }) (lo : Nat) (v : Value) (l z : List Int) (A' : Option Addr) (n c : Nat)
    (hs : a.eval s = v) (hx : a.eval x = .slice A' n c) (hn : z.length = n) (hsl : Sl w lo w.heap.size v l) (hA : ∃ ad, A' = some ad ∧ ∀ j, j < z.length → w.cell? (ad.add j) = some (.int .i64 (z.getD j 0)))
    (hb : Below lo w0 w) (hlo : lo ≤ w0.heap.size) (hlen : l.length + z.length ≤ 1000000)
    (h : ∀ v' w', Sl w' lo w'.heap.size v' (l ++ z) → Below lo w0 w' → wpList Try.prog ops Q rest (a.put o.dst v') w') : wpList Try.prog ops Q (o :: rest) a w := by
  obtain ⟨ad, rfl, hcells⟩ := hA
  obtain ⟨i, hi, hz, hsz, hby⟩ := info_parts info_int
  refine wpList_append_own w hgd s x 32 ho lo 3 i (.int .i64 0) 1 8 Try.underlying32 hi hz hsz hby rfl (by omega) v l.length (l.map intV) hs hsl.1 ad n c (z.map intV) hx (by simp [hn]) ?_ ?_ (by unfold maxLen; omega) (by omega) (Nat.le_trans hlo hb.size) ?_
  · intro j u hj
    by_cases hlt : j < z.length
    · rw [intV_at z j hlt] at hj
      rw [hcells j hlt, ← hj]
    · rw [List.getElem?_eq_none (by simp; omega)] at hj; cases hj
  · intro u hu
    simp only [List.mem_map] at hu
    obtain ⟨q, _, rfl⟩ := hu
    rfl
  · intro v' w' h1 h2 _
    subst hn
    refine h v' w' ⟨by simpa using h1, fun g hg => (World.ownsRow.lt h1 g hg).2⟩ (hb.grown h2 (Nat.le_trans hlo hb.size) (fun k hk => (World.ownsRow.lt hsl.1 k hk).1))
/-- the same at a step of a region that draws its order -/
theorem stepSl {w0 w : World} {ops : Array Oper} {o : Oper} {a : Act} {K : Act → World → Prop} {Q : Exit → Act → World → Prop} {E : Prop} (hgd : o.guard = none) (s x : Operand)
    (ho : o.op = .call { callee := .builtin .append, args := #[s, x], argTypes := #[32, 32] }) (lo : Nat) (v : Value) (l z : List Int) (A' : Option Addr) (n c : Nat)
    (hs : a.eval s = v) (hx : a.eval x = .slice A' n c) (hn : z.length = n) (hsl : Sl w lo w.heap.size v l) (hA : ∃ ad, A' = some ad ∧ ∀ j, j < z.length → w.cell? (ad.add j) = some (.int .i64 (z.getD j 0)))
    (hb : Below lo w0 w) (hlo : lo ≤ w0.heap.size) (hlen : l.length + z.length ≤ 1000000)
    (h : ∀ v' w', Sl w' lo w'.heap.size v' (l ++ z) → Below lo w0 w' → K (a.put o.dst v') w') : if Region.wanted o (yielded ops a.tmps) = true then Oper.wp Try.prog o a w K Q else E := by
  obtain ⟨ad, rfl, hcells⟩ := hA
  obtain ⟨i, hi, hz, hsz, hby⟩ := info_parts info_int
  have hw : Region.wanted o (yielded ops a.tmps) = true := by simp [Region.wanted, hgd]
  rw [if_pos hw]
  refine wp_append_own w s x 32 ho lo 3 i (.int .i64 0) 1 8 Try.underlying32 hi hz hsz hby rfl (by omega) v l.length (l.map intV) hs hsl.1 ad n c (z.map intV) hx (by simp [hn]) ?_ ?_ (by unfold maxLen; omega) (by omega) (Nat.le_trans hlo hb.size) ?_
  · intro j u hj
    by_cases hlt : j < z.length
    · rw [intV_at z j hlt] at hj
      rw [hcells j hlt, ← hj]
    · rw [List.getElem?_eq_none (by simp; omega)] at hj; cases hj
  · intro u hu
    simp only [List.mem_map] at hu
    obtain ⟨q, _, rfl⟩ := hu
    rfl
  · intro v' w' h1 h2 _
    subst hn
    refine h v' w' ⟨by simpa using h1, fun g hg => (World.ownsRow.lt h1 g hg).2⟩ (hb.grown h2 (Nat.le_trans hlo hb.size) (fun k hk => (World.ownsRow.lt hsl.1 k hk).1))
/-- c copies of the sample at an index in place of this sample -/
def copyL (z : List Int) (k c : Nat) : List Int := z.take k ++ List.replicate c (z.getD k 0) ++ z.drop (k + 1)
def wcOK (z : List Int) (x : Int) (c : Nat) : Bool := sigOK z && decide (0 ≤ x) && decide (x < z.length) && sigOK (copyL z x.toNat c)
def wcL (z : List Int) (x : Int) (c : Nat) : List Int := if wcOK z x c then copyL z x.toNat c else []
theorem copy_len {z : List Int} {k c : Nat} (h : k < z.length) : (copyL z k c).length = z.length - 1 + c := by simp [copyL]; omega
theorem wc_no {z : List Int} {x : Int} {c : Nat} (h : wcOK z x c = false) : wcL z x c = [] := if_neg (by simp [h])
theorem wc_yes {z : List Int} {x : Int} {c : Nat} (h : wcOK z x c = true) : wcL z x c = copyL z x.toNat c := if_pos h
theorem wcL_len (z : List Int) (x : Int) (c : Nat) : (wcL z x c).length ≤ 1048576 := by
  unfold wcL
  split
  · rename_i h
    simp only [wcOK, Bool.and_eq_true] at h
    have := sig_len h.2
    omega
  · simp
theorem drop_sig {z : List Int} {k : Nat} (h : sigOK z = true) : sigOK (copyL z k 0) = true := by
  unfold sigOK at h ⊢
  simp only [Bool.and_eq_true, decide_eq_true_eq, List.all_eq_true] at h ⊢
  refine ⟨by simp [copyL]; omega, fun x hx => h.2 x ?_⟩
  simp only [copyL, List.replicate_zero, List.append_nil, List.mem_append] at hx
  rcases hx with hx | hx
  · exact List.mem_of_mem_take hx
  · exact List.mem_of_mem_drop hx
theorem rep_split {z : List Int} {k : Nat} (h : k < z.length) : z.take (k + 1) ++ z.drop k = copyL z k 2 := by
  have h1 : z.take (k + 1) = z.take k ++ [z.getD k 0] := take_next h
  have h2 : z.drop k = z.getD k 0 :: z.drop (k + 1) := by rw [List.drop_eq_getElem_cons h, List.getD_eq_getElem?_getD, List.getElem?_eq_getElem h]; rfl
  unfold copyL
  rw [h1, h2]
  simp only [List.replicate, List.append_assoc, List.cons_append, List.nil_append]
/-- numbers if they are a signal -/
def okL (l : List Int) : List Int := if sigOK l then l else []
theorem okL_yes {l : List Int} (h : sigOK l = true) : okL l = l := if_pos h
theorem okL_no {l : List Int} (h : sigOK l = false) : okL l = [] := if_neg (by simp [h])
theorem sigNone_any {w : World} {lo : Nat} {v : Value} {l : List Int} (h : Sl w lo w.heap.size v l) (hl : l.length ≤ 1048576) :
    Calls Try.prog 80 #[v] w fun e w' => ∃ v', e = .returned (.tuple #[v', .bool (sigOK l)]) ∧ Sl w' lo w'.heap.size v' (okL l) ∧ w = w' := by
  obtain ⟨A, c, rfl, hr, hc⟩ := h.reads
  have HV := Lib.hid (sigI_any A c l w hr hl)
  cases hv : sigOK l
  · rw [hv] at HV
    rw [okL_no hv]
    go_enter Try.func80, Try.ntmps80
    go_wp2_with fail
    refine (HV.out).mono ?_
    rintro e w' ⟨rfl, rfl⟩
    go_wp2
    go_ret2
    exact ⟨_, rfl, Sl.nil _ _ _, rfl⟩
  · rw [hv] at HV
    rw [okL_yes hv]
    have HS := Lib.hid h
    clear h
    go_enter Try.func80, Try.ntmps80
    go_wp2_with fail
    refine (HV.out).mono ?_
    rintro e w' ⟨rfl, rfl⟩
    go_wp2
    go_ret2
    exact ⟨_, rfl, HS.out, rfl⟩
set_option maxHeartbeats 4000000 in
theorem copiesI_yes (A : Option Addr) (c : Nat) (z : List Int) (k C : Nat) (w : World) (hr : Reads w w.heap.size A z) (hcap : z.length ≤ c) (hv : sigOK z = true) (hk : k < z.length) (hC : C ≤ 2) :
    Calls Try.prog 62 #[.slice A z.length c, .int .i64 (k : Int), .int .i64 (C : Int)] w (RetLB (okL (copyL z k C)) (sigOK (copyL z k C)) w) := by
  have hz := sig_len hv
  have HV := Lib.hid (sigI_any A c z w hr (by omega))
  rw [hv] at HV
  obtain ⟨ad, rfl, hadb, hcell⟩ := hr (by omega)
  have HCL := Lib.hid hcell
  have hck := hcell k hk
  have hmk : ∀ (n : Nat) (u : World), n ≤ 4000 → (Instr.makeSlice 32 (.int .i64 0) (.int .i64 (n : Int))).run Try.prog u = .ok (.slice (some ⟨u.heap.size, 0, none⟩) 0 n) (u.alloc (.cells (madeCells #[.int .i64 0] n) 3)) := fun n u hn => run_make0 Try.underlying32 info_int rfl n (by omega) (by omega) u
  obtain ⟨n, hn⟩ : ∃ n : Nat, (z.length : Int) - 1 + (C : Int) = (n : Int) := ⟨z.length - 1 + C, by omega⟩
  have hmk2 := hmk n w (by omega)
  have d1 : decide ((k : Int) < 0) = false := decide_eq_false (by omega)
  have d2 : decide ((z.length : Int) ≤ (k : Int)) = false := decide_eq_false (by omega)
  have hcI : (z.length : Int) ≤ (c : Int) := by omega
  have HK := Lib.hid hk
  clear hmk hr hcell hv
  go_enter Try.func62, Try.ntmps62
  go_wp2_with fail
  refine (HV.out).mono ?_
  rintro e w' ⟨rfl, rfl⟩
  have hS0 : Sl (w.alloc (.cells (madeCells #[.int .i64 0] n) 3)) w.heap.size (w.alloc (.cells (madeCells #[.int .i64 0] n) 3)).heap.size (.slice (some ⟨w.heap.size, 0, none⟩) 0 n) [] := Sl.of_own (l := []) (Own.made (w := w) (B := w.heap.size) 3 (madeCells #[.int .i64 0] n) n (Nat.le_refl _) (by unfold maxLen; omega) (size_madeCells _ _)) (by simp)
  have hB0 : Below w.heap.size w (w.alloc (.cells (madeCells #[.int .i64 0] n) 3)) := (Below.refl _ _).alloc (Nat.le_refl _) _
  go_wp2_with (at_builtin; refine appSl (w0 := w) rfl _ _ rfl w.heap.size _ [] (z.take k) (some ad) k c rfl rfl (by simp; omega) hS0 ⟨ad, rfl, fun j hj => by simp at hj; rw [hB0.cell (by rw [add_blk]; exact hadb), HCL.out j (by omega)]; simp [List.getD_eq_getElem?_getD, List.getElem?_take, show j < k by omega]⟩ hB0 (Nat.le_refl _) (by simp; omega) ?_; intro v1 w1 hs1 hb1)
  simp only [List.nil_append] at hs1
  clear hS0 hB0 hmk2
  go_wp2
  go_loopw [8, 34] (fun v i wr => ∃ j : Nat, i = .int .i64 (j : Int) ∧ j ≤ C ∧ Sl wr w.heap.size wr.heap.size v (z.take k ++ List.replicate j (z.getD k 0)) ∧ Below w.heap.size w wr) (fun _ i _ => C - (intOf i).toNat)
  case atStart => exact ⟨0, rfl, Nat.zero_le _, by simpa using hs1, hb1⟩
  case round =>
    clear hs1 hb1
    obtain ⟨j, rfl, hj, hs, hb⟩ := hrel
    have hll : (z.take k ++ List.replicate j (z.getD k 0)).length ≤ 4000 := by simp; omega
    by_cases hlt : j < C
    · have hck2 : wr.cell? (ad.add k) = some (.int .i64 (z.getD k 0)) := by rw [hb.cell (by rw [add_blk]; exact hadb)]; exact hck
      have HN : Hid (z.take k ++ List.replicate (j + 1) (z.getD k 0) = (z.take k ++ List.replicate j (z.getD k 0)) ++ [z.getD k 0]) := Lib.hid (by rw [List.replicate_succ', List.append_assoc])
      generalize z.getD k 0 = x at *
      generalize z.take k ++ List.replicate j x = l at *
      have hs2 := Lib.hid (hs.below ((Below.refl wr.heap.size wr).alloc (Nat.le_refl _) (.cells #[.int .i64 x] 3)) (Nat.le_refl _) |>.mono (Nat.le_refl _) (show wr.heap.size ≤ (wr.alloc (.cells #[.int .i64 x] 3)).heap.size by simp))
      have hb2 := Lib.hid (hb.alloc hb.size (.cells #[.int .i64 x] 3))
      clear hs hck
      go_wp2_with (at_builtin; go_must (refine appSl (w0 := w) rfl _ _ rfl w.heap.size _ l [x] (some ⟨wr.heap.size, 0, none⟩) 1 1 rfl rfl rfl hs2.out ⟨_, rfl, fun i hi => by simp at hi; subst hi; simp [Addr.add]⟩ hb2.out (Nat.le_refl _) (by simp; omega) ?_); intro v2 w2 hs3 hb3)
      rw [← HN.out] at hs3
      clear hs2 hb2 hck2 hb HN
      go_wp2
      go_roundw
      case rel => exact ⟨j + 1, by go_num, by omega, hs3, hb3⟩
      case measure => simp [intOf]; omega
    · obtain rfl : j = C := by omega
      have HE : Hid ((z.take k ++ List.replicate j (z.getD k 0)) ++ z.drop (k + 1) = copyL z k j) := Lib.hid rfl
      generalize z.take k ++ List.replicate j (z.getD k 0) = l at *
      have hdl : (z.drop (k + 1)).length = z.length - (k + 1) := List.length_drop
      have hA : ∃ ad', (if c = k + 1 then some ad else some (ad.add (k + 1))) = some ad' ∧ ∀ i, i < (z.drop (k + 1)).length → wr.cell? (ad'.add i) = some (.int .i64 ((z.drop (k + 1)).getD i 0)) := by
        by_cases hc1 : c = k + 1
        · exact ⟨ad, if_pos hc1, fun i hi => by omega⟩
        · refine ⟨ad.add (k + 1), if_neg hc1, fun i hi => ?_⟩
          rw [add_of_add, hb.cell (by rw [add_blk]; exact hadb), HCL.out _ (by omega)]
          simp [List.getD_eq_getElem?_getD]
      have HA := Lib.hid hA
      have HLN : Hid (l.length + (z.drop (k + 1)).length ≤ 1000000) := Lib.hid (by omega)
      clear hA hck
      have HCLN : Hid ((copyL z k j).length ≤ 1048576) := Lib.hid (by rw [copy_len HK.out]; omega)
      go_wp2_with (first | (at_builtin; go_must (refine appSl (w0 := w) rfl _ _ rfl w.heap.size _ l (z.drop (k + 1)) (if c = k + 1 then some ad else some (ad.add (k + 1))) (z.length - (k + 1)) (c - (k + 1)) rfl rfl hdl hs HA.out hb (Nat.le_refl _) HLN.out ?_); intro v2 w2 hs3 hb3; rw [HE.out] at hs3) | (go_at_call 80; refine (sigNone_any hs3 HCLN.out).mono ?_; rintro e w3 ⟨v3, rfl, hs4, rfl⟩))
      all_goals
        go_ret2
        exact RetLB.mk hs4 hb3
set_option maxHeartbeats 1000000 in
theorem copiesI_any (A : Option Addr) (c : Nat) (z : List Int) (x : Int) (C : Nat) (w : World) (hr : Reads w w.heap.size A z) (hcap : z.length ≤ c) (hl : z.length ≤ 1048576) (hC : C ≤ 2) :
    Calls Try.prog 62 #[.slice A z.length c, .int .i64 x, .int .i64 (C : Int)] w (RetLB (wcL z x C) (wcOK z x C) w) := by
  have HV := Lib.hid (sigI_any A c z w hr hl)
  cases hv : sigOK z
  · rw [hv] at HV
    have e : wcOK z x C = false := by unfold wcOK; rw [hv]; rfl
    rw [wc_no e, e]
    go_enter Try.func62, Try.ntmps62
    go_wp2_with fail
    refine (HV.out).mono ?_
    rintro e w' ⟨rfl, rfl⟩
    go_wp2
    go_ret2
    exact RetLB.mk (Sl.nil _ _ _) (Below.refl _ _)
  · rw [hv] at HV
    by_cases h0 : 0 ≤ x
    · by_cases h1 : x < (z.length : Int)
      · obtain ⟨k, rfl⟩ : ∃ k : Nat, x = (k : Int) := ⟨x.toNat, by omega⟩
        have hh := copiesI_yes A c z k C w hr hcap hv (by omega) hC
        have e : wcOK z (k : Int) C = sigOK (copyL z k C) := by unfold wcOK; rw [hv, decide_eq_true h0, decide_eq_true h1, Int.toNat_natCast]; rfl
        have e2 : wcL z (k : Int) C = okL (copyL z k C) := by unfold wcL okL; rw [e, Int.toNat_natCast]
        rw [e2, e]
        exact hh
      · have e : wcOK z x C = false := by unfold wcOK; rw [decide_eq_false h1, Bool.and_false]; rfl
        rw [wc_no e, e]
        have d1 : decide (x < 0) = false := decide_eq_false (by omega)
        have d2 : decide ((z.length : Int) ≤ x) = true := decide_eq_true (by omega)
        go_enter Try.func62, Try.ntmps62
        go_wp2_with fail
        refine (HV.out).mono ?_
        rintro e w' ⟨rfl, rfl⟩
        go_wp2
        go_ret2
        exact RetLB.mk (Sl.nil _ _ _) (Below.refl _ _)
    · have e : wcOK z x C = false := by unfold wcOK; rw [decide_eq_false h0, Bool.and_false]; rfl
      rw [wc_no e, e]
      have d1 : decide (x < 0) = true := decide_eq_true (by omega)
      go_enter Try.func62, Try.ntmps62
      go_wp2_with fail
      refine (HV.out).mono ?_
      rintro e w' ⟨rfl, rfl⟩
      go_wp2
      go_ret2
      exact RetLB.mk (Sl.nil _ _ _) (Below.refl _ _)
theorem dropI_any (A : Option Addr) (c : Nat) (z : List Int) (x : Int) (w : World) (hr : Reads w w.heap.size A z) (hcap : z.length ≤ c) (hl : z.length ≤ 1048576) :
    Calls Try.prog 24 #[.slice A z.length c, .int .i64 x] w (RetLB (wcL z x 0) (wcOK z x 0) w) := by
  have H := Lib.hid (copiesI_any A c z x 0 w hr hcap hl (by omega))
  go_enter Try.func24, Try.ntmps24
  go_wp2_with fail
  refine H.out.mono ?_
  rintro e w1 ⟨v, rfl, hs, hb⟩
  go_wp2
  go_ret2
  exact RetLB.mk hs hb
theorem repI5_any (A : Option Addr) (c : Nat) (z : List Int) (x : Int) (w : World) (hr : Reads w w.heap.size A z) (hcap : z.length ≤ c) (hl : z.length ≤ 1048576) :
    Calls Try.prog 22 #[.slice A z.length c, .int .i64 x] w (RetLB (wcL z x 2) (wcOK z x 2) w) := by
  have H := Lib.hid (copiesI_any A c z x 2 w hr hcap hl (by omega))
  go_enter Try.func22, Try.ntmps22
  go_wp2_with fail
  refine H.out.mono ?_
  rintro e w1 ⟨v, rfl, hs, hb⟩
  go_wp2
  go_ret2
  exact RetLB.mk hs hb
end Go.Proofs.Ytholipfekecloaa
