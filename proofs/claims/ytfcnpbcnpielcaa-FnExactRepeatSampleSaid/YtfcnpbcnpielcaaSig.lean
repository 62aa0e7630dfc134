/- Contracts of the functions that copy, compare and mark slices of numbers, and of the tests of signals. -/
import Derived.Test.YtfcnpbcnpielcaaBits
import Derived.Test.YtfcnpbcnpielcaaMem
import Derived.WalkSpells
import Derived.IntWalk
import Derived.Outline
import Derived.StillTailTactics
namespace Go.Proofs.Ytfcnpbcnpielcaa
set_option maxRecDepth 20000
open Go.ChangeShapes Go.WideShapes Go.ChangeAt Go.RowKit
set_option linter.unusedVariables false
set_option linter.unusedSimpArgs false

theorem info_int : (Try.prog.info? 3).map (fun i => (i.zero, i.size, i.bytes)) = some (some (.int .i64 0), 1, 8) := by kernel_rfl
/-- a slice of numbers that a call made: it holds l, and its block is from lo on and below hi (or it is nil) -/
def Sl (w : World) (lo hi : Nat) (v : Value) (l : List Int) : Prop := w.ownsRow lo 3 1 v l.length (l.map intV) ∧ ∀ g, v.ownBlock = some g → g < hi
theorem Sl.nil (w : World) (lo hi : Nat) : Sl w lo hi (.slice none 0 0) [] := ⟨World.ownsRow_nil _ _ _ _, fun g h => by simp [Value.ownBlock] at h⟩
theorem Sl.of_own {w : World} {lo hi g n cap : Nat} {l : List Int} (h : Own w lo 3 g n cap (l.map intV)) (hg : g < hi) : Sl w lo hi (.slice (some ⟨g, 0, none⟩) n cap) l := by
  have hn : n = l.length := by have := h.len; simpa using this.symm
  subst hn
  exact ⟨h, fun g' h' => by simp [Value.ownBlock] at h'; omega⟩
theorem Sl.form {w : World} {lo hi : Nat} {v : Value} {l : List Int} (h : Sl w lo hi v l) : (v = .slice none 0 0 ∧ l = []) ∨ ∃ g cap, v = .slice (some ⟨g, 0, none⟩) l.length cap ∧ Own w lo 3 g l.length cap (l.map intV) ∧ lo ≤ g ∧ g < hi := by
  obtain ⟨h1, h2⟩ := h
  have h1' := h1
  rcases h1.2 with ⟨rfl, h0⟩ | ⟨g, cap, cur, rfl, hb, _⟩
  · exact .inl ⟨rfl, List.eq_nil_of_length_eq_zero h0⟩
  · exact .inr ⟨g, cap, rfl, h1', hb, h2 g rfl⟩
theorem Sl.reads {w : World} {lo hi : Nat} {v : Value} {l : List Int} (h : Sl w lo hi v l) : ∃ A c, v = .slice A l.length c ∧ Reads w hi A l ∧ l.length ≤ c := by
  rcases h.form with ⟨rfl, rfl⟩ | ⟨g, cap, rfl, ho, _, hg⟩
  · exact ⟨none, 0, rfl, fun h => by simp at h, Nat.le_refl _⟩
  · exact ⟨_, _, rfl, Reads.of_own ho hg, ho.cap.1⟩
theorem Sl.below {w w' : World} {lo hi B : Nat} {v : Value} {l : List Int} (h : Sl w lo hi v l) (hb : Below B w w') (hB : hi ≤ B) : Sl w' lo hi v l := by
  rcases h.form with ⟨rfl, rfl⟩ | ⟨g, cap, rfl, ho, _, hg⟩
  · exact Sl.nil _ _ _
  · exact Sl.of_own (ho.below hb (by omega)) hg
theorem Sl.kept {w w' : World} {lo hi : Nat} {row : Option Nat} {v : Value} {l : List Int} (h : Sl w lo hi v l) (hb : w.grownBy w' row) (hne : ∀ g, row = some g → g < lo ∨ hi ≤ g) : Sl w' lo hi v l := by
  refine ⟨h.1.kept hb ?_, h.2⟩
  rcases h.form with ⟨rfl, rfl⟩ | ⟨g, cap, rfl, ho, hlo, hg⟩
  · exact .inl rfl
  · refine .inr fun e => ?_
    have := hne g (by rw [← e]; rfl)
    omega
theorem Sl.mono {w : World} {lo hi lo' hi' : Nat} {v : Value} {l : List Int} (h : Sl w lo hi v l) (h1 : lo' ≤ lo) (h2 : hi ≤ hi') : Sl w lo' hi' v l := by
  rcases h.form with ⟨rfl, rfl⟩ | ⟨g, cap, rfl, ho, hlo, hg⟩
  · exact Sl.nil _ _ _
  · exact Sl.of_own (ho.mono h1) (by omega)
/-- numbers of a signal -/
def inSam (n : Int) : Bool := inB n (-1000000) 1000000
def sigOK (l : List Int) : Bool := decide (l.length ≤ 3000) && l.all inSam
theorem sig_len {l : List Int} (h : sigOK l = true) : l.length ≤ 3000 := by simp [sigOK] at h; exact h.1
theorem sig_at {l : List Int} (h : sigOK l = true) (k : Nat) : -1000000 ≤ l.getD k 0 ∧ l.getD k 0 ≤ 1000000 := by
  rw [List.getD_eq_getElem?_getD]
  by_cases hk : k < l.length
  · simp only [sigOK, Bool.and_eq_true, List.all_eq_true] at h
    have := h.2 l[k] (List.getElem_mem hk)
    rw [List.getElem?_eq_getElem hk]
    simpa [inSam, inB] using this
  · rw [List.getElem?_eq_none (by omega)]; simp
theorem sig_long {l : List Int} (h : ¬ l.length ≤ 3000) : sigOK l = false := by simp [sigOK, h]
theorem take_next {l : List Int} {k : Nat} (h : k < l.length) : l.take (k + 1) = l.take k ++ [l.getD k 0] := by
  rw [List.take_succ_eq_append_getElem h, List.getD_eq_getElem?_getD, List.getElem?_eq_getElem h]; rfl
theorem all_next {l : List Int} {k : Nat} (h : k < l.length) (ha : (l.take k).all inSam = true) (hx : inSam (l.getD k 0) = true) : (l.take (k + 1)).all inSam = true := by
  rw [take_next h, List.all_append, ha]; simp only [List.all_cons, List.all_nil, Bool.and_true, Bool.true_and]; exact hx
theorem all_not {l : List Int} {k : Nat} (h : k < l.length) (hx : inSam (l.getD k 0) = false) : l.all inSam = false := by
  rw [List.all_eq_false]
  refine ⟨l[k], List.getElem_mem h, ?_⟩
  rw [List.getD_eq_getElem?_getD, List.getElem?_eq_getElem h] at hx
  simpa using hx
theorem sig_all {l : List Int} (h : (l.take l.length).all inSam = true) : sigOK l = decide (l.length ≤ 3000) := by
  rw [List.take_length] at h; rw [sigOK, h, Bool.and_true]
theorem sig_not {l : List Int} {k : Nat} (h : k < l.length) (hx : inSam (l.getD k 0) = false) : sigOK l = false := by
  rw [sigOK, all_not h hx, Bool.and_false]

set_option maxHeartbeats 400000 in
theorem within_any (A : Option Addr) (c : Nat) (l : List Int) (w : World) (hr : Reads w w.heap.size A l) (hl : l.length ≤ 1048576) :
    Calls Try.prog 37 #[.slice A l.length c, .int .i64 (-1000000), .int .i64 1000000] w fun e w' => e = .returned (.bool (l.all inSam)) ∧ w = w' := by
  have HR := Lib.hid hr
  clear hr
  go_enter Try.func37, Try.ntmps37
  go_wp2
  go_loop [8, 11] (fun _ i => ∃ k : Nat, k ≤ l.length ∧ i = .int .i64 k ∧ (l.take k).all inSam = true) (fun _ i => l.length - (intOf i).toNat)
  case atStart => exact ⟨0, Nat.zero_le _, rfl, by simp⟩
  case round =>
    obtain ⟨k, hk, rfl, hall⟩ := hrel
    have HA := Lib.hid hall
    clear hall
    by_cases hlt : k < l.length
    · obtain ⟨ad, rfl, hbk, hcell⟩ := HR.out.at_ hlt
      obtain ⟨x, hx⟩ : ∃ x, x = l.getD k 0 := ⟨_, rfl⟩
      rw [← hx] at hcell
      have HX := Lib.hid hx
      clear hx
      by_cases h1 : -1000000 ≤ x
      · by_cases h2 : x ≤ 1000000
        · go_wp2
          go_round
          case rel => exact ⟨k + 1, by omega, by go_num, all_next hlt HA.out (by rw [← HX.out]; exact inB_yes h1 h2)⟩
          case measure => simp [intOf]; omega
        · go_wp2
          go_ret
          exact ⟨ret_bool (all_not hlt (by rw [← HX.out]; exact inB_no (by omega))).symm, rfl⟩
      · go_wp2
        go_ret
        exact ⟨ret_bool (all_not hlt (by rw [← HX.out]; exact inB_no (by omega))).symm, rfl⟩
    · obtain rfl : k = l.length := by omega
      go_wp2
      go_ret
      exact ⟨ret_bool (by have := HA.out; rw [List.take_length] at this; rw [this]), rfl⟩
theorem sigI_any (A : Option Addr) (c : Nat) (l : List Int) (w : World) (hr : Reads w w.heap.size A l) (hl : l.length ≤ 1048576) :
    Calls Try.prog 28 #[.slice A l.length c] w fun e w' => e = .returned (.bool (sigOK l)) ∧ w = w' := by
  by_cases h : l.length ≤ 3000
  · have e : sigOK l = l.all inSam := by rw [sigOK, decide_eq_true h, Bool.true_and]
    rw [e]
    have d1 : decide ((l.length : Int) ≤ 3000) = true := decide_eq_true (by omega)
    clear e
    go_enter Try.func28, Try.ntmps28
    go_wp2_with fail
    refine (within_any _ _ _ _ hr hl).mono ?_
    rintro e w' ⟨rfl, rfl⟩
    go_wp2
    go_ret
    exact ⟨rfl, rfl⟩
  · rw [sig_long h]
    have d1 : decide ((l.length : Int) ≤ 3000) = false := decide_eq_false (by omega)
    go_enter Try.func28, Try.ntmps28
    go_wp2
    go_ret
    exact ⟨rfl, rfl⟩
set_option maxHeartbeats 400000 in
theorem sigS_any (A : Option Addr) (c : Nat) (l : List Int) (w : World) (hr : Reads w w.heap.size A l) (hl : l.length ≤ 1048576) :
    Calls Try.prog 19 #[.slice A l.length c] w fun e w' => e = .returned (.bool (sigOK l)) ∧ w = w' := by
  have HR := Lib.hid hr
  clear hr
  go_enter Try.func19, Try.ntmps19
  go_wp2
  go_loop [3] (fun i => ∃ k : Nat, k ≤ l.length ∧ i = .int .i64 k ∧ (l.take k).all inSam = true) (fun i => l.length - (intOf i).toNat)
  case atStart => exact ⟨0, Nat.zero_le _, rfl, by simp⟩
  case round =>
    obtain ⟨k, hk, rfl, hall⟩ := hrel
    have HA := Lib.hid hall
    clear hall
    by_cases hlt : k < l.length
    · obtain ⟨ad, rfl, hbk, hcell⟩ := HR.out.at_ hlt
      obtain ⟨x, hx⟩ : ∃ x, x = l.getD k 0 := ⟨_, rfl⟩
      rw [← hx] at hcell
      have HX := Lib.hid hx
      clear hx
      by_cases h1 : -1000000 ≤ x ∧ x ≤ 1000000
      · have hi := inB_yes h1.1 h1.2
        go_wp2_with fail
        refine (l1In_any _ _ _ _).mono ?_
        rintro e w' ⟨rfl, rfl⟩
        go_wp2
        go_round
        case rel => exact ⟨k + 1, by omega, by go_num, all_next hlt HA.out (by rw [← HX.out]; exact hi)⟩
        case measure => simp [intOf]; omega
      · have hi := inB_no h1
        go_wp2_with fail
        refine (l1In_any _ _ _ _).mono ?_
        rintro e w' ⟨rfl, rfl⟩
        go_wp2
        go_ret
        exact ⟨ret_bool (sig_not hlt (by rw [← HX.out]; exact hi)).symm, rfl⟩
    · obtain rfl : k = l.length := by omega
      go_wp2
      go_ret
      exact ⟨ret_bool (by rw [sig_all HA.out]; exact decide_eq_decide.2 (by omega)), rfl⟩
set_option maxHeartbeats 400000 in
theorem toI_any (A : Option Addr) (c : Nat) (l : List Int) (w : World) (hr : Reads w w.heap.size A l) (hl : l.length ≤ 1048576) :
    Calls Try.prog 7 #[.slice A l.length c] w fun e w' => e = .returned (.slice (some ⟨w.heap.size, 0, none⟩) l.length l.length) ∧ Sl w' w.heap.size w'.heap.size (.slice (some ⟨w.heap.size, 0, none⟩) l.length l.length) l ∧ Below w.heap.size w w' := by
  have hmk := fun u => run_make_row' (P := Try.prog) 22 3 (.int .i64 0) 8 Try.underlying22 info_int rfl .i64 .i64 l.length (by omega) (by omega) u
  have HR := Lib.hid hr
  clear hr
  go_enter Try.func7, Try.ntmps7
  go_wp2
  go_loopw [4] (fun i wr => ∃ k : Nat, k ≤ l.length ∧ i = .int .i64 k ∧ wr.rowIs w.heap.size 3 l.length (fun j => if j < k then intV (l.getD j 0) else .int .i64 0) ∧ Below w.heap.size w wr) (fun i _ => l.length - (intOf i).toNat)
  case atStart => exact ⟨0, Nat.zero_le _, rfl, (World.rowIs_made w _ _ _).congr (fun _ _ => rfl), (Below.refl _ _).alloc (Nat.le_refl _) _⟩
  case round =>
    obtain ⟨k, hk, rfl, hrow, hb⟩ := hrel
    clear hmk
    by_cases hlt : k < l.length
    · obtain ⟨ad, rfl, hbk, hcell⟩ := (HR.out.below hb (Nat.le_refl _)).at_ hlt
      obtain ⟨x, hx⟩ : ∃ x, x = l.getD k 0 := ⟨_, rfl⟩
      rw [← hx] at hcell
      have HX := Lib.hid hx
      clear hx
      have hc := hrow.cell hlt
      have hf := hrow.frozen k
      simp only [Nat.lt_irrefl, if_false] at hc
      go_wp2
      go_roundw
      case rel => exact ⟨k + 1, by omega, by go_num, row_next hrow (by rw [HX.out]; rfl), hb.setCell (Nat.le_refl _) _⟩
      case measure => simp [intOf]; omega
    · obtain rfl : k = l.length := by omega
      have hown := Own.of_row (B := w.heap.size) hrow (Nat.le_refl _) (by unfold maxLen; omega)
      have e : (List.range l.length).map (fun j => if j < l.length then intV (l.getD j 0) else .int .i64 0) = l.map intV := by
        apply List.ext_getElem
        · simp
        · intro i h1 h2
          simp only [List.length_map] at h2
          simp only [List.getElem_map, List.getElem_range, if_pos h2, List.getD_eq_getElem?_getD, List.getElem?_eq_getElem h2]
          rfl
      rw [e] at hown
      have hlt2 := hrow.lt
      clear hrow e
      go_wp2
      go_ret
      exact ⟨rfl, Sl.of_own hown hlt2, hb⟩
theorem eq_all {la lb : List Int} (hl : la.length = lb.length) (h : ∀ j, j < la.length → la.getD j 0 = lb.getD j 0) : la = lb := by
  apply List.ext_getElem hl
  intro i h1 h2
  have := h i h1
  rw [List.getD_eq_getElem?_getD, List.getD_eq_getElem?_getD, List.getElem?_eq_getElem h1, List.getElem?_eq_getElem h2] at this
  exact this
set_option maxHeartbeats 400000 in
theorem eqI_any (A A' : Option Addr) (c c' : Nat) (la lb : List Int) (w : World) (ha : Reads w w.heap.size A la) (hb : Reads w w.heap.size A' lb) (hl : la.length ≤ 1048576) (hl' : lb.length ≤ 1048576) :
    Calls Try.prog 9 #[.slice A la.length c, .slice A' lb.length c'] w fun e w' => e = .returned (.bool (decide (la = lb))) ∧ Below w.heap.size w w' := by
  by_cases hlen : la.length = lb.length
  · have d1 : ((la.length : Int) != (lb.length : Int)) = false := by simp [hlen]
    have HA := Lib.hid ha
    have HB := Lib.hid hb
    have HL := Lib.hid hlen
    clear ha hb hlen
    go_enter Try.func9, Try.ntmps9
    go_wp2
    go_loopw [5] (fun i wr => ∃ k : Nat, k ≤ la.length ∧ i = .int .i64 k ∧ (∀ j, j < k → la.getD j 0 = lb.getD j 0) ∧ Below w.heap.size w wr) (fun i _ => la.length - (intOf i).toNat)
    case atStart => exact ⟨0, Nat.zero_le _, rfl, fun j hj => absurd hj (by omega), Below.refl _ _⟩
    case round =>
      obtain ⟨k, hk, rfl, hall, hbl⟩ := hrel
      have HE := Lib.hid hall
      clear hall
      by_cases hlt : k < la.length
      · have hlt2 : k < lb.length := by have := HL.out; omega
        obtain ⟨ad, rfl, hbk, hcell⟩ := (HA.out.below hbl (Nat.le_refl _)).at_ hlt
        obtain ⟨ad', rfl, hbk', hcell'⟩ := (HB.out.below hbl (Nat.le_refl _)).at_ hlt2
        obtain ⟨x, hx⟩ : ∃ x, x = la.getD k 0 := ⟨_, rfl⟩
        obtain ⟨y, hy⟩ : ∃ y, y = lb.getD k 0 := ⟨_, rfl⟩
        rw [← hx] at hcell
        rw [← hy] at hcell'
        have HX := Lib.hid hx
        have HY := Lib.hid hy
        clear hx hy
        by_cases hxy : x = y
        · have b1 : (x != y) = false := by simp [hxy]
          have HXY := Lib.hid hxy
          clear hxy
          go_wp2
          refine wp_region_still_lit (by kernel_rfl) (by kernel_rfl) ?_
          repeat (refine wpStill_step (fun K hK => ?_); (try go_simp); (try simp only [IntWalk.iteOmega]); (try go_ints); (try simp (disch := omega) only [dif_pos]); (try go_simp); refine hK _ ?_; clear hK K)
          refine wpStill_nil ?_
          go_wp2
          go_roundw
          case rel => exact ⟨k + 1, by omega, by go_num, fun j hj => by
                              rcases Nat.lt_or_ge j k with h | h
                              · exact HE.out j h
                              · obtain rfl : j = k := by omega
                                rw [← HX.out, ← HY.out, HXY.out], hbl.drew⟩
          case measure => simp [intOf]; omega
        · have b1 : (x != y) = true := by simp [hxy]
          have HXY := Lib.hid hxy
          clear hxy
          go_wp2
          refine wp_region_still_lit (by kernel_rfl) (by kernel_rfl) ?_
          repeat (refine wpStill_step (fun K hK => ?_); (try go_simp); (try simp only [IntWalk.iteOmega]); (try go_ints); (try simp (disch := omega) only [dif_pos]); (try go_simp); refine hK _ ?_; clear hK K)
          refine wpStill_nil ?_
          go_wp2
          go_ret
          exact ⟨ret_bool (decide_eq_false fun e => HXY.out (by rw [HX.out, HY.out, e])).symm, hbl.drew⟩
      · obtain rfl : k = la.length := by omega
        go_wp2
        go_ret
        exact ⟨ret_bool (decide_eq_true (eq_all HL.out HE.out)).symm, hbl⟩
  · have d1 : ((la.length : Int) != (lb.length : Int)) = true := by simp; omega
    have e : decide (la = lb) = false := decide_eq_false fun e => hlen (by rw [e])
    rw [e]
    clear e hlen
    go_enter Try.func9, Try.ntmps9
    go_wp2
    go_ret
    exact ⟨rfl, Below.refl _ _⟩
/-- two slices that the law holds have the same numbers -/
theorem eqS_any {w : World} {lo hi lo' hi' : Nat} {v v' : Value} {l : List Int} (h : Sl w lo hi v l) (h' : Sl w lo' hi' v' l) (hh : hi ≤ w.heap.size) (hh' : hi' ≤ w.heap.size) (hl : l.length ≤ 1048576) :
    Calls Try.prog 9 #[v, v'] w fun e w' => e = .returned (.bool true) ∧ Below w.heap.size w w' := by
  obtain ⟨A, c, rfl, hr, _⟩ := h.reads
  obtain ⟨A', c', rfl, hr', _⟩ := h'.reads
  refine (eqI_any A A' c c' l l w (hr.more hh) (hr'.more hh') hl hl).mono fun e w' ⟨he, hb⟩ => ⟨by rw [he]; simp, hb⟩
/-- the numbers from k on -/
def fromL (k : Int) (n : Nat) : List Int := (List.range n).map fun j : Nat => k + (j : Int)
theorem fromL_len (k : Int) (n : Nat) : (fromL k n).length = n := by simp [fromL]
theorem fromL_getD (k : Int) (n j : Nat) (h : j < n) : (fromL k n).getD j 0 = k + j := by simp [fromL, List.getD_eq_getElem?_getD, h]
theorem set_mark {xs : List Value} {n k : Nat} {f : Nat → Value} (hn : xs.length = n) (hk : k < n) (h : ∀ j, j < k → xs[j]? = some (f j)) : ∀ j, j < k + 1 → (xs.set k (f k))[j]? = some (f j) := by
  intro j hj
  by_cases e : j = k
  · subst e; rw [List.getElem?_set_self (by omega)]
  · rw [List.getElem?_set_ne (by omega)]; exact h j (by omega)
set_option maxHeartbeats 400000 in
theorem mark_own (g n cap : Nat) (xs : List Value) (B : Nat) (k0 : Int) (w : World) (ho : Own w B 3 g n cap xs) (hn : n ≤ 1048576) (h0 : 0 ≤ k0) (h1 : k0 ≤ 10) :
    Calls Try.prog 10 #[.slice (some ⟨g, 0, none⟩) n cap, .int .i64 k0] w fun e w' => e = .returned (.int .i64 (k0 + n)) ∧ Own w' B 3 g n cap ((fromL k0 n).map intV) ∧ w.grownBy w' (some g) := by
  go_enter Try.func10, Try.ntmps10
  go_wp2
  go_loopw [1, 5] (fun m i wr => ∃ (k : Nat) (ys : List Value), k ≤ n ∧ i = .int .i64 k ∧ m = .int .i64 (k0 + k) ∧ Own wr B 3 g n cap ys ∧ (∀ j, j < k → ys[j]? = some (intV (k0 + (j : Int)))) ∧ w.grownBy wr (some g)) (fun _ i _ => n - (intOf i).toNat)
  case atStart => exact ⟨0, xs, Nat.zero_le _, rfl, by simp, ho, fun j hj => absurd hj (by omega), World.grownBy.refl _ _⟩
  case round =>
    obtain ⟨k, ys, hk, rfl, rfl, hown, hys, hgr⟩ := hrel
    have HY := Lib.hid hys
    clear hys
    by_cases hlt : k < n
    · have hlen := hown.len
      have hc := hown.cell hlt
      rw [List.getElem?_eq_getElem (by omega)] at hc
      have hf := hown.frozen k
      have HL := Lib.hid hlen
      obtain ⟨u, hu⟩ : ∃ u, u = ys[k]'(by omega) := ⟨_, rfl⟩
      rw [← hu] at hc
      clear hu hlen
      go_wp2
      go_roundw
      case rel => exact ⟨k + 1, ys.set k (intV (k0 + k)), by omega, by go_num, by go_num, hown.set k _, set_mark HL.out hlt HY.out, ⟨hgr.os, hgr.tape, hgr.output, by simpa [World.setCell] using hgr.size, fun i hi hne => (Below.heap_setCell _ _ _ _ (by intro e; exact hne (by rw [e]))).trans (hgr.block i hi hne)⟩⟩
      case measure => simp [intOf]; omega
    · obtain rfl : k = n := by omega
      have hlen := hown.len
      have e : ys = (fromL k0 k).map intV := by
        apply List.ext_getElem?
        intro i
        by_cases hi : i < k
        · rw [HY.out i hi, intV_at _ _ (by rw [fromL_len]; exact hi), fromL_getD _ _ _ hi]; rfl
        · rw [List.getElem?_eq_none (by omega), List.getElem?_eq_none (by rw [List.length_map, fromL_len]; omega)]
      subst e
      clear hlen
      go_wp2
      go_ret
      exact ⟨rfl, hown, hgr⟩
theorem mark_nil (k0 : Int) (w : World) : Calls Try.prog 10 #[.slice none 0 0, .int .i64 k0] w fun e w' => e = .returned (.int .i64 k0) ∧ w = w' := by
  go_enter Try.func10, Try.ntmps10
  go_wp2
  go_loop [1, 5] (fun m i => m = .int .i64 k0 ∧ i = .int .i64 0) (fun _ _ => 0)
  case atStart => exact ⟨rfl, rfl⟩
  case round =>
    obtain ⟨rfl, rfl⟩ := hrel
    go_wp2
    go_ret
    exact ⟨rfl, rfl⟩
theorem mark_any {w : World} {lo hi : Nat} {v : Value} {l : List Int} (h : Sl w lo hi v l) (hl : l.length ≤ 1048576) :
    Calls Try.prog 10 #[v, .int .i64 1] w fun e w' => e = .returned (.int .i64 (1 + (l.length : Int))) ∧ Sl w' lo hi v (fromL 1 l.length) ∧ ∃ row, w.grownBy w' row ∧ ∀ g, row = some g → lo ≤ g ∧ g < hi := by
  rcases h.form with ⟨rfl, rfl⟩ | ⟨g, cap, rfl, ho, hlo, hhi⟩
  · refine (mark_nil 1 w).mono fun e w' ⟨he, hw⟩ => ⟨by rw [he]; simp, ?_, none, ?_, fun g h => by cases h⟩
    · exact Sl.nil _ _ _
    · subst hw; exact World.grownBy.refl _ _
  · refine (mark_own g _ cap _ lo 1 w ho hl (by omega) (by omega)).mono fun e w' ⟨he, h1, h2⟩ => ⟨he, ?_, some g, h2, fun g' e => by injection e with e; omega⟩
    exact Sl.of_own h1 hhi
set_option maxHeartbeats 400000 in
theorem held_reads (A : Option Addr) (n c : Nat) (w : World) (hr : Reads w w.heap.size A (fromL 1 n)) (hn : n ≤ 1048576) :
    Calls Try.prog 11 #[.slice A n c, .int .i64 1] w fun e w' => e = .returned (.int .i64 (1 + (n : Int))) ∧ w = w' := by
  have HR := Lib.hid hr
  clear hr
  go_enter Try.func11, Try.ntmps11
  go_wp2
  go_loop [1, 5] (fun m i => ∃ k : Nat, k ≤ n ∧ i = .int .i64 k ∧ m = .int .i64 (1 + (k : Int))) (fun _ i => n - (intOf i).toNat)
  case atStart => exact ⟨0, Nat.zero_le _, rfl, rfl⟩
  case round =>
    obtain ⟨k, hk, rfl, rfl⟩ := hrel
    by_cases hlt : k < n
    · obtain ⟨ad, rfl, hbk, hcell⟩ := HR.out.at_ (k := k) (by rw [fromL_len]; exact hlt)
      rw [fromL_getD _ _ _ hlt] at hcell
      have b1 : ((1 + (k : Int)) != (1 + (k : Int))) = false := by simp
      go_wp2
      go_round
      case rel => exact ⟨k + 1, by omega, by go_num, by go_num⟩
      case measure => simp [intOf]; omega
    · obtain rfl : k = n := by omega
      go_wp2
      go_ret
      exact ⟨rfl, rfl⟩
theorem held_any {w : World} {lo hi n : Nat} {v : Value} (h : Sl w lo hi v (fromL 1 n)) (hh : hi ≤ w.heap.size) (hl : n ≤ 1048576) :
    Calls Try.prog 11 #[v, .int .i64 1] w fun e w' => e = .returned (.int .i64 (1 + (n : Int))) ∧ w = w' := by
  obtain ⟨A, c, rfl, hr, _⟩ := h.reads
  rw [fromL_len]
  exact held_reads A n c w (hr.more hh) hl
end Go.Proofs.Ytfcnpbcnpielcaa
