/- Contract of the reference's sum of two signals (with wrapping sums). -/
import Derived.Test.YtiiiaeemblcniaaDrawT
import Derived.Laws.CopyOwn
namespace Go.Proofs.Ytiiiaeemblcniaa
open Go.ChangeShapes Go.WideShapes Go.ChangeAt Go.RowKit
set_option linter.unusedVariables false
set_option linter.unusedSimpArgs false

def addL5 (a b : List Int) : List Int := (List.range (max a.length b.length)).map fun j => if j < b.length then wrap64 (a.getD j 0 + b.getD j 0) else a.getD j 0
theorem addL5_len (a b : List Int) : (addL5 a b).length = max a.length b.length := by simp [addL5]
theorem splice_row {w2 : World} {g n : Nat} {c : Array Value} {t : TypeId} {l : List Int} (hc : c.size = n) (hz : ∀ i, i < n → c[i]? = some (.int .i64 0)) (hl : l.length ≤ n)
    (h : w2.heap[g]? = some (.cells (splice c.toList 0 (l.map intV)).toArray t (0, 0))) : w2.rowIs g t n (fun j => intV (l.getD j 0)) := by
  refine ⟨_, h, ?_, fun i hi => ?_⟩
  · simp [splice]; omega
  · rw [List.getElem?_toArray]
    unfold splice
    rw [List.take_zero, List.nil_append]
    by_cases hil : i < l.length
    · rw [List.getElem?_append_left (by simpa using hil), List.getElem?_map]
      show _ = some (intV (l.getD i 0))
      rw [List.getD_eq_getElem?_getD, List.getElem?_eq_getElem hil]; rfl
    · rw [List.getElem?_append_right (by simp; omega), List.getElem?_drop, show 0 + (l.map intV).length + (i - (l.map intV).length) = i by simp; omega, Array.getElem?_toList, hz i hi]
      show _ = some (intV (l.getD i 0))
      rw [List.getD_eq_getElem?_getD, List.getElem?_eq_none (by omega)]; rfl
set_option maxHeartbeats 2000000 in
set_option maxRecDepth 4000 in
theorem l4Add_len (A C : Option Addr) (ca cb : Nat) (a b : List Int) (la lb : Nat) (EA : Hid (a.length = la)) (EB : Hid (b.length = lb)) (w : World) (ha : Reads w w.heap.size A a) (hb : Reads w w.heap.size C b) (hla : la ≤ 20000) (hlb : lb ≤ 20000) :
    Calls Try.prog 42 #[.slice A la ca, .slice C lb cb] w fun e w' => ∃ v, e = .returned v ∧ Sl w' w.heap.size w'.heap.size v (addL5 a b) ∧ Below w.heap.size w w' := by
  obtain ⟨n, hn⟩ : ∃ n, n = max la lb := ⟨_, rfl⟩
  have HN := Lib.hid hn.symm
  have hna : la ≤ n := by omega
  have hnb : lb ≤ n := by omega
  have hn2 : n ≤ 20000 := by omega
  have hmk := fun u => run_make_row' (P := Try.prog) 23 3 (.int .i64 0) 8 Try.underlying23 info_int rfl .i64 .i64 n (by omega) (by omega) u
  obtain ⟨c, hc, hcs, hcz⟩ := World.rowIs_made w (.int .i64 0) n 3
  have hbW : Below w.heap.size w (w.alloc (.cells (madeCells #[.int .i64 0] n) 3)) := (Below.refl _ _).alloc (Nat.le_refl _) _
  have HA := Lib.hid ha
  have HB := Lib.hid hb
  have HBW := Lib.hid hbW
  have HC := Lib.hid hc
  have HZ := Lib.hid hcz
  clear ha hb hbW hc hcz hn
  rcases (show (la < lb ∧ lb = n) ∨ (¬ la < lb ∧ la = n) by have := HN.out; omega) with ⟨hab, rfl⟩ | ⟨hab, rfl⟩
  all_goals
    go_enter Try.func42, Try.ntmps42
    go_wp2_with (refine wpList_copy_splice rfl _ _ _ _ rfl 3 Try.underlying23 rfl _ _ _ _ _ _ rfl rfl w.heap.size 0 c.toList 3 (by simpa using HC.out) (a.map intV) (by rw [List.length_map, EA.out]; exact (Nat.min_eq_left hna).symm) (fun hp => ⟨rfl, by have hp2 : 0 < a.length := by { rw [List.length_map] at hp; exact hp }; obtain ⟨ad, h1, h2, h3⟩ := HA.out hp2; refine ⟨ad, h1, fun j v hv => ?_⟩; rw [List.getElem?_map] at hv; obtain ⟨y, hy, rfl⟩ := Option.map_eq_some_iff.1 hv; have hj : j < a.length := by { by_cases hj : j < a.length; exact hj; rw [List.getElem?_eq_none (by omega)] at hy; cases hy }; rw [HBW.out.cell (by rw [add_block]; exact h2), h3 j hj, List.getD_eq_getElem?_getD, hy]; rfl⟩) (by rw [List.length_map, EA.out, Array.length_toList, hcs]; omega) (by intro v hv; obtain ⟨y, _, rfl⟩ := List.mem_map.1 hv; rfl) w.heap.size w HBW.out (Nat.le_refl _) ?_; intro w2 hs2 hb2)
    have hrow := splice_row hcs HZ.out (by rw [EA.out]; exact hna) hs2.out
    clear hs2 HC
    go_loopw [6] (fun i wr => ∃ k : Nat, k ≤ lb ∧ i = .int .i64 k ∧ wr.rowIs w.heap.size 3 (max la lb) (fun j => intV (if j < k then wrap64 (a.getD j 0 + b.getD j 0) else a.getD j 0)) ∧ Below w.heap.size w wr) (fun i _ => lb - (intOf i).toNat)
    case atStart => exact ⟨0, Nat.zero_le _, rfl, by rw [HN.out]; exact hrow.congr (fun _ _ => rfl), hb2⟩
    case round =>
      clear hrow hb2
      obtain ⟨k, hk, rfl, hrow, hb⟩ := hrel
      by_cases hlt : k < lb
      · have hkn : k < max la lb := by omega
        rw [HN.out] at hkn
        obtain ⟨x, hx⟩ : ∃ x, x = a.getD k 0 := ⟨_, rfl⟩
        obtain ⟨y, hy⟩ : ∃ y, y = b.getD k 0 := ⟨_, rfl⟩
        have hc : wr.cell? ⟨w.heap.size, k, none⟩ = some (.int .i64 x) := by rw [hrow.cell (i := k) (by omega)]; show some (intV _) = _; rw [if_neg (Nat.lt_irrefl k), ← hx]; rfl
        have hf := hrow.frozen k
        obtain ⟨ad, rfl, hadb, hcell⟩ := HB.out (by rw [EB.out]; omega)
        have hd : wr.cell? (ad.add k) = some (.int .i64 y) := by rw [hb.cell (by rw [add_block]; exact hadb), hy]; exact hcell k (by rw [EB.out]; exact hlt)
        have HX := Lib.hid hx
        have HY := Lib.hid hy
        have HR := Lib.hid hrow
        clear hcell hx hy hrow
        go_wp2
        go_region
        all_goals
          go_wp2
          go_roundw
          case rel =>
            have hfin : (wr.setCell ⟨w.heap.size, k, none⟩ (.int .i64 (wrap64 (x + y)))).rowIs w.heap.size 3 (max la lb) (fun j => intV (if j < k + 1 then wrap64 (a.getD j 0 + b.getD j 0) else a.getD j 0)) := by
              refine World.rowIs.congr (HR.out.set k (.int .i64 (wrap64 (x + y)))) (fun j _ => ?_)
              by_cases hj : j = k
              · subst hj
                rw [if_pos rfl, if_pos (Nat.lt_succ_self _), HX.out, HY.out]; rfl
              · rw [if_neg hj]
                by_cases hj2 : j < k
                · rw [if_pos hj2, if_pos (by omega)]
                · rw [if_neg hj2, if_neg (by omega)]
            exact ⟨k + 1, by omega, by go_num, hfin, by first | exact (hb.setCell (Nat.le_refl _) _).drew | exact hb.drew.setCell (Nat.le_refl _) _⟩
          case measure => simp [intOf]; omega
      · obtain rfl : k = lb := by omega
        go_wp2
        go_ret
        refine ⟨_, rfl, ?_, hb⟩
        have := sl_of_row (lo := w.heap.size) (f := fun j => if j < k then wrap64 (a.getD j 0 + b.getD j 0) else a.getD j 0) (hrow.congr (fun j hj => by rw [if_pos hj])) (Nat.le_refl _) (by omega)
        unfold addL5
        rw [EA.out, EB.out]
        rw [HN.out] at this ⊢
        exact this
theorem l4Add_any (A C : Option Addr) (ca cb : Nat) (a b : List Int) (w : World) (ha : Reads w w.heap.size A a) (hb : Reads w w.heap.size C b) (hla : a.length ≤ 20000) (hlb : b.length ≤ 20000) :
    Calls Try.prog 42 #[.slice A a.length ca, .slice C b.length cb] w fun e w' => ∃ v, e = .returned v ∧ Sl w' w.heap.size w'.heap.size v (addL5 a b) ∧ Below w.heap.size w w' :=
  l4Add_len A C ca cb a b _ _ (Lib.hid rfl) (Lib.hid rfl) w ha hb hla hlb
end Go.Proofs.Ytiiiaeemblcniaa
