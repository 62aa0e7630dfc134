/- Contracts of ScoreTable and BestOffset. -/
import Derived.Test.YtholipfekecloaaReady
namespace Go.Proofs.Ytholipfekecloaa
set_option maxRecDepth 20000
open Go.ChangeShapes Go.WideShapes Go.ChangeAt Go.RowKit
set_option linter.unusedVariables false
set_option linter.unusedSimpArgs false

theorem alloc_size (w : World) (o : Obj) : (w.alloc o).heap.size = w.heap.size + 1 := by simp
/-- a call returned a slice of its own with the numbers l -/
def RetL (l : List Int) (w : World) (e : Ending) (w' : World) : Prop := ∃ v, e = .returned v ∧ Sl w' w.heap.size w'.heap.size v l ∧ Below w.heap.size w w'
theorem RetL.mk {l : List Int} {w w' : World} {v : Value} (h : Sl w' w.heap.size w'.heap.size v l) (hb : Below w.heap.size w w') : RetL l w (.returned v) w' := ⟨v, rfl, h, hb⟩
def RetLB (l : List Int) (b : Bool) (w : World) (e : Ending) (w' : World) : Prop := ∃ v, e = .returned (.tuple #[v, .bool b]) ∧ Sl w' w.heap.size w'.heap.size v l ∧ Below w.heap.size w w'
theorem RetLB.mk {l : List Int} {b : Bool} {w w' : World} {v : Value} (h : Sl w' w.heap.size w'.heap.size v l) (hb : Below w.heap.size w w') : RetLB l b w (.returned (.tuple #[v, .bool b])) w' := ⟨v, rfl, h, hb⟩
/-- a row that the call filled -/
theorem sl_of_row {w' : World} {lo g n : Nat} {f : Nat → Int} (h : w'.rowIs g 3 n (fun j => if j < n then intV (f j) else .int .i64 0)) (hlo : lo ≤ g) (hn : n ≤ 1048576) : Sl w' lo w'.heap.size (.slice (some ⟨g, 0, none⟩) n n) ((List.range n).map f) := by
  have hown := Own.of_row (B := lo) h hlo (by unfold maxLen; omega)
  have e : (List.range n).map (fun j => if j < n then intV (f j) else .int .i64 0) = ((List.range n).map f).map intV := by
    rw [List.map_map]
    apply List.map_congr_left
    intro j hj
    simp only [List.mem_range] at hj
    rw [if_pos hj]; rfl
  rw [e] at hown
  exact Sl.of_own hown h.lt
theorem rowIs_below {w w' : World} {B g n : Nat} {e : TypeId} {f : Nat → Value} (h : w.rowIs g e n f) (hb : Below B w w') (hg : g < B) : w'.rowIs g e n f := h.of_block (hb.block g hg)
/-- the scores of all offsets -/
def tabL (z : List Int) (l : List UInt8) (m : Nat) : List Int := (List.range (l.length * m)).map fun off => score z l m off 0
def tableL (z : List Int) (s : ByteArray) (n : Int) : List Int := if sigOK z && pilotOK s.data.toList n then tabL z s.data.toList n.toNat else []
theorem tableL_no {z : List Int} {s : ByteArray} {n : Int} (h : (sigOK z && pilotOK s.data.toList n) = false) : tableL z s n = [] := if_neg (by simp [h])
theorem tableL_yes {z : List Int} {s : ByteArray} {m : Nat} (h : (sigOK z && pilotOK s.data.toList (m : Int)) = true) : tableL z s (m : Int) = (List.range (s.size * m)).map fun off => score z s.data.toList m off 0 := by
  unfold tableL; rw [if_pos h, Int.toNat_natCast, tabL, data_length]
theorem tableL_len (z : List Int) (s : ByteArray) (n : Int) : (tableL z s n).length ≤ 2040 := by
  cases h : (sigOK z && pilotOK s.data.toList n)
  · rw [tableL_no h]; simp
  · have h2 := h
    rw [Bool.and_eq_true] at h2
    obtain ⟨m, rfl, _, _, _, _, _, h6⟩ := pilot_nat h2.2
    rw [tableL_yes h]; simpa using h6
set_option maxHeartbeats 1000000 in
theorem tabI_any (A : Option Addr) (c : Nat) (z : List Int) (s : ByteArray) (n : Int) (w : World) (hr : Reads w w.heap.size A z) (hl : z.length ≤ 1048576) (hs : s.size ≤ maxLen) :
    Calls Try.prog 41 #[.slice A z.length c, .agg #[.string s, .int .i64 n]] w (RetL (tableL z s n) w) := by
  have HR := Lib.hid hr
  cases hz : sigOK z
  · rw [tableL_no (by simp [hz])]
    clear hr
    go_enter Try.func41, Try.ntmps41
    have hb := Below.refl (w.alloc (.cells #[.string s, .int .i64 n] 24)).heap.size (w.alloc (.cells #[.string s, .int .i64 n] 24))
    go_wp2_with fail
    refine (sigI_any _ _ _ _ (reads_up HR.out hb) hl).mono ?_
    rintro e w' ⟨rfl, rfl⟩
    go_wp2
    go_ret
    exact RetL.mk (Sl.nil _ _ _) (below_out hb)
  · cases hp : pilotOK s.data.toList n
    · rw [tableL_no (by simp [hp])]
      clear hr
      go_enter Try.func41, Try.ntmps41
      have hb := Below.refl (w.alloc (.cells #[.string s, .int .i64 n] 24)).heap.size (w.alloc (.cells #[.string s, .int .i64 n] 24))
      go_wp2_with fail
      refine (sigI_any _ _ _ _ (reads_up HR.out hb) hl).mono ?_
      rintro e w' ⟨rfl, rfl⟩
      go_wp2_with fail
      refine (pilotI_any _ _ _ hs).mono ?_
      rintro e w1 ⟨rfl, k⟩
      replace hb := below_next hb k
      clear k
      (try clear hc hf)
      obtain ⟨hc, hf⟩ := bcell hb
      go_wp2
      go_ret
      exact RetL.mk (Sl.nil _ _ _) (below_out hb)
    · obtain ⟨m, rfl, h1, h2, h3, h4, h5, h6⟩ := pilot_nat hp
      rw [tableL_yes (by simp [hz, hp])]
      obtain ⟨L, hLe⟩ : ∃ L, L = s.size * m := ⟨_, rfl⟩
      have HPL : Hid (∀ u : World, Calls Try.prog 13 #[.agg #[.string s, .int .i64 (m : Int)]] u fun e w' => e = .returned (.int .i64 (L : Int)) ∧ Below u.heap.size u w') := fun u => by rw [hLe]; exact plenI_nat u hp hs
      have HSC : Hid (∀ (q : Nat) (u : World), q < L → Below (w.alloc (.cells #[.string s, .int .i64 (m : Int)] 24)).heap.size (w.alloc (.cells #[.string s, .int .i64 (m : Int)] 24)) u → Calls Try.prog 68 #[.slice A z.length c, .agg #[.string s, .int .i64 (m : Int)], .int .i64 q] u fun e w' => e = .returned (.int .i64 (score z s.data.toList m q 0)) ∧ Below u.heap.size u w') := fun q u hq hu =>
        scoreI_any A c z s m q u (reads_up hr hu) hz h1 h2 h3 h4 h6 (by omega) (by omega)
      rw [← hLe] at h5 h6 ⊢
      have hmk := fun u => run_make_row' (P := Try.prog) 32 3 (.int .i64 0) 8 Try.underlying32 info_int rfl .i64 .i64 L (by omega) (by omega) u
      clear hr hLe
      go_enter Try.func41, Try.ntmps41
      have hb := Below.refl (w.alloc (.cells #[.string s, .int .i64 (m:Int)] 24)).heap.size (w.alloc (.cells #[.string s, .int .i64 (m:Int)] 24))
      go_wp2_with fail
      refine (sigI_any _ _ _ _ (reads_up HR.out hb) hl).mono ?_
      rintro e w' ⟨rfl, rfl⟩
      go_wp2_with fail
      refine (pilotI_any _ _ _ hs).mono ?_
      rintro e w1 ⟨rfl, k⟩
      replace hb := below_next hb k
      clear k
      (try clear hc hf)
      obtain ⟨hc, hf⟩ := bcell hb
      go_wp2_with fail
      refine (HPL.out _).mono ?_
      rintro e w2 ⟨rfl, k⟩
      replace hb := below_next hb k
      clear k
      (try clear hc hf)
      obtain ⟨hc, hf⟩ := bcell hb
      clear hc hf
      go_wp2
      have hw2 := hb.size
      simp only [alloc_size] at hw2
      go_loopw [6, 20] (fun _ i wr => ∃ k : Nat, k ≤ L ∧ i = .int .i64 k ∧ wr.rowIs w2.heap.size 3 L (fun j => if j < k then intV (score z s.data.toList m j 0) else .int .i64 0) ∧ Below (w.alloc (.cells #[.string s, .int .i64 (m : Int)] 24)).heap.size (w.alloc (.cells #[.string s, .int .i64 (m : Int)] 24)) wr) (fun _ i _ => L - (intOf i).toNat)
      case atStart => exact ⟨0, Nat.zero_le _, rfl, (World.rowIs_made w2 _ _ _).congr (fun _ _ => rfl), hb.alloc hb.size _⟩
      case round =>
        clear hb hmk
        obtain ⟨k, hk, rfl, hrow, hb⟩ := hrel
        by_cases hlt : k < L
        · obtain ⟨hc, hf⟩ := bcell hb
          go_wp2_with fail
          refine (HSC.out _ _ hlt hb).mono ?_
          rintro e w3 ⟨rfl, k3⟩
          replace hb := below_next hb k3
          replace hrow := rowIs_below hrow k3 hrow.lt
          clear hc hf k3
          have hc := hrow.cell hlt
          have hf := hrow.frozen k
          simp only [Nat.lt_irrefl, if_false] at hc
          go_wp2
          go_roundw
          case rel => exact ⟨k + 1, by omega, by go_num, row_next hrow rfl, hb.setCell (by simp; omega) _⟩
          case measure => simp [intOf]; omega
        · obtain rfl : k = L := by omega
          go_wp2
          go_ret
          exact RetL.mk (sl_of_row hrow (by omega) (by omega)) (below_out hb)
theorem range_snoc (f : Nat → Int) (k : Nat) : ((List.range k).map f).map intV ++ [.int .i64 (f k)] = ((List.range (k + 1)).map f).map intV := by
  rw [List.range_succ, List.map_append, List.map_append]; rfl
set_option maxHeartbeats 1000000 in
theorem tabS_any (A : Option Addr) (c : Nat) (z : List Int) (s : ByteArray) (n : Int) (w : World) (hr : Reads w w.heap.size A z) (hl : z.length ≤ 1048576) (hs : s.size ≤ maxLen) :
    Calls Try.prog 79 #[.slice A z.length c, .agg #[.string s, .int .i64 n]] w (RetL (tableL z s n) w) := by
  have HR := Lib.hid hr
  cases hrd : (sigOK z && pilotOK s.data.toList n)
  · rw [tableL_no hrd]
    clear hr
    go_enter Try.func79, Try.ntmps79
    go_wp2
    go_loopw [5, 6] (fun v i wr => i = .int .i64 0 ∧ v = .slice (some ⟨w.heap.size + 1, 0, none⟩) 0 0 ∧ Own wr w.heap.size 3 (w.heap.size + 1) 0 0 [] ∧ Below (w.alloc (.cells #[.string s, .int .i64 n] 24)).heap.size (w.alloc (.cells #[.string s, .int .i64 n] 24)) wr) (fun _ _ _ => 0)
    case atStart =>
      have ho := Own.lit (w := w.alloc (.cells #[.string s, .int .i64 n] 24)) (B := w.heap.size) 3 #[] 0 (by simp) (by unfold maxLen; omega) rfl
      simp only [alloc_size] at ho
      exact ⟨rfl, rfl, ho, (Below.refl _ _).alloc (Nat.le_refl _) _⟩
    case round =>
      obtain ⟨rfl, rfl, ho, hb⟩ := hrel
      obtain ⟨hc, hf⟩ := bcell hb
      go_wp2_with fail
      refine (readyS_any _ _ _ _ _ _ (reads_up HR.out hb) hl hs).mono ?_
      rintro e w1 ⟨rfl, k⟩
      have hb2 := below_next hb k
      have ho2 := ho.below k ho.lt.2
      go_wp2
      go_ret
      exact RetL.mk (Sl.of_own (l := []) ho2 ho2.lt.2) (below_out hb2)
  · have hrd2 := hrd
    rw [Bool.and_eq_true] at hrd2
    obtain ⟨hz, hp⟩ := hrd2
    obtain ⟨m, rfl, h1, h2, h3, h4, h5, h6⟩ := pilot_nat hp
    rw [tableL_yes hrd]
    obtain ⟨L, hLe⟩ : ∃ L, L = s.size * m := ⟨_, rfl⟩
    have HPL : Hid (∀ u : World, Calls Try.prog 54 #[.agg #[.string s, .int .i64 (m : Int)]] u fun e w' => e = .returned (.int .i64 (L : Int)) ∧ Below u.heap.size u w') := fun u => by rw [hLe]; exact l5Len_nat s m u h6
    have HSC : Hid (∀ (q : Nat) (u : World), q < L → Below (w.alloc (.cells #[.string s, .int .i64 (m : Int)] 24)).heap.size (w.alloc (.cells #[.string s, .int .i64 (m : Int)] 24)) u → Calls Try.prog 74 #[.slice A z.length c, .int .i64 0, .agg #[.string s, .int .i64 (m : Int)], .int .i64 q] u fun e w' => e = .returned (.int .i64 (score z s.data.toList m q 0)) ∧ Below u.heap.size u w') := fun q u hq hu =>
      scoreS_any A c z s m q 0 u (reads_up hr hu) hz hp (by omega) (by omega)
    rw [← hLe] at h5 h6 ⊢
    clear hr hLe
    go_enter Try.func79, Try.ntmps79
    go_wp2
    go_loopw [5, 6] (fun v i wr => ∃ k g cap : Nat, k ≤ L ∧ i = .int .i64 k ∧ v = .slice (some ⟨g, 0, none⟩) k cap ∧ Own wr (w.alloc (.cells #[.string s, .int .i64 (m : Int)] 24)).heap.size 3 g k cap (((List.range k).map fun off => score z s.data.toList m off 0).map intV) ∧ Below (w.alloc (.cells #[.string s, .int .i64 (m : Int)] 24)).heap.size (w.alloc (.cells #[.string s, .int .i64 (m : Int)] 24)) wr) (fun _ i _ => L - (intOf i).toNat)
    case atStart =>
      have ho := Own.lit (w := (w.alloc (.cells #[.string s, .int .i64 (m : Int)] 24))) (B := (w.alloc (.cells #[.string s, .int .i64 (m : Int)] 24)).heap.size) 3 #[] 0 (Nat.le_refl _) (by unfold maxLen; omega) rfl
      exact ⟨0, _, 0, Nat.zero_le _, rfl, by simp, ho, (Below.refl _ _).alloc (Nat.le_refl _) _⟩
    case round =>
      obtain ⟨k, g, cap, hk, rfl, rfl, hown, hb⟩ := hrel
      obtain ⟨hc, hf⟩ := bcell hb
      go_wp2_with fail
      refine (readyS_any _ _ _ _ _ _ (reads_up HR.out hb) hl hs).mono ?_
      rintro e w1 ⟨rfl, k1⟩
      replace hown := hown.below k1 hown.lt.2
      replace hb := below_next hb k1
      clear hc hf k1
      obtain ⟨hc, hf⟩ := bcell hb
      go_wp2_with fail
      refine (HPL.out _).mono ?_
      rintro e w2 ⟨rfl, k2⟩
      replace hown := hown.below k2 hown.lt.2
      replace hb := below_next hb k2
      clear hc hf k2
      by_cases hlt : k < L
      · obtain ⟨hc, hf⟩ := bcell hb
        have HN := Lib.hid (range_snoc (fun off => score z s.data.toList m off 0) k)
        go_wp2_with fail
        refine (HSC.out _ _ hlt hb).mono ?_
        rintro e w3 ⟨rfl, k3⟩
        replace hown := hown.below k3 hown.lt.2
        replace hb := below_next hb k3
        clear hc hf k3
        go_wp2_with (at_builtin; refine app1 32 3 Try.underlying32 info_int rfl rfl _ _ rfl (w.alloc (.cells #[.string s, .int .i64 (m : Int)] 24)).heap.size g k cap _ _ rfl rfl hown hb (Nat.le_refl _) rfl (by omega) (by unfold maxLen; omega) ?_; intro g' cap' w' hown' hb')
        rw [HN.out] at hown'
        clear hown hb
        go_wp2
        go_roundw
        case rel => exact ⟨k + 1, g', cap', by omega, by go_num, rfl, hown', hb'⟩
        case measure => simp [intOf]; omega
      · obtain rfl : k = L := by omega
        go_wp2
        go_ret
        exact RetL.mk (Sl.of_own (hown.mono (by simp)) hown.lt.2) (below_out hb)
end Go.Proofs.Ytholipfekecloaa
