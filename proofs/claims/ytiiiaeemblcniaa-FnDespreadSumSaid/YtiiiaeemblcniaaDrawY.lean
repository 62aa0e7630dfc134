/- Contract of the sum of the signals of users (exact). -/
import Derived.Test.YtiiiaeemblcniaaDrawX
namespace Go.Proofs.Ytiiiaeemblcniaa
set_option maxRecDepth 20000
open Go.ChangeShapes Go.WideShapes Go.ChangeAt Go.RowKit
set_option linter.unusedVariables false
set_option linter.unusedSimpArgs false

/-- users lie in a block -/
def RU (w : World) (q : Nat) (us : List Usr) : Prop := q < w.heap.size ∧ ∀ i, i < us.length → ∃ c d : List UInt8, ∃ a y : Nat, us[i]? = some (c, d, a, y) ∧
  w.cell? ⟨q, i * 4, none⟩ = some (.string (str c)) ∧ w.cell? ⟨q, i * 4 + 1, none⟩ = some (.string (str d)) ∧ w.cell? ⟨q, i * 4 + 2, none⟩ = some (.int .i64 (a : Int)) ∧ w.cell? ⟨q, i * 4 + 3, none⟩ = some (.int .i64 (y : Int))
theorem RU.block {w w' : World} {q : Nat} {us : List Usr} (h : RU w q us) (hb : w'.heap[q]? = w.heap[q]?) (hs : w.heap.size ≤ w'.heap.size) : RU w' q us := by
  obtain ⟨h0, h⟩ := h
  have c := fun i => (cell_block (w := w) (w' := w') (p := ⟨q, i, none⟩) hb).1
  refine ⟨by omega, fun i hi => ?_⟩
  obtain ⟨x, d, a, y, h1, h2, h3, h4, h5⟩ := h i hi
  exact ⟨x, d, a, y, h1, (c _).trans h2, (c _).trans h3, (c _).trans h4, (c _).trans h5⟩
theorem RU.below {w w' : World} {q : Nat} {us : List Usr} (h : RU w q us) (hb : Below w.heap.size w w') : RU w' q us := h.block (hb.block q h.1) hb.size
theorem RU.keeps {w w' : World} {q g : Nat} {us : List Usr} (h : RU w q us) (hk : Keeps g w w') (hne : q ≠ g) : RU w' q us := h.block (hk.other q hne h.1) hk.size
theorem usV_at (us : List Usr) : ∀ i, i < us.length → ∃ c d : List UInt8, ∃ a y : Nat, us[i]? = some (c, d, a, y) ∧ (usV us)[4 * i]? = some (.string (str c)) ∧ (usV us)[4 * i + 1]? = some (.string (str d)) ∧ (usV us)[4 * i + 2]? = some (.int .i64 (a : Int)) ∧ (usV us)[4 * i + 3]? = some (.int .i64 (y : Int)) := by
  induction us with
  | nil => intro i h; simp at h
  | cons u us ih =>
    intro i h
    obtain ⟨c, d, a, y⟩ := u
    cases i with
    | zero => exact ⟨c, d, a, y, rfl, rfl, rfl, rfl, rfl⟩
    | succ i =>
      obtain ⟨c', d', a', y', h1, h2, h3, h4, h5⟩ := ih i (by simpa using h)
      have e : usV ((c, d, a, y) :: us) = Value.string (str c) :: Value.string (str d) :: Value.int .i64 (a : Int) :: Value.int .i64 (y : Int) :: usV us := rfl
      refine ⟨c', d', a', y', by simpa using h1, ?_, ?_, ?_, ?_⟩
      all_goals
        rw [e]
        first
        | (rw [show 4 * (i + 1) = 4 * i + 1 + 1 + 1 + 1 by omega]; simpa using h2)
        | (rw [show 4 * (i + 1) + 1 = 4 * i + 1 + 1 + 1 + 1 + 1 by omega]; simpa using h3)
        | (rw [show 4 * (i + 1) + 2 = 4 * i + 2 + 1 + 1 + 1 + 1 by omega]; simpa using h4)
        | (rw [show 4 * (i + 1) + 3 = 4 * i + 3 + 1 + 1 + 1 + 1 by omega]; simpa using h5)
theorem usV_len (us : List Usr) : (usV us).length = 4 * us.length := by
  induction us with
  | nil => rfl
  | cons u us ih =>
    obtain ⟨c, d, a, y⟩ := u
    have e : usV ((c, d, a, y) :: us) = Value.string (str c) :: Value.string (str d) :: Value.int .i64 (a : Int) :: Value.int .i64 (y : Int) :: usV us := rfl
    rw [e]; simp [ih]; omega
theorem RU.of_own {w : World} {B q cap : Nat} {e : TypeId} {us : List Usr} (h : Own4 w B e q us.length cap (usV us)) : RU w q us := by
  refine ⟨h.lt.2, fun i hi => ?_⟩
  obtain ⟨c, d, a, y, h1, h2, h3, h4, h5⟩ := usV_at us i hi
  have hl := usV_len us
  rw [Nat.mul_comm 4 i] at h2 h3 h4 h5
  have hc := fun j hj => World.ownsRow.cellAt h j hj
  exact ⟨c, d, a, y, h1, (hc _ (by omega)).trans h2, (hc _ (by omega)).trans h3, (hc _ (by omega)).trans h4, (hc _ (by omega)).trans h5⟩
/-- what a user sends -/
def usrL (u : Usr) : List Int := zerosL u.2.2.2 ++ scaleW (sprL u.2.1 u.1) (u.2.2.1 : Int)
/-- what users send -/
def sndL (us : List Usr) : List Int := us.foldl (fun z u => addL5 z (usrL u)) []
theorem sndL_snoc (us : List Usr) (u : Usr) : sndL (us ++ [u]) = addL5 (sndL us) (usrL u) := by unfold sndL; rw [List.foldl_append]; rfl
theorem sndL_take {us : List Usr} {k : Nat} {u : Usr} (h : us[k]? = some u) : sndL (us.take (k + 1)) = addL5 (sndL (us.take k)) (usrL u) := by
  have hk : k < us.length := by
    by_cases hk : k < us.length
    · exact hk
    · rw [List.getElem?_eq_none (by omega)] at h; cases h
  rw [List.take_succ_eq_append_getElem hk, sndL_snoc]
  rw [List.getElem?_eq_getElem hk] at h
  rw [Option.some.inj h]
theorem usrL_len (u : Usr) : (usrL u).length = u.2.2.2 + u.2.1.length * u.1.length := by unfold usrL; rw [List.length_append, zerosL_len, scaleW_len, sprL_len]
/-- users whose signals are within bounds -/
def UsrB (u : Usr) : Prop := (∀ c ∈ u.1, bit c) ∧ (∀ c ∈ u.2.1, bit c) ∧ u.1.length ≤ 1000 ∧ u.2.1.length ≤ 1000 ∧ u.2.2.2 + u.2.1.length * u.1.length ≤ 3000
theorem sndL_len : ∀ us : List Usr, (∀ u ∈ us, UsrB u) → ∀ z : List Int, z.length ≤ 3000 → (us.foldl (fun z u => addL5 z (usrL u)) z).length ≤ 3000
  | [], _, z, hz => hz
  | u :: us, h, z, hz => by
    rw [List.foldl_cons]
    refine sndL_len us (fun v hv => h v (List.mem_cons_of_mem _ hv)) _ ?_
    have hu := (h u (List.mem_cons_self ..)).2.2.2.2
    rw [addL5_len, usrL_len]
    omega
theorem UsrOK.toB {u : Usr} (h : UsrOK u) : UsrB u := by
  obtain ⟨⟨h1, h2, h3⟩, h4, h5, h6⟩ := h
  have hm : u.2.1.length * u.1.length ≤ 8 * 8 := Nat.mul_le_mul h4.1 h2
  have := h4.1
  exact ⟨h3, fun c hc => h4.2 c hc, by omega, by omega, by omega⟩
/-- a call behind W0 that gives a slice -/
theorem relS {P : Program} {f : FuncId} {args : Array Value} {W0 u : World} {z : List Int} (hu : Below W0.heap.size W0 u) (h : Calls P f args u (RetL z u)) :
    Calls P f args u fun e u' => ∃ v, e = .returned v ∧ Sl u' W0.heap.size u'.heap.size v z ∧ Below u.heap.size u u' ∧ Below W0.heap.size W0 u' :=
  h.mono fun e u' ⟨v, he, hs, hb⟩ => ⟨v, he, hs.mono hu.size (Nat.le_refl _), hb, hu.trans (hb.mono hu.size)⟩
theorem scaleS_sl (lo hi : Nat) (u : Value) (z : List Int) (g : Int) (w : World) (hu : Sl w lo hi u z) (hh : hi ≤ w.heap.size) (hl : z.length ≤ 100000) :
    Calls Try.prog 74 #[u, .int .i64 g] w (RetL (scaleW z g) w) := by
  obtain ⟨A, c, rfl, hr, _⟩ := hu.reads
  exact scaleS_any A c z g w (hr.more hh) (by omega)
theorem addS_sl (lo hi lo2 hi2 : Nat) (u v : Value) (z y : List Int) (w : World) (hu : Sl w lo hi u z) (hh : hi ≤ w.heap.size) (hv : Sl w lo2 hi2 v y) (hh2 : hi2 ≤ w.heap.size) (hl : z.length ≤ 20000) (hl2 : y.length ≤ 20000) :
    Calls Try.prog 42 #[u, v] w (RetL (addL5 z y) w) := by
  obtain ⟨A, c, rfl, hr, _⟩ := hu.reads
  obtain ⟨A2, c2, rfl, hr2, _⟩ := hv.reads
  exact l4Add_any A A2 c c2 z y w (hr.more hh) (hr2.more hh2) hl hl2
set_option maxHeartbeats 4000000 in
theorem sendS_any (q cap : Nat) (us : List Usr) (w : World) (hr : RU w q us) (hn : us.length ≤ 8) (hus : ∀ u ∈ us, UsrB u) :
    Calls Try.prog 53 #[.slice (some ⟨q, 0, none⟩) us.length cap] w (RetL (sndL us) w) := by
  have HR := Lib.hid hr
  have HU := Lib.hid hus
  have HF : Hid (sndL (us.take us.length) = sndL us) := Lib.hid (by rw [List.take_length])
  have HLN : Hid (∀ k, (sndL (us.take k)).length ≤ 3000) := Lib.hid fun k => sndL_len _ (fun u hu => hus u (List.mem_of_mem_take hu)) [] (by simp)
  clear hr hus
  go_enter Try.func53, Try.ntmps53
  go_wp2
  go_loopw [3, 4, 5] (fun v i _ wr => ∃ k : Nat, k ≤ us.length ∧ i = .int .i64 (k : Int) ∧ Sl wr w.heap.size wr.heap.size v (sndL (us.take k)) ∧ Below w.heap.size w wr) (fun _ i _ _ => us.length - (intOf i).toNat)
  case atStart => exact ⟨0, Nat.zero_le _, rfl, sl_empty, (Below.refl _ _).alloc (Nat.le_refl _) _⟩
  case round =>
    obtain ⟨k, hk, rfl, hsl, hb⟩ := hrel
    by_cases hlt : k < us.length
    · obtain ⟨c, d, a, y, hu, h0, h1, h2, h3⟩ := (HR.out.below hb).2 k hlt
      obtain ⟨hB1, hB2, hB3, hB4, hB5⟩ := HU.out _ (List.mem_of_getElem? hu)
      simp only [] at hB1 hB2 hB3 hB4 hB5
      obtain ⟨Z1, hZ1⟩ : ∃ Z1, Z1 = sprL d c := ⟨_, rfl⟩
      have hZ1l : Z1.length ≤ 3000 := by rw [hZ1, sprL_len]; omega
      have HA : Hid (∀ u : World, Calls Try.prog 75 #[.string (str d), .string (str c)] u (RetL Z1 u)) := Lib.hid fun u => by
        rw [hZ1]; exact sprS_any d c u hB4 hB3 (by omega) hB2 hB1
      have HT : Hid (addL5 (sndL (us.take k)) (zerosL y ++ scaleW Z1 (a : Int)) = sndL (us.take (k + 1))) := Lib.hid (by rw [sndL_take hu, hZ1]; rfl)
      have hZ2l := scaleW_len Z1 (a : Int)
      obtain ⟨Z2, hZ2⟩ : ∃ Z2, Z2 = scaleW Z1 (a : Int) := ⟨_, rfl⟩
      rw [← hZ2] at HT hZ2l
      have HBB : Hid (∀ (u : World) (v : Value), Sl u (wr.heap.size + 1) u.heap.size v Z1 → Calls Try.prog 74 #[v, .int .i64 (a : Int)] u (RetL Z2 u)) := Lib.hid fun u v hs => by
        rw [hZ2]; exact scaleS_sl _ _ v Z1 _ u hs (Nat.le_refl _) (by omega)
      have HC : Hid (∀ (u : World) (v : Value), Sl u (wr.heap.size + 1) u.heap.size v Z2 → Calls Try.prog 73 #[v, .int .i64 (y : Int)] u (RetL (zerosL y ++ Z2) u)) := Lib.hid fun u v hs => delS_any _ _ v Z2 y u hs (Nat.le_refl _) (by omega) (by omega)
      have hZ3l : (zerosL y ++ Z2).length ≤ 6000 := by rw [List.length_append, zerosL_len]; omega
      obtain ⟨Z3, hZ3⟩ : ∃ Z3, Z3 = zerosL y ++ Z2 := ⟨_, rfl⟩
      rw [← hZ3] at HT HC hZ3l
      have hlz := HLN.out k
      obtain ⟨Z0, hZ0⟩ : ∃ Z0, Z0 = sndL (us.take k) := ⟨_, rfl⟩
      obtain ⟨Z4, hZ4⟩ : ∃ Z4, Z4 = sndL (us.take (k + 1)) := ⟨_, rfl⟩
      have HZ4 := Lib.hid hZ4
      rw [← hZ0] at hlz hsl HT
      rw [← hZ4] at HT
      obtain ⟨A, cp, rfl, _, _⟩ := hsl.reads
      obtain ⟨V, hV⟩ : ∃ V, V = wr.alloc (.cells #[.string (str c), .string (str d), .int .i64 (a : Int), .int .i64 (y : Int)] 45) := ⟨_, rfl⟩
      have hbV : Below wr.heap.size wr V := by rw [hV]; exact (Below.refl _ _).alloc (Nat.le_refl _) _
      have hVs : V.heap.size = wr.heap.size + 1 := by rw [hV]; simp
      have HX : Hid (∀ u, Below V.heap.size V u → u.cell? ⟨wr.heap.size, 0, none⟩ = some (.string (str c)) ∧ u.cell? ⟨wr.heap.size, 1, none⟩ = some (.string (str d)) ∧ u.cell? ⟨wr.heap.size, 2, none⟩ = some (.int .i64 (a : Int)) ∧ u.cell? ⟨wr.heap.size, 3, none⟩ = some (.int .i64 (y : Int))) := Lib.hid fun u hu => by
        have hh : ∀ i, u.cell? ⟨wr.heap.size, i, none⟩ = V.cell? ⟨wr.heap.size, i, none⟩ := fun i => hu.cell (show wr.heap.size < V.heap.size by omega)
        rw [hh, hh, hh, hh, hV]
        exact ⟨by simp, by simp, by simp, by simp⟩
      have HD : Hid (∀ (u : World) (v : Value), Below V.heap.size V u → Sl u (wr.heap.size + 1) u.heap.size v Z3 → Calls Try.prog 42 #[.slice A Z0.length cp, v] u (RetL Z4 u)) := Lib.hid fun u v hu hs => by
        rw [← HT.out]
        have hs0 := (hsl.below hbV (Nat.le_refl _)).below hu hbV.size
        exact addS_sl _ _ _ _ _ v Z0 Z3 u hs0 (Nat.le_trans hbV.size hu.size) hs (Nat.le_refl _) (by omega) (by omega)
      have HBV := Lib.hid (hb.trans (hbV.mono hb.size))
      have hlo : w.heap.size ≤ V.heap.size := Nat.le_trans hb.size hbV.size
      have hVb : Below V.heap.size V V := Below.refl _ _
      have HVS := Lib.hid hVs
      rw [← hVs] at HBB HC HD
      clear hsl hu hbV hB1 hB2 hB5 hZ1 hZ2 hZ3 hZ0 hZ4 hVs
      go_wp2
      rw [← hV]
      clear hV hb h0 h1 h2 h3
      refine wp_region_held_drew (S := (fun u => u.cell? ⟨wr.heap.size, 0, none⟩ = some (.string (str c)) ∧ u.cell? ⟨wr.heap.size, 1, none⟩ = some (.string (str d)) ∧ u.cell? ⟨wr.heap.size, 2, none⟩ = some (.int .i64 (a : Int)) ∧ u.cell? ⟨wr.heap.size, 3, none⟩ = some (.int .i64 (y : Int)))) (by kernel_rfl) ?_ (fun hHeld => ?_)
      · (try dsimp only)
        exact HX.out _ (by first | assumption | exact Below.drew (by assumption))
      first
        | (refine wpAnyH_take (i := 0) (oi := ⟨(some 17), _, _, _, _, _⟩) (v := ?_) rfl (by kernel_rfl) (by kernel_rfl) (by kernel_rfl) (fun _ _ _ h => h) (Or.inl ⟨by rfl, ?_⟩) (by assumption) ?_; rotate_left; (focus (intro ww hSw; (try dsimp only at hSw); go_simp; (try with_reducible rfl))))
        | (refine wpAnyH_take (i := 0) (oi := ⟨(some 17), _, _, _, _, _⟩) (v := undef) rfl (by kernel_rfl) (by kernel_rfl) (by kernel_rfl) (fun _ _ _ h => h) (Or.inr ⟨by rfl, rfl⟩) (by assumption) ?_)
      (try simp only [Act.put, List.setIfInBounds_toArray, List.set_cons_zero, List.set_cons_succ])
      first
        | (refine wpAnyH_take (i := 1) (oi := ⟨(some 18), _, _, _, _, _⟩) (v := ?_) rfl (by kernel_rfl) (by kernel_rfl) (by kernel_rfl) (fun _ _ _ h => h) (Or.inl ⟨by rfl, ?_⟩) (by assumption) ?_; rotate_left; (focus (intro ww hSw; (try dsimp only at hSw); go_simp; (try with_reducible rfl))))
        | (refine wpAnyH_take (i := 1) (oi := ⟨(some 18), _, _, _, _, _⟩) (v := undef) rfl (by kernel_rfl) (by kernel_rfl) (by kernel_rfl) (fun _ _ _ h => h) (Or.inr ⟨by rfl, rfl⟩) (by assumption) ?_)
      (try simp only [Act.put, List.setIfInBounds_toArray, List.set_cons_zero, List.set_cons_succ])
      first
        | (refine wpAnyH_take (i := 2) (oi := ⟨(some 19), _, _, _, _, _⟩) (v := ?_) rfl (by kernel_rfl) (by kernel_rfl) (by kernel_rfl) (fun _ _ _ h => h) (Or.inl ⟨by rfl, ?_⟩) (by assumption) ?_; rotate_left; (focus (intro ww hSw; (try dsimp only at hSw); go_simp; (try with_reducible rfl))))
        | (refine wpAnyH_take (i := 2) (oi := ⟨(some 19), _, _, _, _, _⟩) (v := undef) rfl (by kernel_rfl) (by kernel_rfl) (by kernel_rfl) (fun _ _ _ h => h) (Or.inr ⟨by rfl, rfl⟩) (by assumption) ?_)
      (try simp only [Act.put, List.setIfInBounds_toArray, List.set_cons_zero, List.set_cons_succ])
      first
        | (refine wpAnyH_take (i := 3) (oi := ⟨(some 20), _, _, _, _, _⟩) (v := ?_) rfl (by kernel_rfl) (by kernel_rfl) (by kernel_rfl) (fun _ _ _ h => h) (Or.inl ⟨by rfl, ?_⟩) (by assumption) ?_; rotate_left; (focus (intro ww hSw; (try dsimp only at hSw); go_simp; (try with_reducible rfl))))
        | (refine wpAnyH_take (i := 3) (oi := ⟨(some 20), _, _, _, _, _⟩) (v := undef) rfl (by kernel_rfl) (by kernel_rfl) (by kernel_rfl) (fun _ _ _ h => h) (Or.inr ⟨by rfl, rfl⟩) (by assumption) ?_)
      (try simp only [Act.put, List.setIfInBounds_toArray, List.set_cons_zero, List.set_cons_succ])
      first
        | (refine wpAnyH_take (i := 4) (oi := ⟨(some 21), _, _, _, _, _⟩) (v := ?_) rfl (by kernel_rfl) (by kernel_rfl) (by kernel_rfl) (fun _ _ _ h => h) (Or.inl ⟨by rfl, ?_⟩) (by assumption) ?_; rotate_left; (focus (intro ww hSw; (try dsimp only at hSw); go_simp; (try with_reducible rfl))))
        | (refine wpAnyH_take (i := 4) (oi := ⟨(some 21), _, _, _, _, _⟩) (v := undef) rfl (by kernel_rfl) (by kernel_rfl) (by kernel_rfl) (fun _ _ _ h => h) (Or.inr ⟨by rfl, rfl⟩) (by assumption) ?_)
      (try simp only [Act.put, List.setIfInBounds_toArray, List.set_cons_zero, List.set_cons_succ])
      first
        | (refine wpAnyH_take (i := 6) (oi := ⟨(some 23), _, _, _, _, _⟩) (v := ?_) rfl (by kernel_rfl) (by kernel_rfl) (by kernel_rfl) (fun _ _ _ h => h) (Or.inl ⟨by rfl, ?_⟩) (by assumption) ?_; rotate_left; (focus (intro ww hSw; (try dsimp only at hSw); go_simp; (try with_reducible rfl))))
        | (refine wpAnyH_take (i := 6) (oi := ⟨(some 23), _, _, _, _, _⟩) (v := undef) rfl (by kernel_rfl) (by kernel_rfl) (by kernel_rfl) (fun _ _ _ h => h) (Or.inr ⟨by rfl, rfl⟩) (by assumption) ?_)
      (try simp only [Act.put, List.setIfInBounds_toArray, List.set_cons_zero, List.set_cons_succ])
      first
        | (refine wpAnyH_take (i := 7) (oi := ⟨(some 24), _, _, _, _, _⟩) (v := ?_) rfl (by kernel_rfl) (by kernel_rfl) (by kernel_rfl) (fun _ _ _ h => h) (Or.inl ⟨by rfl, ?_⟩) (by assumption) ?_; rotate_left; (focus (intro ww hSw; (try dsimp only at hSw); go_simp; (try with_reducible rfl))))
        | (refine wpAnyH_take (i := 7) (oi := ⟨(some 24), _, _, _, _, _⟩) (v := undef) rfl (by kernel_rfl) (by kernel_rfl) (by kernel_rfl) (fun _ _ _ h => h) (Or.inr ⟨by rfl, rfl⟩) (by assumption) ?_)
      (try simp only [Act.put, List.setIfInBounds_toArray, List.set_cons_zero, List.set_cons_succ])
      first
        | (refine wpAnyH_take (i := 9) (oi := ⟨(some 26), _, _, _, _, _⟩) (v := ?_) rfl (by kernel_rfl) (by kernel_rfl) (by kernel_rfl) (fun _ _ _ h => h) (Or.inl ⟨by rfl, ?_⟩) (by assumption) ?_; rotate_left; (focus (intro ww hSw; (try dsimp only at hSw); go_simp; (try with_reducible rfl))))
        | (refine wpAnyH_take (i := 9) (oi := ⟨(some 26), _, _, _, _, _⟩) (v := undef) rfl (by kernel_rfl) (by kernel_rfl) (by kernel_rfl) (fun _ _ _ h => h) (Or.inr ⟨by rfl, rfl⟩) (by assumption) ?_)
      (try simp only [Act.put, List.setIfInBounds_toArray, List.set_cons_zero, List.set_cons_succ])
      first
        | (refine wpAnyH_take (i := 10) (oi := ⟨(some 27), _, _, _, _, _⟩) (v := ?_) rfl (by kernel_rfl) (by kernel_rfl) (by kernel_rfl) (fun _ _ _ h => h) (Or.inl ⟨by rfl, ?_⟩) (by assumption) ?_; rotate_left; (focus (intro ww hSw; (try dsimp only at hSw); go_simp; (try with_reducible rfl))))
        | (refine wpAnyH_take (i := 10) (oi := ⟨(some 27), _, _, _, _, _⟩) (v := undef) rfl (by kernel_rfl) (by kernel_rfl) (by kernel_rfl) (fun _ _ _ h => h) (Or.inr ⟨by rfl, rfl⟩) (by assumption) ?_)
      (try simp only [Act.put, List.setIfInBounds_toArray, List.set_cons_zero, List.set_cons_succ])
      refine wpAnyH_ready (rs := [5]) (by kernel_rfl) (by simp) ?_
      refine AllReadyH.cons (o := ⟨(some 22), _, _, _, _, _⟩) rfl (fun K hK => ?_) AllReadyH.nil
      go_simp
      refine (relS (W0 := V) (by first | assumption | exact Below.drew (by assumption)) (HA.out _)).mono ?_
      rintro e q1 ⟨v1, rfl, hs1, hk1, hq1⟩
      clear hVb
      go_wp2_with fail
      refine hK.out _ _ ?_ (fun hHeld => ?_)
      · (try dsimp only)
        exact HX.out _ (by first | assumption | exact Below.drew (by assumption))
      clear hK K
      (try simp only [Act.put, List.setIfInBounds_toArray, List.set_cons_zero, List.set_cons_succ])
      refine wpAnyH_ready (rs := [8]) (by kernel_rfl) (by simp) ?_
      refine AllReadyH.cons (o := ⟨(some 25), _, _, _, _, _⟩) rfl (fun K hK => ?_) AllReadyH.nil
      go_simp
      refine (relS (W0 := V) (by first | assumption | exact Below.drew (by assumption)) (HBB.out _ _ (by exact hs1))).mono ?_
      rintro e q2 ⟨v2, rfl, hs2, hk2, hq2⟩
      clear hq1 hs1
      go_wp2_with fail
      refine hK.out _ _ ?_ (fun hHeld => ?_)
      · (try dsimp only)
        exact HX.out _ (by first | assumption | exact Below.drew (by assumption))
      clear hK K
      (try simp only [Act.put, List.setIfInBounds_toArray, List.set_cons_zero, List.set_cons_succ])
      refine wpAnyH_ready (rs := [11]) (by kernel_rfl) (by simp) ?_
      refine AllReadyH.cons (o := ⟨(some 28), _, _, _, _, _⟩) rfl (fun K hK => ?_) AllReadyH.nil
      go_simp
      refine (relS (W0 := V) (by first | assumption | exact Below.drew (by assumption)) (HC.out _ _ (by exact hs2))).mono ?_
      rintro e q3 ⟨v3, rfl, hs3, hk3, hq3⟩
      clear hq2 hs2
      go_wp2_with fail
      refine hK.out _ _ ?_ (fun hHeld => ?_)
      · (try dsimp only)
        exact HX.out _ (by first | assumption | exact Below.drew (by assumption))
      clear hK K
      (try simp only [Act.put, List.setIfInBounds_toArray, List.set_cons_zero, List.set_cons_succ])
      refine wpAnyH_ready (rs := [12]) (by kernel_rfl) (by simp) ?_
      refine AllReadyH.cons (o := ⟨(some 29), _, _, _, _, _⟩) rfl (fun K hK => ?_) AllReadyH.nil
      go_simp
      refine (relS (W0 := V) (by first | assumption | exact Below.drew (by assumption)) (HD.out _ _ (by first | assumption | exact Below.drew (by assumption)) (by exact hs3))).mono ?_
      rintro e q4 ⟨v4, rfl, hs4, hk4, hq4⟩
      clear hq3 hs3
      go_wp2_with fail
      refine hK.out _ _ ?_ (fun hHeld => ?_)
      · (try dsimp only)
        exact HX.out _ (by first | assumption | exact Below.drew (by assumption))
      clear hK K
      (try simp only [Act.put, List.setIfInBounds_toArray, List.set_cons_zero, List.set_cons_succ])
      first
        | (refine wpAnyH_take (i := 13) (oi := ⟨(some 3), _, _, _, _, _⟩) (v := ?_) rfl (by kernel_rfl) (by kernel_rfl) (by kernel_rfl) (fun _ _ _ h => h) (Or.inl ⟨by rfl, ?_⟩) (by assumption) ?_; rotate_left; (focus (intro ww hSw; (try dsimp only at hSw); go_simp; (try with_reducible rfl))))
        | (refine wpAnyH_take (i := 13) (oi := ⟨(some 3), _, _, _, _, _⟩) (v := undef) rfl (by kernel_rfl) (by kernel_rfl) (by kernel_rfl) (fun _ _ _ h => h) (Or.inr ⟨by rfl, rfl⟩) (by assumption) ?_)
      (try simp only [Act.put, List.setIfInBounds_toArray, List.set_cons_zero, List.set_cons_succ])
      refine wpAnyH_done (by kernel_rfl) ?_ _
      skip
      have HS4 := Lib.hid (hs4.mono hlo (Nat.le_refl _))
      have hB4 := HBV.out.trans (hq4.mono hlo)
      clear hs4 hq4 hk1 hk2 hk3 hk4
      go_wp2
      go_roundw
      case rel => exact ⟨k + 1, by omega, by go_num, by rw [← HZ4.out]; exact HS4.out, hB4⟩
      case measure => (simp [intOf]; try omega)
    · obtain rfl : k = us.length := by omega
      have HSL := Lib.hid hsl
      obtain ⟨A, cp, rfl, _, _⟩ := hsl.reads
      clear hsl
      go_wp2
      go_ret
      exact RetL.mk (by rw [← HF.out]; exact HSL.out) hb
end Go.Proofs.Ytiiiaeemblcniaa
