/- Weak contracts of the functions that draw pilots and offsets. -/
import Derived.Test.YtholipfekecloaaDraw3
import Derived.Test.YtholipfekecloaaPer
import Derived.Test.YtholipfekecloaaPilot
namespace Go.Proofs.Ytholipfekecloaa
set_option maxRecDepth 20000
open Go.ChangeShapes Go.WideShapes Go.ChangeAt Go.RowKit
set_option linter.unusedVariables false
set_option linter.unusedSimpArgs false

/-- two values lie in block b, and may be written -/
def Two (u : World) (b : Nat) (x y : Value) : Prop :=
  u.cell? ⟨b, 0, none⟩ = some x ∧ u.cell? ⟨b, 1, none⟩ = some y ∧ (∀ i, u.frozen? ⟨b, i, none⟩ = false) ∧ b < u.heap.size
theorem Two.block {u u' : World} {b : Nat} {x y : Value} (h : Two u b x y) (hb : u'.heap[b]? = u.heap[b]?) (hs : u.heap.size ≤ u'.heap.size) : Two u' b x y := by
  obtain ⟨h0, h1, h3, h4⟩ := h
  have c := fun i => cell_block (p := ⟨b, i, none⟩) hb
  exact ⟨(c 0).1.trans h0, (c 1).1.trans h1, fun i => (c i).2.trans (h3 i), by omega⟩
theorem Two.keeps {u u' : World} {g b : Nat} {x y : Value} (h : Two u b x y) (hk : Keeps g u u') (hne : b ≠ g) : Two u' b x y := h.block (hk.other b hne h.2.2.2) hk.size
theorem Two.below {u u' : World} {b : Nat} {x y : Value} (h : Two u b x y) (hk : Below u.heap.size u u') : Two u' b x y := h.block (hk.block b h.2.2.2) hk.size
theorem Two.alloc {u : World} {b : Nat} {x y : Value} (h : Two u b x y) (o : Obj) : Two (u.alloc o) b x y := h.block (Below.heap_alloc _ _ _ h.2.2.2) (by simp)
theorem Two.other {u : World} {b : Nat} {x y : Value} (h : Two u b x y) {p : Addr} (hp : p.block ≠ b) (v : Value) : Two (u.setCell p v) b x y := by
  obtain ⟨h0, h1, h3, h4⟩ := h
  have hne : ∀ i, p ≠ (⟨b, i, none⟩ : Addr) := fun i e => hp (by rw [e])
  exact ⟨(World.cell?_setCell_other _ _ _ _ (hne 0)).trans h0, (World.cell?_setCell_other _ _ _ _ (hne 1)).trans h1, fun i => by rw [World.frozen?_setCell]; exact h3 i, by simpa using h4⟩
theorem Two.set0 {u : World} {b : Nat} {x y : Value} (h : Two u b x y) (v : Value) : Two (u.setCell ⟨b, 0, none⟩ v) b v y := by
  obtain ⟨h0, h1, h3, h4⟩ := h
  exact ⟨World.cell?_setCell_same _ _ _ h0, (World.cell?_setCell_other _ _ _ _ (by simp)).trans h1, fun i => by rw [World.frozen?_setCell]; exact h3 i, by simpa using h4⟩
theorem Two.set1 {u : World} {b : Nat} {x y : Value} (h : Two u b x y) (v : Value) : Two (u.setCell ⟨b, 1, none⟩ v) b x v := by
  obtain ⟨h0, h1, h3, h4⟩ := h
  exact ⟨(World.cell?_setCell_other _ _ _ _ (by simp)).trans h0, World.cell?_setCell_same _ _ _ h1, fun i => by rw [World.frozen?_setCell]; exact h3 i, by simpa using h4⟩
theorem Two.box {u : World} (x y : Value) (e : TypeId) : Two (u.alloc (.cells #[x, y] e)) u.heap.size x y := ⟨by simp, by simp, fun i => by simp, by simp⟩
theorem two_set (u : World) {B b : Nat} (h : B ≤ b) (x y : Value) : Below B u ((u.setCell ⟨b, 0, none⟩ x).setCell ⟨b, 1, none⟩ y) :=
  ((Below.refl B u).setCell (p := ⟨b, 0, none⟩) h x).setCell (p := ⟨b, 1, none⟩) h y
/-- the reader's state on a walk that began at W0 -/
def St (B g lim : Nat) (W0 u : World) : Prop := Rd u B g lim ∧ Keeps g W0 u
theorem St.drew {B g lim : Nat} {W0 u : World} (h : St B g lim W0 u) : St B g lim W0 u.drew := ⟨h.1.drew, h.2.drew⟩
theorem St.lt {B g lim : Nat} {W0 u : World} (h : St B g lim W0 u) (hg : g < W0.heap.size) : g < u.heap.size := Nat.lt_of_lt_of_le hg h.2.size
theorem two_st {B g lim b : Nat} {W0 u : World} {x y : Value} (h : Two W0 b x y) (hne : b ≠ g) (hs : St B g lim W0 u) : u.cell? ⟨b, 0, none⟩ = some x ∧ u.cell? ⟨b, 1, none⟩ = some y := by
  have := h.keeps hs.2 hne
  exact ⟨this.1, this.2.1⟩
theorem pick_st (B g lim : Nat) (n : Int) {W0 : World} (u : World) (hs : St B g lim W0 u) (hlim : lim ≤ 1000000) (hn : n ≤ 1000000) (hn0 : -1000000 ≤ n) :
    Calls Try.prog 55 #[.pointer (some ⟨g, 0, none⟩), .int .i64 n] u fun e u' => ∃ k : Nat, e = .returned (.int .i64 (k : Int)) ∧ PickOK n k ∧ St B g (lim + 1) W0 u' :=
  (pick_any B g lim n u hs.1 hlim hn hn0).mono fun e u' ⟨k, a, b, c, d⟩ => ⟨k, a, b, c, hs.2.trans d⟩
theorem bel_st {P : Program} {f : FuncId} {args : Array Value} {B g lim : Nat} {W0 u : World} {v : Value} (hs : St B g lim W0 u) (hg : g < W0.heap.size) (h : Calls P f args u fun e u' => e = .returned v ∧ Below u.heap.size u u') :
    Calls P f args u fun e u' => e = .returned v ∧ St B g lim W0 u' := h.mono fun e u' ⟨a, b⟩ => ⟨a, hs.1.below b, hs.2.after b hg⟩
theorem same_st {P : Program} {f : FuncId} {args : Array Value} {B g lim : Nat} {W0 u : World} {v : Value} (hs : St B g lim W0 u) (h : Calls P f args u fun e u' => e = .returned v ∧ u = u') :
    Calls P f args u fun e u' => e = .returned v ∧ St B g lim W0 u' := h.mono fun e u' ⟨a, b⟩ => ⟨a, by subst b; exact hs⟩
theorem maxL_some : ∀ n : Fin 3, 1 ≤ (maxL (n + 2)).length := by decide +kernel
theorem outB_bit (s : Nat) : bit (outB s) := by unfold outB; split; exact .inl rfl; exact .inr rfl
theorem run_seq {n T k : Nat} (h1 : 1 ≤ k) (h2 : k ≤ 255) : seqOK (runL n T 1 k) = true := by
  unfold seqOK
  rw [run_bits n T 1 k (by omega), runL_len, decide_eq_true h1, decide_eq_true h2]; rfl
theorem seq_mk {N : Nat} {l : List UInt8} (h : BitsN N l) (h1 : 1 ≤ l.length) (h2 : N ≤ 255) : seqOK l = true := by
  have h3 := h.1
  unfold seqOK
  rw [bitsOK_mk (by omega) (fun c hc => by rcases h.2 c hc with h | h <;> rw [h] <;> rfl), decide_eq_true h1, decide_eq_true (by omega)]; rfl
theorem pilot_mk {l : List UInt8} {m : Int} (h : seqOK l = true) (h1 : 1 ≤ m) (h8 : m ≤ 8) : pilotOK l m = true := by unfold pilotOK; rw [h, inB_yes h1 h8]; rfl
set_option maxHeartbeats 4000000 in
theorem pilot_any (B g lim : Nat) (w : World) (hr : Rd w B g lim) (hlim : lim ≤ 1000) :
    Calls Try.prog 47 #[.pointer (some ⟨g, 0, none⟩)] w fun e w' => ∃ (l : List UInt8) (m : Nat), e = .returned (.agg #[.string (str l), .int .i64 (m : Int)]) ∧ (pilotOK l (m : Int) = true ∧ 2 ≤ l.length ∧ l.length ≤ 15 ∧ 1 ≤ m ∧ m ≤ 6) ∧ Rd w' B g (lim + 300) ∧ Keeps g w w' := by
  have hg := hr.lt
  go_enter Try.func47, Try.ntmps47
  go_wp2_with fail
  obtain ⟨W, hW⟩ : ∃ W, W = w.alloc (.cells #[.string ⟨#[]⟩, .int .i64 0] 24) := ⟨_, rfl⟩
  have hWs : W.heap.size = w.heap.size + 1 := by rw [hW]; simp
  have hT : Two W w.heap.size (.string ⟨#[]⟩) (.int .i64 0) := by rw [hW]; exact Two.box _ _ _
  have hk : Keeps g w W := by rw [hW]; exact (Keeps.refl g w).step ((Below.refl _ _).alloc (Nat.le_refl _) _) hg.2
  have hrW : Rd W B g lim := by rw [hW]; exact hr.alloc _
  rw [← hW, ← hWs]
  have HT := Lib.hid hT
  have HK := Lib.hid hk
  clear hT hk hW hr hWs
  refine (num_lit B g _ [3, 3, 2, 4] _ _ _ hrW (by omega) rfl (by simp) (by simp)).mono ?_
  rintro e u1 ⟨n0, hn, rfl, hr1, hk1⟩
  obtain ⟨n, rfl, hn2, hn4⟩ : ∃ n : Nat, n0 = (n : Int) ∧ 2 ≤ n ∧ n ≤ 4 := by
    refine ⟨n0.toNat, ?_, ?_, ?_⟩ <;> (simp at hn; omega)
  have hT := HT.out.keeps hk1 (by omega)
  have hk := HK.out.trans hk1
  have hsz := hk.size
  clear hn hk1 HT HK hrW
  go_wp2_with fail
  refine (taps_any n (2 ^ n) _ rfl hn2 (by omega)).mono ?_
  rintro e u2 ⟨gl, cap, rfl, hown, hb2⟩
  have hr2 := hr1.below hb2
  replace hT := hT.below hb2
  replace hk := hk.after hb2
  have hgl := hown.lt.1
  have hml1 : 1 ≤ (maxL n).length := by
    have := maxL_some ⟨n - 2, by omega⟩
    simpa [show n - 2 + 2 = n by omega] using this
  have hml2 : (maxL n).length ≤ 16 := by
    have h1 := maxTo_len n (2 ^ n)
    have h2 : 2 ^ n ≤ 2 ^ 4 := Nat.pow_le_pow_right (by omega) hn4
    unfold maxL
    omega
  clear hb2 hr1
  go_wp2_with fail
  refine (pick_any B g _ _ _ hr2 (by omega) (by omega) (by omega)).mono ?_
  rintro e u3 ⟨k, rfl, hx, hr3, hk3⟩
  have hkl : k < (maxL n).length := by have := hx.1 (by omega); omega
  replace hT := hT.keeps hk3 (by omega)
  replace hk := hk.trans hk3
  have hown3 := hown.keeps hk3 (by omega)
  have hcell := hown3.cell hkl
  rw [intV_at _ _ hkl] at hcell
  obtain ⟨T, hTe, hT1, hTP, _⟩ : ∃ m : Nat, (maxL n).getD k 0 = (m : Int) ∧ 1 ≤ m ∧ m < 2 ^ n ∧ perOf n m 1 = ((2 ^ n : Nat) : Int) - 1 := by
    have hmem : (maxL n).getD k 0 ∈ maxL n := by rw [List.getD_eq_getElem?_getD, List.getElem?_eq_getElem hkl]; exact List.getElem_mem hkl
    exact maxTo_mem hmem
  rw [hTe] at hcell
  have hgl3 := hown3.lt.2
  clear hx hk3 hr2 hown hown3 hTe
  have hP16 : 2 ^ n ≤ 16 := Nat.pow_le_pow_right (show 0 < 2 by omega) hn4
  have hP4 : 4 ≤ 2 ^ n := Nat.pow_le_pow_right (show 0 < 2 by omega) hn2
  obtain ⟨c, hce, hcs, hcl⟩ : ∃ c, c = runL n T 1 (2 ^ n - 1) ∧ seqOK c = true ∧ (3 ≤ c.length ∧ c.length ≤ 15) := ⟨_, rfl, run_seq (by omega) (by omega), by rw [runL_len]; omega⟩
  have HSEQ : Hid (∀ u : World, Calls Try.prog 82 #[.int .i64 (n : Int), .int .i64 (T : Int)] u fun e w' => e = .returned (.string (str c)) ∧ Below u.heap.size u w') := Lib.hid fun u => by rw [hce]; exact seqS3_any n T (2 ^ n) u rfl hn2 (by omega) hTP
  generalize (2 : Nat) ^ n = P at *
  clear hce
  go_wp2_with fail
  refine (HSEQ.out _).mono ?_
  rintro e u4 ⟨rfl, hb4⟩
  have hr4 := hr3.below hb4
  replace hT := hT.below hb4
  replace hk := hk.after hb4
  clear hb4 hr3 hcell hgl3
  go_wp2_with fail
  refine (num_lit B g _ [2, 4, 1, 3, 6] _ _ _ hr4 (by omega) rfl (by simp) (by simp)).mono ?_
  rintro e u5 ⟨m0, hm, rfl, hr5, hk5⟩
  obtain ⟨m, rfl, hm1, hm6⟩ : ∃ m : Nat, m0 = (m : Int) ∧ 1 ≤ m ∧ m ≤ 6 := by
    refine ⟨m0.toNat, ?_, ?_, ?_⟩ <;> (simp at hm; omega)
  replace hT := hT.keeps hk5 (by omega)
  replace hk := hk.trans hk5
  clear hm hk5 hr4
  have hsz5 := hT.2.2.2
  obtain ⟨V, hV⟩ : ∃ V, V = u5.alloc (.cells #[.string (str c), .int .i64 (m : Int)] 24) := ⟨_, rfl⟩
  have hX : Two V u5.heap.size (.string (str c)) (.int .i64 (m : Int)) := by rw [hV]; exact Two.box _ _ _
  have hTV : Two V w.heap.size (.string ⟨#[]⟩) (.int .i64 0) := by rw [hV]; exact hT.alloc _
  have hkV : Keeps g w V := by rw [hV]; exact hk.after ((Below.refl _ _).alloc (Nat.le_refl _) _)
  have hrV : Rd V B g (lim + 1 + 1 + 1) := by rw [hV]; exact hr5.alloc _
  have hs5 := hk.size
  clear hT hk hr5
  go_wp2_with fail
  rw [← hV]
  clear hV
  refine (pick_any B g _ _ _ hrV (by omega) (by omega) (by omega)).mono ?_
  rintro e u6 ⟨i, rfl, hx, hr6, hk6⟩
  replace hX := hX.keeps hk6 (by omega)
  have hT := hTV.keeps hk6 (by omega)
  have hk := hkV.trans hk6
  clear hx hk6 hrV hTV hkV
  by_cases h0 : i = 0
  · subst h0
    have HX := Lib.hid hX
    have HT := Lib.hid hT
    have HK := Lib.hid hk
    clear hX hT hk
    go_wp2_with fail
    refine (l1String_any B g _ 12 _ hr6 (by omega) (by omega)).mono ?_
    rintro e u7 ⟨q, rfl, hq, hr7, hk7⟩
    have hX := HX.out.keeps hk7 (by omega)
    have hT := HT.out.keeps hk7 (by omega)
    have hk := HK.out.trans hk7
    have zq := str_size q
    have hql := hq.1
    have s1 : str q ++ (⟨#[48, 49]⟩ : ByteArray) = str (q ++ [48, 49]) := str_add q [48, 49]
    obtain ⟨c2, hc2, hc2b, hc2l⟩ : ∃ c2, c2 = q ++ [48, 49] ∧ BitsN 14 c2 ∧ (2 ≤ c2.length ∧ c2.length ≤ 14) := ⟨_, rfl, ⟨by simp; omega, fun c hc => by
      rcases List.mem_append.1 hc with h | h
      · exact hq.2 c h
      · simp at h; exact h⟩, by simp; omega⟩
    rw [← hc2] at s1
    have HPO := Lib.hid (pilot_mk (m := (m : Int)) (seq_mk hc2b (by omega) (by omega)) (by omega) (by omega))
    clear hk7 hr6 HX HT HK hq hc2 hc2b
    have hX2 := hX.set0 (.string (str c2))
    have hT2 := hT.other (p := ⟨u5.heap.size, 0, none⟩) (by show u5.heap.size ≠ w.heap.size; omega) (.string (str c2))
    have hbs : Below w.heap.size u7 (((u7.setCell ⟨u5.heap.size, 0, none⟩ (.string (str c2))).setCell ⟨w.heap.size, 0, none⟩ (.string (str c2))).setCell ⟨w.heap.size, 1, none⟩ (.int .i64 (m : Int))) :=
      ((Below.refl w.heap.size u7).setCell (p := ⟨u5.heap.size, 0, none⟩) (by show w.heap.size ≤ u5.heap.size; omega) _).trans (two_set _ (Nat.le_refl _) _ _)
    obtain ⟨c0, c1, cf, cl⟩ := hX
    obtain ⟨d0, d1, df, dl⟩ := hT2
    have hR := hr7.below' hbs hg.2
    have hK := hk.step hbs hg.2
    clear hr7 hk hbs hX2 hT
    go_wp2
    exact bodyPost_ret (v := .agg #[.string (str c2), .int .i64 (m : Int)]) (by simp [results, Try.results47, go_sem, d0, d1]) rfl ⟨_, _, rfl, ⟨HPO.out, hc2l.1, by omega, hm1, hm6⟩, hR.mono (by omega), hK⟩
  · have b0 : ((i : Int) == 0) = false := by simpa using h0
    have HPO := Lib.hid (pilot_mk (m := (m : Int)) hcs (by omega) (by omega))
    have hbs : Below w.heap.size u6 ((u6.setCell ⟨w.heap.size, 0, none⟩ (.string (str c))).setCell ⟨w.heap.size, 1, none⟩ (.int .i64 (m : Int))) := two_set _ (Nat.le_refl _) _ _
    obtain ⟨c0, c1, cf, cl⟩ := hX
    obtain ⟨d0, d1, df, dl⟩ := hT
    have hR := hr6.below' hbs hg.2
    have hK := hk.step hbs hg.2
    clear hr6 hk hbs hcs
    go_wp2
    exact bodyPost_ret (v := .agg #[.string (str c), .int .i64 (m : Int)]) (by simp [results, Try.results47, go_sem, d0, d1]) rfl ⟨_, _, rfl, ⟨HPO.out, by omega, hcl.2, hm1, hm6⟩, hR.mono (by omega), hK⟩
end Go.Proofs.Ytholipfekecloaa
