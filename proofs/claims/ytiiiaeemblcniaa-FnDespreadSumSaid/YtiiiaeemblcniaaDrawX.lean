/- Contracts of the parts of what users send: delays and spreading (exact). -/
import Derived.Test.YtiiiaeemblcniaaDrawV
namespace Go.Proofs.Ytiiiaeemblcniaa
set_option maxRecDepth 20000
open Go.ChangeShapes Go.WideShapes Go.ChangeAt Go.RowKit
set_option linter.unusedVariables false
set_option linter.unusedSimpArgs false

/-- 'append(out, s..)' of any slice of numbers -/
theorem appAny {w0 w : World} {ops : Array Oper} {rest : List Oper} {o : Oper} {a : Act} {Q : Exit → Act → World → Prop} (hgd : o.guard = none) (s x : Operand)
    (ho : o.op = .call { callee := .builtin .append, args := #[s, x], argTypes := #[23, 23] }) (lo : Nat) (v u : Value) (l z : List Int)
    (hs : a.eval s = v) (hx : a.eval x = u) (hsl : Sl w lo w.heap.size v l) (lo2 hi2 : Nat) (hu : Sl w lo2 hi2 u z)
    (hb : Below lo w0 w) (hlo : lo ≤ w0.heap.size) (hlen : l.length + z.length ≤ 1000000)
    (h : ∀ v' w', Sl w' lo w'.heap.size v' (l ++ z) → Below lo w0 w' → wpList Try.prog ops Q rest (a.put o.dst v') w') : wpList Try.prog ops Q (o :: rest) a w := by
  rcases hu.form with ⟨rfl, rfl⟩ | ⟨g, cap, rfl, ho2, _, _⟩
  · obtain ⟨i, hi, hz, hsz, hby⟩ := info_parts info_int
    exact wpList_append_own_none hgd s x 23 ho lo 3 i 1 Try.underlying23 hi v l.length (l.map intV) hs hsl.1 hx (h v w (by simpa using hsl) hb)
  · refine appSl hgd s x ho lo v l z _ _ _ hs hx rfl hsl ⟨_, rfl, fun j hj => ?_⟩ hb hlo hlen h
    have hc := ho2.cell hj
    rw [intV_at _ _ hj] at hc
    have e : (⟨g, 0, none⟩ : Addr).add j = ⟨g, j, none⟩ := by simp only [Addr.add]; split <;> simp_all
    rw [e]
    exact hc
/-- k zeros -/
def zerosL (k : Nat) : List Int := List.replicate k 0
theorem zerosL_len (k : Nat) : (zerosL k).length = k := by simp [zerosL]
theorem zerosL_range (k : Nat) : (List.range k).map (fun _ => (0 : Int)) = zerosL k := by
  unfold zerosL
  apply List.ext_getElem <;> simp
set_option maxHeartbeats 1000000 in
theorem delS_any (lo hi : Nat) (u : Value) (z : List Int) (k : Nat) (w : World) (hu : Sl w lo hi u z) (hh : hi ≤ w.heap.size) (hl : z.length ≤ 100000) (hk : k ≤ 100000) :
    Calls Try.prog 73 #[u, .int .i64 (k : Int)] w (RetL (zerosL k ++ z) w) := by
  have hmk := fun u => run_make_row' (P := Try.prog) 23 3 (.int .i64 0) 8 Try.underlying23 info_int rfl .i64 .i64 k (by omega) (by omega) u
  have hb0 : Below w.heap.size w (w.alloc (.cells (madeCells #[.int .i64 0] k) 3)) := (Below.refl _ _).alloc (Nat.le_refl _) _
  have hu1 := Lib.hid (hu.below hb0 hh)
  have hsl : Sl (w.alloc (.cells (madeCells #[.int .i64 0] k) 3)) w.heap.size (w.alloc (.cells (madeCells #[.int .i64 0] k) 3)).heap.size (.slice (some ⟨w.heap.size, 0, none⟩) k k) (zerosL k) := by
    rw [← zerosL_range]
    exact sl_of_row (f := fun _ => 0) ((World.rowIs_made w _ _ _).congr (fun j hj => by rw [if_pos hj]; rfl)) (Nat.le_refl _) (by omega)
  have HSL := Lib.hid hsl
  have HB := Lib.hid hb0
  clear hsl hb0 hu
  obtain ⟨A, c, rfl, _, _⟩ := hu1.out.reads
  go_enter Try.func73, Try.ntmps73
  go_wp2_with (at_builtin; refine appAny (w0 := w) rfl _ _ rfl w.heap.size _ _ (zerosL k) z rfl rfl HSL.out lo hi hu1.out HB.out (Nat.le_refl _) (by rw [zerosL_len]; omega) ?_; intro v2 w2 hs2 hb2)
  have H2 := Lib.hid hs2
  clear hs2
  go_wp2
  go_ret
  exact RetL.mk H2.out hb2
/-- the chips of data that is spread by a code -/
def sprL (d c : List UInt8) : List Int := d.flatMap fun b => if b = 48 then c.map chip else (c.map inv1).map chip
theorem sprL_len (d c : List UInt8) : (sprL d c).length = d.length * c.length := by
  unfold sprL
  induction d with
  | nil => simp
  | cons b d ih =>
    rw [List.flatMap_cons, List.length_append, ih, List.length_cons, Nat.succ_mul]
    split <;> simp <;> omega
theorem sprL_snoc (d c : List UInt8) (b : UInt8) : sprL (d ++ [b]) c = sprL d c ++ (if b = 48 then c.map chip else (c.map inv1).map chip) := by unfold sprL; rw [List.flatMap_append]; simp
theorem sprL_take {d c : List UInt8} {k : Nat} (h : k < d.length) : sprL (d.take (k + 1)) c = sprL (d.take k) c ++ (if d.getD k 0 = 48 then c.map chip else (c.map inv1).map chip) := by
  rw [List.take_succ_eq_append_getElem h, sprL_snoc, List.getD_eq_getElem?_getD, List.getElem?_eq_getElem h]; rfl
set_option maxHeartbeats 2000000 in
theorem sprS_any (d c : List UInt8) (w : World) (hd : d.length ≤ 1000) (hc : c.length ≤ 1000) (hm : d.length * c.length ≤ 10000) (hdb : ∀ x ∈ d, bit x) (hcb : ∀ x ∈ c, bit x) :
    Calls Try.prog 75 #[.string (str d), .string (str c)] w (RetL (sprL d c) w) := by
  have HC : Hid (∀ u : World, Calls Try.prog 85 #[.string (str c)] u (RetL (c.map chip) u)) := Lib.hid fun u => by
    have := chipsS_any (str c) u (by rw [str_size]; omega) (by rw [str_list]; exact hcb)
    rw [str_list] at this
    exact this
  have HI : Hid (∀ u : World, Calls Try.prog 86 #[.string (str c)] u fun e w' => e = .returned (.string (str (c.map inv1))) ∧ Below u.heap.size u w') := Lib.hid fun u => invS_any c u (by omega) hcb
  have HCI : Hid (∀ u : World, Calls Try.prog 85 #[.string (str (c.map inv1))] u (RetL ((c.map inv1).map chip) u)) := Lib.hid fun u => by
    have := chipsS_any (str (c.map inv1)) u (by rw [str_size, List.length_map]; omega) (by
      rw [str_list]
      intro x hx
      rw [List.mem_map] at hx
      obtain ⟨y, hy, rfl⟩ := hx
      exact inv1_bit (hcb y hy))
    rw [str_list] at this
    exact this
  have HDB := Lib.hid hdb
  obtain ⟨n, hn⟩ : ∃ n, n = d.length := ⟨_, rfl⟩
  have hn1 : n ≤ 1000 := by omega
  have zd : (str d).size = n := by rw [str_size, hn]
  have HG : Hid (∀ k (h : k < (str d).size), (str d)[k] = d.getD k 0) := Lib.hid fun k h => str_get d k h
  have HT : Hid (∀ k, k < n → sprL (d.take (k + 1)) c = sprL (d.take k) c ++ (if d.getD k 0 = 48 then c.map chip else (c.map inv1).map chip)) := Lib.hid fun k h => sprL_take (by omega)
  have HL : Hid (∀ k, k ≤ n → (sprL (d.take k) c).length ≤ 10000) := Lib.hid fun k h => by
    rw [sprL_len, List.length_take]
    refine Nat.le_trans (Nat.mul_le_mul_right _ (Nat.min_le_right _ _)) hm
  have HF : Hid (d.take n = d) := Lib.hid (by rw [hn]; exact List.take_length)
  have HB : Hid (∀ k, k < n → bit (d.getD k 0)) := Lib.hid fun k h => by
    rw [List.getD_eq_getElem?_getD, List.getElem?_eq_getElem (by omega)]; exact hdb _ (List.getElem_mem _)
  have hN := Lib.hid hn
  have hl1 : (c.map chip).length ≤ 1000 := by simpa using hc
  have hl2 : ((c.map inv1).map chip).length ≤ 1000 := by simpa using hc
  obtain ⟨C0, hC0⟩ : ∃ C0, C0 = c.map chip := ⟨_, rfl⟩
  obtain ⟨C1, hC1⟩ : ∃ C1, C1 = (c.map inv1).map chip := ⟨_, rfl⟩
  rw [← hC0] at HC HT hl1
  rw [← hC1] at HCI HT hl2
  obtain ⟨S, hS⟩ : ∃ S : Nat → List Int, S = fun k => sprL (d.take k) c := ⟨_, rfl⟩
  have HT2 : Hid (∀ k, k < n → S (k + 1) = S k ++ (if d.getD k 0 = 48 then C0 else C1)) := Lib.hid (by rw [hS]; exact HT.out)
  have HL2 : Hid (∀ k, k ≤ n → (S k).length ≤ 10000) := Lib.hid (by rw [hS]; exact HL.out)
  have HS0 : Hid (S 0 = []) := Lib.hid (by rw [hS]; rfl)
  have HSN : Hid (S n = sprL d c) := Lib.hid (by rw [hS]; show sprL (d.take n) c = _; rw [HF.out])
  clear hn hC0 hC1 hS hdb hcb HT HL hm HF hN
  go_enter Try.func75, Try.ntmps75
  go_wp2
  go_loopw [5, 6] (fun v i wr => ∃ k : Nat, k ≤ n ∧ i = .int .i64 (k : Int) ∧ Sl wr w.heap.size wr.heap.size v (S k) ∧ Below w.heap.size w wr) (fun _ i _ => n - (intOf i).toNat)
  case atStart => exact ⟨0, Nat.zero_le _, rfl, by rw [HS0.out]; exact sl_empty, (Below.refl _ _).alloc (Nat.le_refl _) _⟩
  case round =>
    obtain ⟨k, hk, rfl, hsl, hb⟩ := hrel
    by_cases hlt : k < n
    · have hlz : k < (str d).size := by omega
      have hg := HG.out k hlz
      have hbt := HB.out k hlt
      have hlk := HL2.out k hk
      have HT3 := Lib.hid (HT2.out k hlt)
      have HSL := Lib.hid hsl
      obtain ⟨A, cp, rfl, _, _⟩ := hsl.reads
      clear hsl
      by_cases h48 : d.getD k 0 = 48
      · rw [h48] at hg
        have HE : Hid (S (k + 1) = S k ++ C0) := Lib.hid (by rw [HT3.out, if_pos h48])
        clear h48 hbt HT3
        go_wp2_with fail
        refine (HC.out _).mono ?_
        rintro e w1 ⟨u, rfl, hu, k1⟩
        have hs1 := (HSL.out.below k1 (Nat.le_refl _)).up k1.size
        have hb1 := hb.trans (k1.mono hb.size)
        clear HSL k1 hb
        have HU := Lib.hid hu
        have HS1 := Lib.hid hs1
        obtain ⟨A2, c2, rfl, _, _⟩ := hu.reads
        clear hu hs1
        go_wp2_with (at_builtin; refine appAny (w0 := w) rfl _ _ rfl w.heap.size _ _ (S k) C0 rfl rfl HS1.out _ _ HU.out hb1 (Nat.le_refl _) (by omega) ?_; intro v2 w2 hs2 hb2)
        rw [← HE.out] at hs2
        have H2 := Lib.hid hs2
        clear hs2 hb1
        go_wp2
        go_roundw
        case rel => exact ⟨k + 1, by omega, by go_num, H2.out, hb2⟩
        case measure => (simp [intOf]; try omega)
      · have h49 : d.getD k 0 = 49 := by rcases hbt with h | h; exact absurd h h48; exact h
        rw [h49] at hg
        have HE : Hid (S (k + 1) = S k ++ C1) := Lib.hid (by rw [HT3.out, if_neg h48])
        clear h48 h49 hbt HT3
        go_wp2_with fail
        refine (HI.out _).mono ?_
        rintro e w0 ⟨rfl, k0⟩
        have hs0 := (HSL.out.below k0 (Nat.le_refl _)).up k0.size
        have hb0 := hb.trans (k0.mono hb.size)
        clear HSL k0 hb
        have HS0 := Lib.hid hs0
        clear hs0
        go_wp2_with fail
        refine (HCI.out _).mono ?_
        rintro e w1 ⟨u, rfl, hu, k1⟩
        have hs1 := (HS0.out.below k1 (Nat.le_refl _)).up k1.size
        have hb1 := hb0.trans (k1.mono hb0.size)
        clear HS0 k1 hb0
        have HU := Lib.hid hu
        have HS1 := Lib.hid hs1
        obtain ⟨A2, c2, rfl, _, _⟩ := hu.reads
        clear hu hs1
        go_wp2_with (at_builtin; refine appAny (w0 := w) rfl _ _ rfl w.heap.size _ _ (S k) C1 rfl rfl HS1.out _ _ HU.out hb1 (Nat.le_refl _) (by omega) ?_; intro v2 w2 hs2 hb2)
        rw [← HE.out] at hs2
        have H2 := Lib.hid hs2
        clear hs2 hb1
        go_wp2
        go_roundw
        case rel => exact ⟨k + 1, by omega, by go_num, H2.out, hb2⟩
        case measure => (simp [intOf]; try omega)
    · obtain rfl : k = n := by omega
      have HSL := Lib.hid hsl
      obtain ⟨A, cp, rfl, _, _⟩ := hsl.reads
      clear hsl
      go_wp2
      go_ret
      exact RetL.mk (by rw [← HSN.out]; exact HSL.out) hb
end Go.Proofs.Ytiiiaeemblcniaa
