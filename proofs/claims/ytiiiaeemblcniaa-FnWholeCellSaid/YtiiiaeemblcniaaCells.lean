/- Contracts of the parts of what users send: chips, gains. Contracts of the parts of what users send: delays and spreading (exact). Contract of the sum of the signals of users (exact). Contracts of TreeCode on short paths and of SpreadBits and DelaySignal on valid arguments. Contracts of the tests of users (exact). What users send together, and what is received of it: plain facts. Contracts of DelaySignal on valid arguments and of SendAll (exact). Users with the codes of four paths of the tree are received with the full margin: plain facts. Weak contracts of the functions that draw users who are sometimes not valid. Contract of the laws' helper that receives. -/
import Derived.Test.YtiiiaeemblcniaaDrawL
import Derived.Test.YtiiiaeemblcniaaRecv
import Derived.Test.YtiiiaeemblcniaaInv
import Derived.Test.YtiiiaeemblcniaaRake
import Derived.Test.YtiiiaeemblcniaaMarg
import Derived.Test.YtiiiaeemblcniaaDrawS
namespace Go.Proofs.Ytiiiaeemblcniaa
set_option maxRecDepth 20000
open Go.ChangeShapes Go.WideShapes Go.ChangeAt Go.RowKit
set_option linter.unusedVariables false
set_option linter.unusedSimpArgs false

/- Part: Contracts of the parts of what users send: chips, gains. -/

def scaleW (z : List Int) (g : Int) : List Int := (List.range z.length).map fun j => wrap64 (z.getD j 0 * g)
theorem scaleW_len (z : List Int) (g : Int) : (scaleW z g).length = z.length := by simp [scaleW]
set_option maxHeartbeats 1000000 in
theorem scaleS_any (A : Option Addr) (c : Nat) (z : List Int) (g : Int) (w : World) (hr : Reads w w.heap.size A z) (hl : z.length ≤ 1048576) :
    Calls Try.prog 74 #[.slice A z.length c, .int .i64 g] w (RetL (scaleW z g) w) := by
  obtain ⟨n, hn⟩ : ∃ n, n = z.length := ⟨_, rfl⟩
  have HN := Lib.hid hn
  have HR := Lib.hid hr
  unfold scaleW
  rw [← hn] at hl ⊢
  have hmk := fun u => run_make_row' (P := Try.prog) 23 3 (.int .i64 0) 8 Try.underlying23 info_int rfl .i64 .i64 n (by omega) (by omega) u
  clear hr hn
  go_enter Try.func74, Try.ntmps74
  go_wp2
  go_loopw [6] (fun i wr => ∃ k : Nat, k ≤ n ∧ i = .int .i64 k ∧ wr.rowIs w.heap.size 3 n (fun j => if j < k then intV (wrap64 (z.getD j 0 * g)) else .int .i64 0) ∧ Below w.heap.size w wr) (fun i _ => n - (intOf i).toNat)
  case atStart => exact ⟨0, Nat.zero_le _, rfl, (World.rowIs_made w _ _ _).congr (fun _ _ => rfl), (Below.refl _ _).alloc (Nat.le_refl _) _⟩
  case round =>
    clear hmk
    obtain ⟨k, hk, rfl, hrow, hb⟩ := hrel
    by_cases hlt : k < n
    · obtain ⟨ad, rfl, hbk, hcell⟩ := HR.out.at_ (k := k) (by rw [← HN.out]; exact hlt)
      obtain ⟨x, hx⟩ : ∃ x, x = z.getD k 0 := ⟨_, rfl⟩
      have HX := Lib.hid hx
      rw [← hx] at hcell
      have hc1 : wr.cell? (ad.add k) = some (.int .i64 x) := by rw [hb.cell (by rw [add_block]; exact hbk)]; exact hcell
      have hc := hrow.cell hlt
      have hf := hrow.frozen k
      simp only [Nat.lt_irrefl, if_false] at hc
      have HW := Lib.hid hrow
      clear hx hrow hcell
      go_wp2
      go_roundw
      case rel => exact ⟨k + 1, by omega, by go_num, row_next HW.out (by rw [HX.out]; rfl), hb.setCell (by simp) _⟩
      case measure => simp [intOf]; omega
    · obtain rfl : k = n := by omega
      have HSL : Hid (Sl wr w.heap.size wr.heap.size (.slice (some ⟨w.heap.size, 0, none⟩) k k) ((List.range k).map fun j => wrap64 (z.getD j 0 * g))) := sl_of_row hrow (Nat.le_refl _) (by omega)
      clear hrow
      go_wp2
      go_ret
      exact RetL.mk HSL.out hb
set_option maxHeartbeats 1000000 in
theorem chipsS_any (s : ByteArray) (w : World) (hl : s.size ≤ 1048576) (hbits : ∀ c ∈ s.data.toList, bit c) :
    Calls Try.prog 85 #[.string s] w (RetL (s.data.toList.map chip) w) := by
  have HV : Hid (∀ j (h : j < s.size), (s.data.toList.map chip).getD j 0 = chip s[j]) := fun j h => by
    have hl : j < s.data.toList.length := by rw [data_length]; exact h
    rw [← getD_at s _ h]
    simp [List.getD_eq_getElem?_getD, List.getElem?_eq_getElem hl]
  have HB := Lib.hid hbits
  have hmk := fun u => run_make_row' (P := Try.prog) 23 3 (.int .i64 0) 8 Try.underlying23 info_int rfl .i64 .i64 s.size (by omega) (by omega) u
  obtain ⟨F, hF⟩ : ∃ F, F = s.data.toList.map chip := ⟨_, rfl⟩
  have hFl : F.length = s.size := by rw [hF, List.length_map, data_length]
  have HFL := Lib.hid hFl
  rw [← hF] at HV ⊢
  clear hbits hF hFl
  go_enter Try.func85, Try.ntmps85
  go_wp2
  go_loopw [4] (fun i wr => ∃ k : Nat, k ≤ s.size ∧ i = .int .i64 k ∧ wr.rowIs w.heap.size 3 s.size (fun j => if j < k then intV (F.getD j 0) else .int .i64 0) ∧ Below w.heap.size w wr) (fun i _ => s.size - (intOf i).toNat)
  case atStart => exact ⟨0, Nat.zero_le _, rfl, (World.rowIs_made w _ _ _).congr (fun _ _ => rfl), (Below.refl _ _).alloc (Nat.le_refl _) _⟩
  case round =>
    clear hmk
    obtain ⟨k, hk, rfl, hrow, hb⟩ := hrel
    by_cases hlt : k < s.size
    · obtain ⟨v, hv2, hcv, hch⟩ := chip_bit4 (c := s[k]) (by
        rw [← getD_at s _ hlt]
        have hl : k < s.data.toList.length := by rw [data_length]; exact hlt
        rw [List.getD_eq_getElem?_getD, List.getElem?_eq_getElem hl]
        exact HB.out _ (List.getElem_mem hl))
      have HX : Hid (F.getD k 0 = 1 - 2 * (v - 48)) := Lib.hid (by rw [HV.out k hlt, hch])
      have hc := hrow.cell hlt
      have hf := hrow.frozen k
      simp only [Nat.lt_irrefl, if_false] at hc
      have HW := Lib.hid hrow
      clear hrow hch
      go_wp2
      go_roundw
      case rel => exact ⟨k + 1, by omega, by go_num, row_next HW.out (by rw [HX.out]; rfl), hb.setCell (by simp) _⟩
      case measure => simp [intOf]; omega
    · have hks : k = s.size := by omega
      have hsl := sl_of_row (lo := w.heap.size) (f := fun j => F.getD j 0) (hrow.congr (g := fun j => if j < s.size then intV (F.getD j 0) else .int .i64 0) (fun j hj => by rw [if_pos (by omega), if_pos hj])) (Nat.le_refl _) (by omega)
      have hml : ((List.range s.size).map fun j => F.getD j 0) = F := by
        apply List.ext_getElem
        · simp [HFL.out]
        · intro j h1 h2
          simp [List.getD_eq_getElem?_getD, h2]
      rw [hml] at hsl
      have HSL := Lib.hid hsl
      clear hsl hrow hml
      go_wp2
      go_ret
      exact RetL.mk HSL.out hb
/- Part: Contracts of the parts of what users send: delays and spreading (exact). -/

/-- 'append(out, s..)' of any slice of numbers -/
theorem appAny {w0 w : World} {ops : Array Oper} {rest : List Oper} {o : Oper} {a : Act} {Q : Exit → Act → World → Prop} (hgd : o.guard = none) (s x : Operand)
    (ho : o.op = .call { callee := .builtin .append, args := #[s, x], argTypes := #[23, 23] }) (lo : Nat) (v u : Value) (l z : List Int)
    (hs : a.eval s = v) (hx : a.eval x = u) (hsl : Sl w lo w.heap.size v l) (lo2 hi2 : Nat) (hu : Sl w lo2 hi2 u z)
    (hb : Below lo w0 w) (hlo : lo ≤ w0.heap.size) (hlen : l.length + z.length ≤ 1000000)
    (h : ∀ v' w', Sl w' lo w'.heap.size v' (l ++ z) → Below lo w0 w' → wpList Try.prog ops Q rest (a.put o.dst v') w') : wpList Try.prog ops Q (o :: rest) a w := by
  rcases hu.form with ⟨rfl, rfl⟩ | ⟨g, cap, rfl, ho2, _, _⟩
  · obtain ⟨i, hi, hz, hsz, hby⟩ := info_parts info_int
    exact wpList_append_own_none hgd s x 23 ho lo 3 i 1 Try.underlying23 hi v l.length (l.map intV) hs hsl.1 hx (h v w (by simpa using hsl) hb)
  · refine appSl hgd s x ho lo v l z _ _ _ hs hx rfl hsl ⟨_, rfl, fun j hj => ?_⟩ hb hlo hlen h
    have hc := ho2.cell hj
    rw [intV_at _ _ hj] at hc
    have e : (⟨g, 0, none⟩ : Addr).add j = ⟨g, j, none⟩ := by simp only [Addr.add]; split <;> simp_all
    rw [e]
    exact hc
/-- k zeros -/
def zerosL (k : Nat) : List Int := List.replicate k 0
theorem zerosL_len (k : Nat) : (zerosL k).length = k := by simp [zerosL]
theorem zerosL_range (k : Nat) : (List.range k).map (fun _ => (0 : Int)) = zerosL k := by
  unfold zerosL
  apply List.ext_getElem <;> simp
set_option maxHeartbeats 1000000 in
theorem delS_any (lo hi : Nat) (u : Value) (z : List Int) (k : Nat) (w : World) (hu : Sl w lo hi u z) (hh : hi ≤ w.heap.size) (hl : z.length ≤ 100000) (hk : k ≤ 100000) :
    Calls Try.prog 73 #[u, .int .i64 (k : Int)] w (RetL (zerosL k ++ z) w) := by
  have hmk := fun u => run_make_row' (P := Try.prog) 23 3 (.int .i64 0) 8 Try.underlying23 info_int rfl .i64 .i64 k (by omega) (by omega) u
  have hb0 : Below w.heap.size w (w.alloc (.cells (madeCells #[.int .i64 0] k) 3)) := (Below.refl _ _).alloc (Nat.le_refl _) _
  have hu1 := Lib.hid (hu.below hb0 hh)
  have hsl : Sl (w.alloc (.cells (madeCells #[.int .i64 0] k) 3)) w.heap.size (w.alloc (.cells (madeCells #[.int .i64 0] k) 3)).heap.size (.slice (some ⟨w.heap.size, 0, none⟩) k k) (zerosL k) := by
    rw [← zerosL_range]
    exact sl_of_row (f := fun _ => 0) ((World.rowIs_made w _ _ _).congr (fun j hj => by rw [if_pos hj]; rfl)) (Nat.le_refl _) (by omega)
  have HSL := Lib.hid hsl
  have HB := Lib.hid hb0
  clear hsl hb0 hu
  obtain ⟨A, c, rfl, _, _⟩ := hu1.out.reads
  go_enter Try.func73, Try.ntmps73
  go_wp2_with (at_builtin; refine appAny (w0 := w) rfl _ _ rfl w.heap.size _ _ (zerosL k) z rfl rfl HSL.out lo hi hu1.out HB.out (Nat.le_refl _) (by rw [zerosL_len]; omega) ?_; intro v2 w2 hs2 hb2)
  have H2 := Lib.hid hs2
  clear hs2
  go_wp2
  go_ret
  exact RetL.mk H2.out hb2
/-- the chips of data that is spread by a code -/
def sprL (d c : List UInt8) : List Int := d.flatMap fun b => if b = 48 then c.map chip else (c.map inv1).map chip
theorem sprL_len (d c : List UInt8) : (sprL d c).length = d.length * c.length := by
  unfold sprL
  induction d with
  | nil => simp
  | cons b d ih =>
    rw [List.flatMap_cons, List.length_append, ih, List.length_cons, Nat.succ_mul]
    split <;> simp <;> omega
theorem sprL_snoc (d c : List UInt8) (b : UInt8) : sprL (d ++ [b]) c = sprL d c ++ (if b = 48 then c.map chip else (c.map inv1).map chip) := by unfold sprL; rw [List.flatMap_append]; simp
theorem sprL_take {d c : List UInt8} {k : Nat} (h : k < d.length) : sprL (d.take (k + 1)) c = sprL (d.take k) c ++ (if d.getD k 0 = 48 then c.map chip else (c.map inv1).map chip) := by
  rw [List.take_succ_eq_append_getElem h, sprL_snoc, List.getD_eq_getElem?_getD, List.getElem?_eq_getElem h]; rfl
set_option maxHeartbeats 2000000 in
theorem sprS_any (d c : List UInt8) (w : World) (hd : d.length ≤ 1000) (hc : c.length ≤ 1000) (hm : d.length * c.length ≤ 10000) (hdb : ∀ x ∈ d, bit x) (hcb : ∀ x ∈ c, bit x) :
    Calls Try.prog 75 #[.string (str d), .string (str c)] w (RetL (sprL d c) w) := by
  have HC : Hid (∀ u : World, Calls Try.prog 85 #[.string (str c)] u (RetL (c.map chip) u)) := Lib.hid fun u => by
    have := chipsS_any (str c) u (by rw [str_size]; omega) (by rw [str_list]; exact hcb)
    rw [str_list] at this
    exact this
  have HI : Hid (∀ u : World, Calls Try.prog 86 #[.string (str c)] u fun e w' => e = .returned (.string (str (c.map inv1))) ∧ Below u.heap.size u w') := Lib.hid fun u => invS_any c u (by omega) hcb
  have HCI : Hid (∀ u : World, Calls Try.prog 85 #[.string (str (c.map inv1))] u (RetL ((c.map inv1).map chip) u)) := Lib.hid fun u => by
    have := chipsS_any (str (c.map inv1)) u (by rw [str_size, List.length_map]; omega) (by
      rw [str_list]
      intro x hx
      rw [List.mem_map] at hx
      obtain ⟨y, hy, rfl⟩ := hx
      exact inv1_bit (hcb y hy))
    rw [str_list] at this
    exact this
  have HDB := Lib.hid hdb
  obtain ⟨n, hn⟩ : ∃ n, n = d.length := ⟨_, rfl⟩
  have hn1 : n ≤ 1000 := by omega
  have zd : (str d).size = n := by rw [str_size, hn]
  have HG : Hid (∀ k (h : k < (str d).size), (str d)[k] = d.getD k 0) := Lib.hid fun k h => str_get d k h
  have HT : Hid (∀ k, k < n → sprL (d.take (k + 1)) c = sprL (d.take k) c ++ (if d.getD k 0 = 48 then c.map chip else (c.map inv1).map chip)) := Lib.hid fun k h => sprL_take (by omega)
  have HL : Hid (∀ k, k ≤ n → (sprL (d.take k) c).length ≤ 10000) := Lib.hid fun k h => by
    rw [sprL_len, List.length_take]
    refine Nat.le_trans (Nat.mul_le_mul_right _ (Nat.min_le_right _ _)) hm
  have HF : Hid (d.take n = d) := Lib.hid (by rw [hn]; exact List.take_length)
  have HB : Hid (∀ k, k < n → bit (d.getD k 0)) := Lib.hid fun k h => by
    rw [List.getD_eq_getElem?_getD, List.getElem?_eq_getElem (by omega)]; exact hdb _ (List.getElem_mem _)
  have hN := Lib.hid hn
  have hl1 : (c.map chip).length ≤ 1000 := by simpa using hc
  have hl2 : ((c.map inv1).map chip).length ≤ 1000 := by simpa using hc
  obtain ⟨C0, hC0⟩ : ∃ C0, C0 = c.map chip := ⟨_, rfl⟩
  obtain ⟨C1, hC1⟩ : ∃ C1, C1 = (c.map inv1).map chip := ⟨_, rfl⟩
  rw [← hC0] at HC HT hl1
  rw [← hC1] at HCI HT hl2
  obtain ⟨S, hS⟩ : ∃ S : Nat → List Int, S = fun k => sprL (d.take k) c := ⟨_, rfl⟩
  have HT2 : Hid (∀ k, k < n → S (k + 1) = S k ++ (if d.getD k 0 = 48 then C0 else C1)) := Lib.hid (by rw [hS]; exact HT.out)
  have HL2 : Hid (∀ k, k ≤ n → (S k).length ≤ 10000) := Lib.hid (by rw [hS]; exact HL.out)
  have HS0 : Hid (S 0 = []) := Lib.hid (by rw [hS]; rfl)
  have HSN : Hid (S n = sprL d c) := Lib.hid (by rw [hS]; show sprL (d.take n) c = _; rw [HF.out])
  clear hn hC0 hC1 hS hdb hcb HT HL hm HF hN
  go_enter Try.func75, Try.ntmps75
  go_wp2
  go_loopw [5, 6] (fun v i wr => ∃ k : Nat, k ≤ n ∧ i = .int .i64 (k : Int) ∧ Sl wr w.heap.size wr.heap.size v (S k) ∧ Below w.heap.size w wr) (fun _ i _ => n - (intOf i).toNat)
  case atStart => exact ⟨0, Nat.zero_le _, rfl, by rw [HS0.out]; exact sl_empty, (Below.refl _ _).alloc (Nat.le_refl _) _⟩
  case round =>
    obtain ⟨k, hk, rfl, hsl, hb⟩ := hrel
    by_cases hlt : k < n
    · have hlz : k < (str d).size := by omega
      have hg := HG.out k hlz
      have hbt := HB.out k hlt
      have hlk := HL2.out k hk
      have HT3 := Lib.hid (HT2.out k hlt)
      have HSL := Lib.hid hsl
      obtain ⟨A, cp, rfl, _, _⟩ := hsl.reads
      clear hsl
      by_cases h48 : d.getD k 0 = 48
      · rw [h48] at hg
        have HE : Hid (S (k + 1) = S k ++ C0) := Lib.hid (by rw [HT3.out, if_pos h48])
        clear h48 hbt HT3
        go_wp2_with fail
        refine (HC.out _).mono ?_
        rintro e w1 ⟨u, rfl, hu, k1⟩
        have hs1 := (HSL.out.below k1 (Nat.le_refl _)).up k1.size
        have hb1 := hb.trans (k1.mono hb.size)
        clear HSL k1 hb
        have HU := Lib.hid hu
        have HS1 := Lib.hid hs1
        obtain ⟨A2, c2, rfl, _, _⟩ := hu.reads
        clear hu hs1
        go_wp2_with (at_builtin; refine appAny (w0 := w) rfl _ _ rfl w.heap.size _ _ (S k) C0 rfl rfl HS1.out _ _ HU.out hb1 (Nat.le_refl _) (by omega) ?_; intro v2 w2 hs2 hb2)
        rw [← HE.out] at hs2
        have H2 := Lib.hid hs2
        clear hs2 hb1
        go_wp2
        go_roundw
        case rel => exact ⟨k + 1, by omega, by go_num, H2.out, hb2⟩
        case measure => (simp [intOf]; try omega)
      · have h49 : d.getD k 0 = 49 := by rcases hbt with h | h; exact absurd h h48; exact h
        rw [h49] at hg
        have HE : Hid (S (k + 1) = S k ++ C1) := Lib.hid (by rw [HT3.out, if_neg h48])
        clear h48 h49 hbt HT3
        go_wp2_with fail
        refine (HI.out _).mono ?_
        rintro e w0 ⟨rfl, k0⟩
        have hs0 := (HSL.out.below k0 (Nat.le_refl _)).up k0.size
        have hb0 := hb.trans (k0.mono hb.size)
        clear HSL k0 hb
        have HS0 := Lib.hid hs0
        clear hs0
        go_wp2_with fail
        refine (HCI.out _).mono ?_
        rintro e w1 ⟨u, rfl, hu, k1⟩
        have hs1 := (HS0.out.below k1 (Nat.le_refl _)).up k1.size
        have hb1 := hb0.trans (k1.mono hb0.size)
        clear HS0 k1 hb0
        have HU := Lib.hid hu
        have HS1 := Lib.hid hs1
        obtain ⟨A2, c2, rfl, _, _⟩ := hu.reads
        clear hu hs1
        go_wp2_with (at_builtin; refine appAny (w0 := w) rfl _ _ rfl w.heap.size _ _ (S k) C1 rfl rfl HS1.out _ _ HU.out hb1 (Nat.le_refl _) (by omega) ?_; intro v2 w2 hs2 hb2)
        rw [← HE.out] at hs2
        have H2 := Lib.hid hs2
        clear hs2 hb1
        go_wp2
        go_roundw
        case rel => exact ⟨k + 1, by omega, by go_num, H2.out, hb2⟩
        case measure => (simp [intOf]; try omega)
    · obtain rfl : k = n := by omega
      have HSL := Lib.hid hsl
      obtain ⟨A, cp, rfl, _, _⟩ := hsl.reads
      clear hsl
      go_wp2
      go_ret
      exact RetL.mk (by rw [← HSN.out]; exact HSL.out) hb
/- Part: Contract of the sum of the signals of users (exact). -/

/-- users lie in a block -/
def RU (w : World) (q : Nat) (us : List Usr) : Prop := q < w.heap.size ∧ ∀ i, i < us.length → ∃ c d : List UInt8, ∃ a y : Nat, us[i]? = some (c, d, a, y) ∧
  w.cell? ⟨q, i * 4, none⟩ = some (.string (str c)) ∧ w.cell? ⟨q, i * 4 + 1, none⟩ = some (.string (str d)) ∧ w.cell? ⟨q, i * 4 + 2, none⟩ = some (.int .i64 (a : Int)) ∧ w.cell? ⟨q, i * 4 + 3, none⟩ = some (.int .i64 (y : Int))
theorem RU.block {w w' : World} {q : Nat} {us : List Usr} (h : RU w q us) (hb : w'.heap[q]? = w.heap[q]?) (hs : w.heap.size ≤ w'.heap.size) : RU w' q us := by
  obtain ⟨h0, h⟩ := h
  have c := fun i => (cell_block (w := w) (w' := w') (p := ⟨q, i, none⟩) hb).1
  refine ⟨by omega, fun i hi => ?_⟩
  obtain ⟨x, d, a, y, h1, h2, h3, h4, h5⟩ := h i hi
  exact ⟨x, d, a, y, h1, (c _).trans h2, (c _).trans h3, (c _).trans h4, (c _).trans h5⟩
theorem RU.below {w w' : World} {q : Nat} {us : List Usr} (h : RU w q us) (hb : Below w.heap.size w w') : RU w' q us := h.block (hb.block q h.1) hb.size
theorem RU.keeps {w w' : World} {q g : Nat} {us : List Usr} (h : RU w q us) (hk : Keeps g w w') (hne : q ≠ g) : RU w' q us := h.block (hk.other q hne h.1) hk.size
theorem usV_at (us : List Usr) : ∀ i, i < us.length → ∃ c d : List UInt8, ∃ a y : Nat, us[i]? = some (c, d, a, y) ∧ (usV us)[4 * i]? = some (.string (str c)) ∧ (usV us)[4 * i + 1]? = some (.string (str d)) ∧ (usV us)[4 * i + 2]? = some (.int .i64 (a : Int)) ∧ (usV us)[4 * i + 3]? = some (.int .i64 (y : Int)) := by
  induction us with
  | nil => intro i h; simp at h
  | cons u us ih =>
    intro i h
    obtain ⟨c, d, a, y⟩ := u
    cases i with
    | zero => exact ⟨c, d, a, y, rfl, rfl, rfl, rfl, rfl⟩
    | succ i =>
      obtain ⟨c', d', a', y', h1, h2, h3, h4, h5⟩ := ih i (by simpa using h)
      have e : usV ((c, d, a, y) :: us) = Value.string (str c) :: Value.string (str d) :: Value.int .i64 (a : Int) :: Value.int .i64 (y : Int) :: usV us := rfl
      refine ⟨c', d', a', y', by simpa using h1, ?_, ?_, ?_, ?_⟩
      all_goals
        rw [e]
        first
        | (rw [show 4 * (i + 1) = 4 * i + 1 + 1 + 1 + 1 by omega]; simpa using h2)
        | (rw [show 4 * (i + 1) + 1 = 4 * i + 1 + 1 + 1 + 1 + 1 by omega]; simpa using h3)
        | (rw [show 4 * (i + 1) + 2 = 4 * i + 2 + 1 + 1 + 1 + 1 by omega]; simpa using h4)
        | (rw [show 4 * (i + 1) + 3 = 4 * i + 3 + 1 + 1 + 1 + 1 by omega]; simpa using h5)
theorem usV_len (us : List Usr) : (usV us).length = 4 * us.length := by
  induction us with
  | nil => rfl
  | cons u us ih =>
    obtain ⟨c, d, a, y⟩ := u
    have e : usV ((c, d, a, y) :: us) = Value.string (str c) :: Value.string (str d) :: Value.int .i64 (a : Int) :: Value.int .i64 (y : Int) :: usV us := rfl
    rw [e]; simp [ih]; omega
theorem RU.of_own {w : World} {B q cap : Nat} {e : TypeId} {us : List Usr} (h : Own4 w B e q us.length cap (usV us)) : RU w q us := by
  refine ⟨h.lt.2, fun i hi => ?_⟩
  obtain ⟨c, d, a, y, h1, h2, h3, h4, h5⟩ := usV_at us i hi
  have hl := usV_len us
  rw [Nat.mul_comm 4 i] at h2 h3 h4 h5
  have hc := fun j hj => World.ownsRow.cellAt h j hj
  exact ⟨c, d, a, y, h1, (hc _ (by omega)).trans h2, (hc _ (by omega)).trans h3, (hc _ (by omega)).trans h4, (hc _ (by omega)).trans h5⟩
/-- what a user sends -/
def usrL (u : Usr) : List Int := zerosL u.2.2.2 ++ scaleW (sprL u.2.1 u.1) (u.2.2.1 : Int)
/-- what users send -/
def sndL (us : List Usr) : List Int := us.foldl (fun z u => addL5 z (usrL u)) []
theorem sndL_snoc (us : List Usr) (u : Usr) : sndL (us ++ [u]) = addL5 (sndL us) (usrL u) := by unfold sndL; rw [List.foldl_append]; rfl
theorem sndL_take {us : List Usr} {k : Nat} {u : Usr} (h : us[k]? = some u) : sndL (us.take (k + 1)) = addL5 (sndL (us.take k)) (usrL u) := by
  have hk : k < us.length := by
    by_cases hk : k < us.length
    · exact hk
    · rw [List.getElem?_eq_none (by omega)] at h; cases h
  rw [List.take_succ_eq_append_getElem hk, sndL_snoc]
  rw [List.getElem?_eq_getElem hk] at h
  rw [Option.some.inj h]
theorem usrL_len (u : Usr) : (usrL u).length = u.2.2.2 + u.2.1.length * u.1.length := by unfold usrL; rw [List.length_append, zerosL_len, scaleW_len, sprL_len]
/-- users whose signals are within bounds -/
def UsrB (u : Usr) : Prop := (∀ c ∈ u.1, bit c) ∧ (∀ c ∈ u.2.1, bit c) ∧ u.1.length ≤ 1000 ∧ u.2.1.length ≤ 1000 ∧ u.2.2.2 + u.2.1.length * u.1.length ≤ 3000
theorem sndL_len : ∀ us : List Usr, (∀ u ∈ us, UsrB u) → ∀ z : List Int, z.length ≤ 3000 → (us.foldl (fun z u => addL5 z (usrL u)) z).length ≤ 3000
  | [], _, z, hz => hz
  | u :: us, h, z, hz => by
    rw [List.foldl_cons]
    refine sndL_len us (fun v hv => h v (List.mem_cons_of_mem _ hv)) _ ?_
    have hu := (h u (List.mem_cons_self ..)).2.2.2.2
    rw [addL5_len, usrL_len]
    omega
theorem UsrOK.toB {u : Usr} (h : UsrOK u) : UsrB u := by
  obtain ⟨⟨h1, h2, h3⟩, h4, h5, h6⟩ := h
  have hm : u.2.1.length * u.1.length ≤ 8 * 8 := Nat.mul_le_mul h4.1 h2
  have := h4.1
  exact ⟨h3, fun c hc => h4.2 c hc, by omega, by omega, by omega⟩
/-- a call behind W0 that gives a slice -/
theorem relS {P : Program} {f : FuncId} {args : Array Value} {W0 u : World} {z : List Int} (hu : Below W0.heap.size W0 u) (h : Calls P f args u (RetL z u)) :
    Calls P f args u fun e u' => ∃ v, e = .returned v ∧ Sl u' W0.heap.size u'.heap.size v z ∧ Below u.heap.size u u' ∧ Below W0.heap.size W0 u' :=
  h.mono fun e u' ⟨v, he, hs, hb⟩ => ⟨v, he, hs.mono hu.size (Nat.le_refl _), hb, hu.trans (hb.mono hu.size)⟩
theorem scaleS_sl (lo hi : Nat) (u : Value) (z : List Int) (g : Int) (w : World) (hu : Sl w lo hi u z) (hh : hi ≤ w.heap.size) (hl : z.length ≤ 100000) :
    Calls Try.prog 74 #[u, .int .i64 g] w (RetL (scaleW z g) w) := by
  obtain ⟨A, c, rfl, hr, _⟩ := hu.reads
  exact scaleS_any A c z g w (hr.more hh) (by omega)
theorem addS_sl (lo hi lo2 hi2 : Nat) (u v : Value) (z y : List Int) (w : World) (hu : Sl w lo hi u z) (hh : hi ≤ w.heap.size) (hv : Sl w lo2 hi2 v y) (hh2 : hi2 ≤ w.heap.size) (hl : z.length ≤ 20000) (hl2 : y.length ≤ 20000) :
    Calls Try.prog 42 #[u, v] w (RetL (addL5 z y) w) := by
  obtain ⟨A, c, rfl, hr, _⟩ := hu.reads
  obtain ⟨A2, c2, rfl, hr2, _⟩ := hv.reads
  exact l4Add_any A A2 c c2 z y w (hr.more hh) (hr2.more hh2) hl hl2
set_option maxHeartbeats 4000000 in
theorem sendS_any (q cap : Nat) (us : List Usr) (w : World) (hr : RU w q us) (hn : us.length ≤ 8) (hus : ∀ u ∈ us, UsrB u) :
    Calls Try.prog 53 #[.slice (some ⟨q, 0, none⟩) us.length cap] w (RetL (sndL us) w) := by
  have HR := Lib.hid hr
  have HU := Lib.hid hus
  have HF : Hid (sndL (us.take us.length) = sndL us) := Lib.hid (by rw [List.take_length])
  have HLN : Hid (∀ k, (sndL (us.take k)).length ≤ 3000) := Lib.hid fun k => sndL_len _ (fun u hu => hus u (List.mem_of_mem_take hu)) [] (by simp)
  clear hr hus
  go_enter Try.func53, Try.ntmps53
  go_wp2
  go_loopw [3, 4, 5] (fun v i _ wr => ∃ k : Nat, k ≤ us.length ∧ i = .int .i64 (k : Int) ∧ Sl wr w.heap.size wr.heap.size v (sndL (us.take k)) ∧ Below w.heap.size w wr) (fun _ i _ _ => us.length - (intOf i).toNat)
  case atStart => exact ⟨0, Nat.zero_le _, rfl, sl_empty, (Below.refl _ _).alloc (Nat.le_refl _) _⟩
  case round =>
    obtain ⟨k, hk, rfl, hsl, hb⟩ := hrel
    by_cases hlt : k < us.length
    · obtain ⟨c, d, a, y, hu, h0, h1, h2, h3⟩ := (HR.out.below hb).2 k hlt
      obtain ⟨hB1, hB2, hB3, hB4, hB5⟩ := HU.out _ (List.mem_of_getElem? hu)
      simp only [] at hB1 hB2 hB3 hB4 hB5
      obtain ⟨Z1, hZ1⟩ : ∃ Z1, Z1 = sprL d c := ⟨_, rfl⟩
      have hZ1l : Z1.length ≤ 3000 := by rw [hZ1, sprL_len]; omega
      have HA : Hid (∀ u : World, Calls Try.prog 75 #[.string (str d), .string (str c)] u (RetL Z1 u)) := Lib.hid fun u => by
        rw [hZ1]; exact sprS_any d c u hB4 hB3 (by omega) hB2 hB1
      have HT : Hid (addL5 (sndL (us.take k)) (zerosL y ++ scaleW Z1 (a : Int)) = sndL (us.take (k + 1))) := Lib.hid (by rw [sndL_take hu, hZ1]; rfl)
      have hZ2l := scaleW_len Z1 (a : Int)
      obtain ⟨Z2, hZ2⟩ : ∃ Z2, Z2 = scaleW Z1 (a : Int) := ⟨_, rfl⟩
      rw [← hZ2] at HT hZ2l
      have HBB : Hid (∀ (u : World) (v : Value), Sl u (wr.heap.size + 1) u.heap.size v Z1 → Calls Try.prog 74 #[v, .int .i64 (a : Int)] u (RetL Z2 u)) := Lib.hid fun u v hs => by
        rw [hZ2]; exact scaleS_sl _ _ v Z1 _ u hs (Nat.le_refl _) (by omega)
      have HC : Hid (∀ (u : World) (v : Value), Sl u (wr.heap.size + 1) u.heap.size v Z2 → Calls Try.prog 73 #[v, .int .i64 (y : Int)] u (RetL (zerosL y ++ Z2) u)) := Lib.hid fun u v hs => delS_any _ _ v Z2 y u hs (Nat.le_refl _) (by omega) (by omega)
      have hZ3l : (zerosL y ++ Z2).length ≤ 6000 := by rw [List.length_append, zerosL_len]; omega
      obtain ⟨Z3, hZ3⟩ : ∃ Z3, Z3 = zerosL y ++ Z2 := ⟨_, rfl⟩
      rw [← hZ3] at HT HC hZ3l
      have hlz := HLN.out k
      obtain ⟨Z0, hZ0⟩ : ∃ Z0, Z0 = sndL (us.take k) := ⟨_, rfl⟩
      obtain ⟨Z4, hZ4⟩ : ∃ Z4, Z4 = sndL (us.take (k + 1)) := ⟨_, rfl⟩
      have HZ4 := Lib.hid hZ4
      rw [← hZ0] at hlz hsl HT
      rw [← hZ4] at HT
      obtain ⟨A, cp, rfl, _, _⟩ := hsl.reads
      obtain ⟨V, hV⟩ : ∃ V, V = wr.alloc (.cells #[.string (str c), .string (str d), .int .i64 (a : Int), .int .i64 (y : Int)] 45) := ⟨_, rfl⟩
      have hbV : Below wr.heap.size wr V := by rw [hV]; exact (Below.refl _ _).alloc (Nat.le_refl _) _
      have hVs : V.heap.size = wr.heap.size + 1 := by rw [hV]; simp
      have HX : Hid (∀ u, Below V.heap.size V u → u.cell? ⟨wr.heap.size, 0, none⟩ = some (.string (str c)) ∧ u.cell? ⟨wr.heap.size, 1, none⟩ = some (.string (str d)) ∧ u.cell? ⟨wr.heap.size, 2, none⟩ = some (.int .i64 (a : Int)) ∧ u.cell? ⟨wr.heap.size, 3, none⟩ = some (.int .i64 (y : Int))) := Lib.hid fun u hu => by
        have hh : ∀ i, u.cell? ⟨wr.heap.size, i, none⟩ = V.cell? ⟨wr.heap.size, i, none⟩ := fun i => hu.cell (show wr.heap.size < V.heap.size by omega)
        rw [hh, hh, hh, hh, hV]
        exact ⟨by simp, by simp, by simp, by simp⟩
      have HD : Hid (∀ (u : World) (v : Value), Below V.heap.size V u → Sl u (wr.heap.size + 1) u.heap.size v Z3 → Calls Try.prog 42 #[.slice A Z0.length cp, v] u (RetL Z4 u)) := Lib.hid fun u v hu hs => by
        rw [← HT.out]
        have hs0 := (hsl.below hbV (Nat.le_refl _)).below hu hbV.size
        exact addS_sl _ _ _ _ _ v Z0 Z3 u hs0 (Nat.le_trans hbV.size hu.size) hs (Nat.le_refl _) (by omega) (by omega)
      have HBV := Lib.hid (hb.trans (hbV.mono hb.size))
      have hlo : w.heap.size ≤ V.heap.size := Nat.le_trans hb.size hbV.size
      have hVb : Below V.heap.size V V := Below.refl _ _
      have HVS := Lib.hid hVs
      rw [← hVs] at HBB HC HD
      clear hsl hu hbV hB1 hB2 hB5 hZ1 hZ2 hZ3 hZ0 hZ4 hVs
      go_wp2
      rw [← hV]
      clear hV hb h0 h1 h2 h3
      refine wp_region_held_drew (S := (fun u => u.cell? ⟨wr.heap.size, 0, none⟩ = some (.string (str c)) ∧ u.cell? ⟨wr.heap.size, 1, none⟩ = some (.string (str d)) ∧ u.cell? ⟨wr.heap.size, 2, none⟩ = some (.int .i64 (a : Int)) ∧ u.cell? ⟨wr.heap.size, 3, none⟩ = some (.int .i64 (y : Int)))) (by kernel_rfl) ?_ (fun hHeld => ?_)
      · (try dsimp only)
        exact HX.out _ (by first | assumption | exact Below.drew (by assumption))
      first
        | (refine wpAnyH_take (i := 0) (oi := ⟨(some 17), _, _, _, _, _⟩) (v := ?_) rfl (by kernel_rfl) (by kernel_rfl) (by kernel_rfl) (fun _ _ _ h => h) (Or.inl ⟨by rfl, ?_⟩) (by assumption) ?_; rotate_left; (focus (intro ww hSw; (try dsimp only at hSw); go_simp; (try with_reducible rfl))))
        | (refine wpAnyH_take (i := 0) (oi := ⟨(some 17), _, _, _, _, _⟩) (v := undef) rfl (by kernel_rfl) (by kernel_rfl) (by kernel_rfl) (fun _ _ _ h => h) (Or.inr ⟨by rfl, rfl⟩) (by assumption) ?_)
      (try simp only [Act.put, List.setIfInBounds_toArray, List.set_cons_zero, List.set_cons_succ])
      first
        | (refine wpAnyH_take (i := 1) (oi := ⟨(some 18), _, _, _, _, _⟩) (v := ?_) rfl (by kernel_rfl) (by kernel_rfl) (by kernel_rfl) (fun _ _ _ h => h) (Or.inl ⟨by rfl, ?_⟩) (by assumption) ?_; rotate_left; (focus (intro ww hSw; (try dsimp only at hSw); go_simp; (try with_reducible rfl))))
        | (refine wpAnyH_take (i := 1) (oi := ⟨(some 18), _, _, _, _, _⟩) (v := undef) rfl (by kernel_rfl) (by kernel_rfl) (by kernel_rfl) (fun _ _ _ h => h) (Or.inr ⟨by rfl, rfl⟩) (by assumption) ?_)
      (try simp only [Act.put, List.setIfInBounds_toArray, List.set_cons_zero, List.set_cons_succ])
      first
        | (refine wpAnyH_take (i := 2) (oi := ⟨(some 19), _, _, _, _, _⟩) (v := ?_) rfl (by kernel_rfl) (by kernel_rfl) (by kernel_rfl) (fun _ _ _ h => h) (Or.inl ⟨by rfl, ?_⟩) (by assumption) ?_; rotate_left; (focus (intro ww hSw; (try dsimp only at hSw); go_simp; (try with_reducible rfl))))
        | (refine wpAnyH_take (i := 2) (oi := ⟨(some 19), _, _, _, _, _⟩) (v := undef) rfl (by kernel_rfl) (by kernel_rfl) (by kernel_rfl) (fun _ _ _ h => h) (Or.inr ⟨by rfl, rfl⟩) (by assumption) ?_)
      (try simp only [Act.put, List.setIfInBounds_toArray, List.set_cons_zero, List.set_cons_succ])
      first
        | (refine wpAnyH_take (i := 3) (oi := ⟨(some 20), _, _, _, _, _⟩) (v := ?_) rfl (by kernel_rfl) (by kernel_rfl) (by kernel_rfl) (fun _ _ _ h => h) (Or.inl ⟨by rfl, ?_⟩) (by assumption) ?_; rotate_left; (focus (intro ww hSw; (try dsimp only at hSw); go_simp; (try with_reducible rfl))))
        | (refine wpAnyH_take (i := 3) (oi := ⟨(some 20), _, _, _, _, _⟩) (v := undef) rfl (by kernel_rfl) (by kernel_rfl) (by kernel_rfl) (fun _ _ _ h => h) (Or.inr ⟨by rfl, rfl⟩) (by assumption) ?_)
      (try simp only [Act.put, List.setIfInBounds_toArray, List.set_cons_zero, List.set_cons_succ])
      first
        | (refine wpAnyH_take (i := 4) (oi := ⟨(some 21), _, _, _, _, _⟩) (v := ?_) rfl (by kernel_rfl) (by kernel_rfl) (by kernel_rfl) (fun _ _ _ h => h) (Or.inl ⟨by rfl, ?_⟩) (by assumption) ?_; rotate_left; (focus (intro ww hSw; (try dsimp only at hSw); go_simp; (try with_reducible rfl))))
        | (refine wpAnyH_take (i := 4) (oi := ⟨(some 21), _, _, _, _, _⟩) (v := undef) rfl (by kernel_rfl) (by kernel_rfl) (by kernel_rfl) (fun _ _ _ h => h) (Or.inr ⟨by rfl, rfl⟩) (by assumption) ?_)
      (try simp only [Act.put, List.setIfInBounds_toArray, List.set_cons_zero, List.set_cons_succ])
      first
        | (refine wpAnyH_take (i := 6) (oi := ⟨(some 23), _, _, _, _, _⟩) (v := ?_) rfl (by kernel_rfl) (by kernel_rfl) (by kernel_rfl) (fun _ _ _ h => h) (Or.inl ⟨by rfl, ?_⟩) (by assumption) ?_; rotate_left; (focus (intro ww hSw; (try dsimp only at hSw); go_simp; (try with_reducible rfl))))
        | (refine wpAnyH_take (i := 6) (oi := ⟨(some 23), _, _, _, _, _⟩) (v := undef) rfl (by kernel_rfl) (by kernel_rfl) (by kernel_rfl) (fun _ _ _ h => h) (Or.inr ⟨by rfl, rfl⟩) (by assumption) ?_)
      (try simp only [Act.put, List.setIfInBounds_toArray, List.set_cons_zero, List.set_cons_succ])
      first
        | (refine wpAnyH_take (i := 7) (oi := ⟨(some 24), _, _, _, _, _⟩) (v := ?_) rfl (by kernel_rfl) (by kernel_rfl) (by kernel_rfl) (fun _ _ _ h => h) (Or.inl ⟨by rfl, ?_⟩) (by assumption) ?_; rotate_left; (focus (intro ww hSw; (try dsimp only at hSw); go_simp; (try with_reducible rfl))))
        | (refine wpAnyH_take (i := 7) (oi := ⟨(some 24), _, _, _, _, _⟩) (v := undef) rfl (by kernel_rfl) (by kernel_rfl) (by kernel_rfl) (fun _ _ _ h => h) (Or.inr ⟨by rfl, rfl⟩) (by assumption) ?_)
      (try simp only [Act.put, List.setIfInBounds_toArray, List.set_cons_zero, List.set_cons_succ])
      first
        | (refine wpAnyH_take (i := 9) (oi := ⟨(some 26), _, _, _, _, _⟩) (v := ?_) rfl (by kernel_rfl) (by kernel_rfl) (by kernel_rfl) (fun _ _ _ h => h) (Or.inl ⟨by rfl, ?_⟩) (by assumption) ?_; rotate_left; (focus (intro ww hSw; (try dsimp only at hSw); go_simp; (try with_reducible rfl))))
        | (refine wpAnyH_take (i := 9) (oi := ⟨(some 26), _, _, _, _, _⟩) (v := undef) rfl (by kernel_rfl) (by kernel_rfl) (by kernel_rfl) (fun _ _ _ h => h) (Or.inr ⟨by rfl, rfl⟩) (by assumption) ?_)
      (try simp only [Act.put, List.setIfInBounds_toArray, List.set_cons_zero, List.set_cons_succ])
      first
        | (refine wpAnyH_take (i := 10) (oi := ⟨(some 27), _, _, _, _, _⟩) (v := ?_) rfl (by kernel_rfl) (by kernel_rfl) (by kernel_rfl) (fun _ _ _ h => h) (Or.inl ⟨by rfl, ?_⟩) (by assumption) ?_; rotate_left; (focus (intro ww hSw; (try dsimp only at hSw); go_simp; (try with_reducible rfl))))
        | (refine wpAnyH_take (i := 10) (oi := ⟨(some 27), _, _, _, _, _⟩) (v := undef) rfl (by kernel_rfl) (by kernel_rfl) (by kernel_rfl) (fun _ _ _ h => h) (Or.inr ⟨by rfl, rfl⟩) (by assumption) ?_)
      (try simp only [Act.put, List.setIfInBounds_toArray, List.set_cons_zero, List.set_cons_succ])
      refine wpAnyH_ready (rs := [5]) (by kernel_rfl) (by simp) ?_
      refine AllReadyH.cons (o := ⟨(some 22), _, _, _, _, _⟩) rfl (fun K hK => ?_) AllReadyH.nil
      go_simp
      refine (relS (W0 := V) (by first | assumption | exact Below.drew (by assumption)) (HA.out _)).mono ?_
      rintro e q1 ⟨v1, rfl, hs1, hk1, hq1⟩
      clear hVb
      go_wp2_with fail
      refine hK.out _ _ ?_ (fun hHeld => ?_)
      · (try dsimp only)
        exact HX.out _ (by first | assumption | exact Below.drew (by assumption))
      clear hK K
      (try simp only [Act.put, List.setIfInBounds_toArray, List.set_cons_zero, List.set_cons_succ])
      refine wpAnyH_ready (rs := [8]) (by kernel_rfl) (by simp) ?_
      refine AllReadyH.cons (o := ⟨(some 25), _, _, _, _, _⟩) rfl (fun K hK => ?_) AllReadyH.nil
      go_simp
      refine (relS (W0 := V) (by first | assumption | exact Below.drew (by assumption)) (HBB.out _ _ (by exact hs1))).mono ?_
      rintro e q2 ⟨v2, rfl, hs2, hk2, hq2⟩
      clear hq1 hs1
      go_wp2_with fail
      refine hK.out _ _ ?_ (fun hHeld => ?_)
      · (try dsimp only)
        exact HX.out _ (by first | assumption | exact Below.drew (by assumption))
      clear hK K
      (try simp only [Act.put, List.setIfInBounds_toArray, List.set_cons_zero, List.set_cons_succ])
      refine wpAnyH_ready (rs := [11]) (by kernel_rfl) (by simp) ?_
      refine AllReadyH.cons (o := ⟨(some 28), _, _, _, _, _⟩) rfl (fun K hK => ?_) AllReadyH.nil
      go_simp
      refine (relS (W0 := V) (by first | assumption | exact Below.drew (by assumption)) (HC.out _ _ (by exact hs2))).mono ?_
      rintro e q3 ⟨v3, rfl, hs3, hk3, hq3⟩
      clear hq2 hs2
      go_wp2_with fail
      refine hK.out _ _ ?_ (fun hHeld => ?_)
      · (try dsimp only)
        exact HX.out _ (by first | assumption | exact Below.drew (by assumption))
      clear hK K
      (try simp only [Act.put, List.setIfInBounds_toArray, List.set_cons_zero, List.set_cons_succ])
      refine wpAnyH_ready (rs := [12]) (by kernel_rfl) (by simp) ?_
      refine AllReadyH.cons (o := ⟨(some 29), _, _, _, _, _⟩) rfl (fun K hK => ?_) AllReadyH.nil
      go_simp
      refine (relS (W0 := V) (by first | assumption | exact Below.drew (by assumption)) (HD.out _ _ (by first | assumption | exact Below.drew (by assumption)) (by exact hs3))).mono ?_
      rintro e q4 ⟨v4, rfl, hs4, hk4, hq4⟩
      clear hq3 hs3
      go_wp2_with fail
      refine hK.out _ _ ?_ (fun hHeld => ?_)
      · (try dsimp only)
        exact HX.out _ (by first | assumption | exact Below.drew (by assumption))
      clear hK K
      (try simp only [Act.put, List.setIfInBounds_toArray, List.set_cons_zero, List.set_cons_succ])
      first
        | (refine wpAnyH_take (i := 13) (oi := ⟨(some 3), _, _, _, _, _⟩) (v := ?_) rfl (by kernel_rfl) (by kernel_rfl) (by kernel_rfl) (fun _ _ _ h => h) (Or.inl ⟨by rfl, ?_⟩) (by assumption) ?_; rotate_left; (focus (intro ww hSw; (try dsimp only at hSw); go_simp; (try with_reducible rfl))))
        | (refine wpAnyH_take (i := 13) (oi := ⟨(some 3), _, _, _, _, _⟩) (v := undef) rfl (by kernel_rfl) (by kernel_rfl) (by kernel_rfl) (fun _ _ _ h => h) (Or.inr ⟨by rfl, rfl⟩) (by assumption) ?_)
      (try simp only [Act.put, List.setIfInBounds_toArray, List.set_cons_zero, List.set_cons_succ])
      refine wpAnyH_done (by kernel_rfl) ?_ _
      skip
      have HS4 := Lib.hid (hs4.mono hlo (Nat.le_refl _))
      have hB4 := HBV.out.trans (hq4.mono hlo)
      clear hs4 hq4 hk1 hk2 hk3 hk4
      go_wp2
      go_roundw
      case rel => exact ⟨k + 1, by omega, by go_num, by rw [← HZ4.out]; exact HS4.out, hB4⟩
      case measure => (simp [intOf]; try omega)
    · obtain rfl : k = us.length := by omega
      have HSL := Lib.hid hsl
      obtain ⟨A, cp, rfl, _, _⟩ := hsl.reads
      clear hsl
      go_wp2
      go_ret
      exact RetL.mk (by rw [← HF.out]; exact HSL.out) hb
/- Part: Contracts of TreeCode on short paths and of SpreadBits and DelaySignal on valid arguments. -/

/-- the code of the first k bits of a path -/
def treeT (p : List UInt8) : Nat → List UInt8
  | 0 => [48]
  | k + 1 => if p.getD k 0 = 48 then treeT p k ++ treeT p k else treeT p k ++ invL (treeT p k)
theorem treeT_len (p : List UInt8) : ∀ k, (treeT p k).length = 2 ^ k
  | 0 => rfl
  | k + 1 => by
    rw [treeT]
    split
    · rw [List.length_append, treeT_len p k]; omega
    · rw [List.length_append, invL_len, treeT_len p k]; omega
theorem treeT_bits (p : List UInt8) : ∀ k, k ≤ 6 → bitsOK (treeT p k) = true
  | 0, _ => rfl
  | k + 1, hk => by
    have h := treeT_bits p k (by omega)
    have hl := treeT_len p (k + 1)
    have h2 : 2 ^ (k + 1) ≤ 2 ^ 6 := Nat.pow_le_pow_right (by omega) hk
    have h1 := bits_mem4 h
    have hi := bits_mem4 (invL_bits h)
    refine bitsOK_mk (by omega) fun c hc => ?_
    have hb : bit c := by
      rw [treeT] at hc
      split at hc
      · rw [List.mem_append] at hc
        rcases hc with hc | hc <;> exact h1 c hc
      · rw [List.mem_append] at hc
        rcases hc with hc | hc
        · exact h1 c hc
        · exact hi c hc
    rcases hb with rfl | rfl <;> rfl
theorem path_yes (p : List UInt8) (w : World) (hb : bitsOK p = true) (hl : p.length ≤ 6) :
    Calls Try.prog 54 #[.string (str p)] w fun e w' => e = .returned (.bool true) ∧ w = w' := by
  have zp := str_size p
  have HQ := Lib.hid (isBits_any (str p) w (by unfold maxLen; omega))
  rw [str_list, hb] at HQ
  clear hb
  go_enter Try.func54, Try.ntmps54
  go_wp2_with fail
  refine (HQ.out).mono ?_
  rintro e w' ⟨rfl, rfl⟩
  go_wp2
  go_ret
  exact ⟨rfl, rfl⟩
set_option maxHeartbeats 2000000 in
theorem tree_yes (p : List UInt8) (w : World) (hb : bitsOK p = true) (hl : p.length ≤ 6) :
    Calls Try.prog 24 #[.string (str p)] w fun e w' => e = .returned (.tuple #[.string (str (treeT p p.length)), .bool true]) ∧ Below w.heap.size w w' := by
  have zp := str_size p
  have HQ := Lib.hid (path_yes p w hb hl)
  have HG : Hid (∀ k (h : k < (str p).size), (str p)[k] = p.getD k 0) := Lib.hid fun k h => str_get p k h
  have HBT : Hid (∀ k, k < p.length → bit (p.getD k 0)) := Lib.hid fun k h => bits_at4 hb h
  have HI : Hid (∀ (k : Nat) (u : World), k ≤ 6 → Calls Try.prog 55 #[.string (str (treeT p k))] u fun e w' => e = .returned (.string (str (invL (treeT p k)))) ∧ Below u.heap.size u w') := Lib.hid fun k u hk => invI_any _ u (treeT_bits p k hk)
  have HE0 : Hid (∀ k, p.getD k 0 = 48 → str (treeT p k) ++ str (treeT p k) = str (treeT p (k + 1))) := Lib.hid fun k h => by rw [str_add, treeT, if_pos h]
  have HE1 : Hid (∀ k, ¬ p.getD k 0 = 48 → str (treeT p k) ++ str (invL (treeT p k)) = str (treeT p (k + 1))) := Lib.hid fun k h => by rw [str_add, treeT, if_neg h]
  have HZ : Hid (Value.string (⟨#[48]⟩ : ByteArray) = .string (str (treeT p 0))) := Lib.hid rfl
  have HSZ : Hid (∀ k, k ≤ 6 → (str (treeT p k)).size ≤ 64) := Lib.hid fun k hk => by rw [str_size, treeT_len]; exact Nat.pow_le_pow_right (by omega) hk
  obtain ⟨T, hT⟩ : ∃ T : Nat → ByteArray, T = fun k => str (treeT p k) := ⟨_, rfl⟩
  obtain ⟨V, hV⟩ : ∃ V : Nat → ByteArray, V = fun k => str (invL (treeT p k)) := ⟨_, rfl⟩
  have HI2 : Hid (∀ (k : Nat) (u : World), k ≤ 6 → Calls Try.prog 55 #[.string (T k)] u fun e w' => e = .returned (.string (V k)) ∧ Below u.heap.size u w') := by rw [hT, hV]; exact HI
  have HF0 : Hid (∀ k, p.getD k 0 = 48 → T k ++ T k = T (k + 1)) := by rw [hT]; exact HE0
  have HF1 : Hid (∀ k, ¬ p.getD k 0 = 48 → T k ++ V k = T (k + 1)) := by rw [hT, hV]; exact HE1
  have HZ2 : Hid (Value.string (⟨#[48]⟩ : ByteArray) = .string (T 0)) := by rw [hT]; exact HZ
  have HS2 : Hid (∀ k, k ≤ 6 → (T k).size ≤ 64 ∧ (V k).size ≤ 64) := by
    rw [hT, hV]
    exact Lib.hid fun k hk => ⟨HSZ.out k hk, by rw [str_size, invL_len, treeT_len]; exact Nat.pow_le_pow_right (by omega) hk⟩
  have HFIN : Hid (Value.string (str (treeT p p.length)) = .string (T p.length)) := by rw [hT]; exact Lib.hid rfl
  rw [HFIN.out]
  clear hb HI HE0 HE1 HZ hT hV HFIN HSZ
  go_enter Try.func24, Try.ntmps24
  go_wp2_with fail
  refine (HQ.out).mono ?_
  rintro e w' ⟨rfl, rfl⟩
  go_wp2
  go_loopw [4, 5, 11] (fun v _ i wr => ∃ k : Nat, k ≤ p.length ∧ i = .int .i64 (k : Int) ∧ v = .string (T k) ∧ Below w.heap.size w wr) (fun _ _ i _ => p.length - (intOf i).toNat)
  case atStart => exact ⟨0, Nat.zero_le _, rfl, HZ2.out, Below.refl _ _⟩
  case round =>
    clear HZ2
    obtain ⟨k, hk, rfl, rfl, hb⟩ := hrel
    by_cases hlt : k < p.length
    · have hg := HG.out k (by omega)
      have hls : k < (str p).size := by omega
      have hbt := HBT.out k hlt
      obtain ⟨sz1, sz2⟩ := HS2.out k (by omega)
      by_cases h48 : p.getD k 0 = 48
      · have s1 := HF0.out k h48
        rw [h48] at hg
        obtain ⟨R, hR⟩ : ∃ R, R = T (k + 1) := ⟨_, rfl⟩
        rw [← hR] at s1
        have HRR := Lib.hid hR
        clear hR h48 hbt
        go_wp2
        go_roundw
        case rel => exact ⟨k + 1, by omega, by go_num, by rw [HRR.out], hb⟩
        case measure => simp [intOf]; omega
      · have h49 : p.getD k 0 = 49 := by rcases hbt with h | h; exact absurd h h48; exact h
        have s1 := HF1.out k h48
        rw [h49] at hg
        have hI := Lib.hid (HI2.out k wr (by omega))
        obtain ⟨R, hR⟩ : ∃ R, R = T (k + 1) := ⟨_, rfl⟩
        rw [← hR] at s1
        have HRR := Lib.hid hR
        clear hR h48 h49 hbt
        go_wp2_with fail
        refine hI.out.mono ?_
        rintro e w2 ⟨rfl, k2⟩
        have hb2 := hb.trans (k2.mono hb.size)
        clear k2 hb
        go_wp2
        go_roundw
        case rel => exact ⟨k + 1, by omega, by go_num, by rw [HRR.out], hb2⟩
        case measure => simp [intOf]; omega
    · obtain rfl : k = p.length := by omega
      go_wp2
      go_ret2
      exact ⟨rfl, hb⟩
theorem sprL_cons (b : UInt8) (d c : List UInt8) : sprL (b :: d) c = (if b = 48 then c.map chip else (c.map inv1).map chip) ++ sprL d c := rfl
theorem sprL_at (c : List UInt8) (hc : ∀ x ∈ c, bit x) : ∀ (d : List UInt8), (∀ x ∈ d, bit x) → ∀ i r, i < d.length → r < c.length → (sprL d c).getD (i * c.length + r) 0 = chip (d.getD i 0) * chip (c.getD r 0)
  | [], _, i, r, hi, _ => by simp at hi
  | b :: d, hd, i, r, hi, hr => by
    have hbl : (if b = 48 then c.map chip else (c.map inv1).map chip).length = c.length := by split <;> simp
    have hcr : bit (c.getD r 0) := by rw [List.getD_eq_getElem?_getD, List.getElem?_eq_getElem hr]; exact hc _ (List.getElem_mem _)
    rw [sprL_cons]
    cases i with
    | zero =>
      rw [Nat.zero_mul, Nat.zero_add, List.getD_eq_getElem?_getD, List.getElem?_append_left (by omega)]
      rw [List.getD_cons_zero]
      have hb := hd b (List.mem_cons_self ..)
      rcases hb with rfl | rfl
      · rw [if_pos rfl]
        simp [List.getD_eq_getElem?_getD, List.getElem?_eq_getElem hr, show chip 48 = 1 from rfl]
      · rw [if_neg (by decide)]
        have h2 := chip_inv hcr
        simp [List.getD_eq_getElem?_getD, List.getElem?_eq_getElem hr] at h2 ⊢
        rw [h2, show chip 49 = -1 from rfl]
        omega
    | succ i =>
      have e : (i + 1) * c.length + r = c.length + (i * c.length + r) := by rw [Nat.succ_mul]; omega
      rw [e, List.getD_eq_getElem?_getD, List.getElem?_append_right (by omega), hbl, show c.length + (i * c.length + r) - c.length = i * c.length + r by omega, ← List.getD_eq_getElem?_getD, List.getD_cons_succ]
      exact sprL_at c hc d (fun x hx => hd x (List.mem_cons_of_mem _ hx)) i r (by simpa using hi) hr
theorem sprL_div {c d : List UInt8} (hc : ∀ x ∈ c, bit x) (hd : ∀ x ∈ d, bit x) {k : Nat} (hk : k < d.length * c.length) (h0 : 0 < c.length) : k / c.length < d.length ∧ k % c.length < c.length ∧ (sprL d c).getD k 0 = chip (d.getD (k / c.length) 0) * chip (c.getD (k % c.length) 0) := by
  have h1 : k / c.length < d.length := (Nat.div_lt_iff_lt_mul h0).2 hk
  have h2 : k % c.length < c.length := Nat.mod_lt _ h0
  refine ⟨h1, h2, ?_⟩
  have h3 := sprL_at c hc d hd _ _ h1 h2
  rw [Nat.div_add_mod'] at h3
  exact h3
theorem chip_prod (a b : UInt8) : -1 ≤ chip a * chip b ∧ chip a * chip b ≤ 1 := by rcases chip_two a with h | h <;> rcases chip_two b with h' | h' <;> rw [h, h'] <;> decide
set_option maxHeartbeats 2000000 in
theorem sprI_yes (d c : List UInt8) (w : World) (hd : bitsOK d = true) (hc : seqOK c = true) (hm : d.length * c.length ≤ 3000) :
    Calls Try.prog 49 #[.string (str d), .string (str c)] w (RetLB (sprL d c) true w) := by
  have zd := str_size d
  have zc := str_size c
  have hd6 := bits_le hd
  have hc2 : 1 ≤ c.length ∧ c.length ≤ 255 := by unfold seqOK at hc; simp only [Bool.and_eq_true, decide_eq_true_eq] at hc; exact ⟨hc.1.2, hc.2⟩
  have HQ1 := Lib.hid (isBits_any (str d) w (by unfold maxLen; omega))
  have HQ2 := Lib.hid (seqI_any (str c) w (by unfold maxLen; omega))
  rw [str_list, hd] at HQ1
  rw [str_list, hc] at HQ2
  have HGD : Hid (∀ k (h : k < (str d).size), (str d)[k] = d.getD k 0) := Lib.hid fun k h => str_get d k h
  have HGC : Hid (∀ k (h : k < (str c).size), (str c)[k] = c.getD k 0) := Lib.hid fun k h => str_get c k h
  obtain ⟨L, hL⟩ : ∃ L, L = c.length := ⟨_, rfl⟩
  obtain ⟨n, hn⟩ : ∃ n, n = d.length * c.length := ⟨_, rfl⟩
  obtain ⟨m, hme⟩ : ∃ m, m = d.length := ⟨_, rfl⟩
  have HAT : Hid (∀ k, k < n → k / L < m ∧ k % L < L ∧ (sprL d c).getD k 0 = chip (d.getD (k / L) 0) * chip (c.getD (k % L) 0)) := Lib.hid fun k hk => by
    rw [hL, hme]; exact sprL_div (bits_mem4 (seq_bits hc)) (bits_mem4 hd) (by omega) (by omega)
  have eq1 : (m : Int) * (L : Int) = (n : Int) := by rw [hn, hme, hL]; simp
  have hsl : (sprL d c).length = n := by rw [sprL_len, hn]
  rw [← hn] at hm
  rw [← hme] at zd hd6
  rw [← hL] at zc hc2
  have HSL := Lib.hid hsl
  have hmk := fun u => run_make_row' (P := Try.prog) 23 3 (.int .i64 0) 8 Try.underlying23 info_int rfl .i64 .i64 n (by omega) (by omega) u
  obtain ⟨hc1, hc255⟩ := hc2
  have hL0 : ¬ L = 0 := by omega
  have HDR : Hid (∀ k : Nat, (k : Int) / (L : Int) = ((k / L : Nat) : Int) ∧ (k : Int) % (L : Int) = ((k % L : Nat) : Int)) := Lib.hid fun k => ⟨by simp, by simp⟩
  clear hd hc hL hn hme hsl
  go_enter Try.func49, Try.ntmps49
  go_wp2_with fail
  refine (HQ1.out).mono ?_
  rintro e w' ⟨rfl, rfl⟩
  go_wp2_with fail
  refine (HQ2.out).mono ?_
  rintro e w' ⟨rfl, rfl⟩
  go_wp2
  go_loopw [7, 32] (fun _ i wr => ∃ k : Nat, k ≤ n ∧ i = .int .i64 (k : Int) ∧ wr.rowIs w.heap.size 3 n (fun j => if j < k then intV ((sprL d c).getD j 0) else .int .i64 0) ∧ Below w.heap.size w wr) (fun _ i _ => n - (intOf i).toNat)
  case atStart => exact ⟨0, Nat.zero_le _, rfl, (World.rowIs_made w _ _ _).congr (fun _ _ => rfl), (Below.refl _ _).alloc (Nat.le_refl _) _⟩
  case round =>
    clear hmk
    obtain ⟨k, hk, rfl, hrow, hb⟩ := hrel
    by_cases hlt : k < n
    · obtain ⟨hq1, hr1, hv⟩ := HAT.out k hlt
      obtain ⟨e1, e2⟩ := HDR.out k
      obtain ⟨Q, hQ⟩ : ∃ Q, Q = k / L := ⟨_, rfl⟩
      obtain ⟨R, hR⟩ : ∃ R, R = k % L := ⟨_, rfl⟩
      rw [← hQ] at hq1 hv e1
      rw [← hR] at hr1 hv e2
      have y2 : IntKind.i64.wrap ((k : Int) / (L : Int)) = (Q : Int) := by rw [e1]; exact IntWalk.i64_in _ (by omega)
      have y3 : ((k : Int) / (L : Int)).toNat = Q := by rw [e1]; rfl
      have gd := HGD.out Q (by omega)
      have gc := HGC.out R (by omega)
      have ld : Q < (str d).size := by omega
      have lc : R < (str c).size := by omega
      have hbp := chip_prod (d.getD Q 0) (c.getD R 0)
      have hc := hrow.cell hlt
      have hf := hrow.frozen k
      simp only [Nat.lt_irrefl, if_false] at hc
      have HV := Lib.hid hv
      have HW := Lib.hid hrow
      have HB := Lib.hid hb
      obtain ⟨p1, hp1⟩ : ∃ p1, p1 = d.getD Q 0 := ⟨_, rfl⟩
      obtain ⟨p2, hp2⟩ : ∃ p2, p2 = c.getD R 0 := ⟨_, rfl⟩
      have HP1 := Lib.hid hp1
      have HP2 := Lib.hid hp2
      rw [← hp1] at gd hbp
      rw [← hp2] at gc hbp
      clear hv hrow hb hQ hR hp1 hp2
      go_wp2
      refine wp_region_still_tail 18 (by kernel_rfl) (by kernel_rfl) ?_
      simp only [List.take_succ_cons, List.take_zero, List.drop_succ_cons, List.drop_zero]
      iterate 8 (refine wpStill_step (fun K hK => ?_); (try go_simp); (try simp only [IntWalk.iteOmega]); (try go_ints); (try simp (disch := omega) only [dif_pos]); (try go_simp); refine hK _ ?_; clear hK K)
      still_call (chipI_any _ _)
      iterate 6 (refine wpStill_step (fun K hK => ?_); (try go_simp); (try simp only [IntWalk.iteOmega]); (try go_ints); (try simp (disch := omega) only [dif_pos]); (try go_simp); refine hK _ ?_; clear hK K)
      still_call (chipI_any _ _)
      repeat (refine wpStill_step (fun K hK => ?_); (try go_simp); (try simp only [IntWalk.iteOmega]); (try go_ints); (try simp (disch := omega) only [dif_pos]); (try go_simp); refine hK _ ?_; clear hK K)
      refine wpStill_nil ?_
      change wpList _ _ _ _ _ wr.drew
      go_wp2
      go_roundw
      case rel => exact ⟨k + 1, by omega, by go_num, row_next HW.out.drew (by rw [HV.out, HP1.out, HP2.out]; rfl), HB.out.drew.setCell (Nat.le_refl _) _⟩
      case measure => simp [intOf]; omega
    · obtain rfl : k = n := by omega
      have hsl := sl_of_row (lo := w.heap.size) (f := fun j => (sprL d c).getD j 0) hrow (Nat.le_refl _) (by omega)
      have hml : ((List.range k).map fun j => (sprL d c).getD j 0) = sprL d c := by
        apply List.ext_getElem
        · rw [HSL.out]; simp
        · intro i h1 h2
          simp [List.getD_eq_getElem?_getD, List.getElem?_eq_getElem h2]
      rw [hml] at hsl
      have HS := Lib.hid hsl
      clear hsl hml hrow
      go_wp2
      go_ret2
      exact RetLB.mk HS.out hb
/- Part: Contracts of the tests of users (exact). -/

/-- a user: code, data, gain, delay -/
abbrev UI := List UInt8 × List UInt8 × Int × Int
/-- users lie in a block -/
def RI (w : World) (q : Nat) (us : List UI) : Prop := q < w.heap.size ∧ ∀ i, i < us.length → ∃ c d : List UInt8, ∃ a y : Int, us[i]? = some (c, d, a, y) ∧
  w.cell? ⟨q, i * 4, none⟩ = some (.string (str c)) ∧ w.cell? ⟨q, i * 4 + 1, none⟩ = some (.string (str d)) ∧ w.cell? ⟨q, i * 4 + 2, none⟩ = some (.int .i64 a) ∧ w.cell? ⟨q, i * 4 + 3, none⟩ = some (.int .i64 y)
theorem RI.block {w w' : World} {q : Nat} {us : List UI} (h : RI w q us) (hb : w'.heap[q]? = w.heap[q]?) (hs : w.heap.size ≤ w'.heap.size) : RI w' q us := by
  obtain ⟨h0, h⟩ := h
  have c := fun i => (cell_block (w := w) (w' := w') (p := ⟨q, i, none⟩) hb).1
  refine ⟨by omega, fun i hi => ?_⟩
  obtain ⟨x, d, a, y, h1, h2, h3, h4, h5⟩ := h i hi
  exact ⟨x, d, a, y, h1, (c _).trans h2, (c _).trans h3, (c _).trans h4, (c _).trans h5⟩
theorem RI.below {w w' : World} {q : Nat} {us : List UI} (h : RI w q us) (hb : Below w.heap.size w w') : RI w' q us := h.block (hb.block q h.1) hb.size
def uOK (u : UI) : Bool := seqOK u.1 && bitsOK u.2.1 && inB u.2.2.1 0 1000 && inB u.2.2.2 0 1000 && decide ((u.2.1.length : Int) * (u.1.length : Int) + u.2.2.2 ≤ 3000)
def usOK (us : List UI) : Bool := decide (us.length ≤ 8) && us.all uOK
/-- strings that are not too long -/
def UIB (u : UI) : Prop := u.1.length ≤ 100000 ∧ u.2.1.length ≤ 100000
set_option maxHeartbeats 4000000 in
theorem userI_any (c d : List UInt8) (a y : Int) (w : World) (hc : c.length ≤ 100000) (hd : d.length ≤ 100000) :
    Calls Try.prog 71 #[.agg #[.string (str c), .string (str d), .int .i64 a, .int .i64 y]] w fun e w' => e = .returned (.bool (uOK (c, d, a, y))) ∧ Below w.heap.size w w' := by
  have HQ : Hid (∀ u : World, Calls Try.prog 39 #[.string (str c)] u fun e w' => e = .returned (.bool (seqOK c)) ∧ u = w') := Lib.hid fun u => by
    have := seqI_any (str c) u (by rw [str_size]; unfold maxLen; omega)
    rw [str_list] at this; exact this
  have HD : Hid (∀ u : World, Calls Try.prog 43 #[.string (str d)] u fun e w' => e = .returned (.bool (bitsOK d)) ∧ u = w') := Lib.hid fun u => by
    have := isBits_any (str d) u (by rw [str_size]; unfold maxLen; omega)
    rw [str_list] at this; exact this
  have HB := Lib.hid ((Below.refl w.heap.size w).alloc (Nat.le_refl _) (.cells #[.string (str c), .string (str d), .int .i64 a, .int .i64 y] 45))
  cases h1 : seqOK c with
  | false =>
    rw [h1] at HQ
    have e : uOK (c, d, a, y) = false := by unfold uOK; rw [h1]; rfl
    rw [e]
    clear e
    go_enter Try.func71, Try.ntmps71
    go_wp2_with fail
    refine (HQ.out _).mono ?_
    rintro e w' ⟨rfl, rfl⟩
    go_wp2
    go_ret
    exact ⟨rfl, HB.out⟩
  | true =>
    rw [h1] at HQ
    cases h2 : bitsOK d with
    | false =>
      rw [h2] at HD
      have e : uOK (c, d, a, y) = false := by unfold uOK; rw [h1, h2]; rfl
      rw [e]
      clear e
      go_enter Try.func71, Try.ntmps71
      go_wp2_with fail
      refine (HQ.out _).mono ?_
      rintro e w' ⟨rfl, rfl⟩
      go_wp2_with fail
      refine (HD.out _).mono ?_
      rintro e w' ⟨rfl, rfl⟩
      go_wp2
      go_ret
      exact ⟨rfl, HB.out⟩
    | true =>
      rw [h2] at HD
      by_cases a1 : 0 ≤ a
      rotate_left
      · have e : uOK (c, d, a, y) = false := by unfold uOK; rw [h1, h2]; simp only [Bool.true_and]; rw [inB_no (by omega)]; rfl
        rw [e]
        clear e
        go_enter Try.func71, Try.ntmps71
        go_wp2_with fail
        refine (HQ.out _).mono ?_
        rintro e w' ⟨rfl, rfl⟩
        go_wp2_with fail
        refine (HD.out _).mono ?_
        rintro e w' ⟨rfl, rfl⟩
        go_wp2
        go_ret
        exact ⟨rfl, HB.out⟩
      by_cases a2 : a ≤ 1000
      rotate_left
      · have e : uOK (c, d, a, y) = false := by unfold uOK; rw [h1, h2]; simp only [Bool.true_and]; rw [inB_no (by omega)]; rfl
        rw [e]
        clear e
        go_enter Try.func71, Try.ntmps71
        go_wp2_with fail
        refine (HQ.out _).mono ?_
        rintro e w' ⟨rfl, rfl⟩
        go_wp2_with fail
        refine (HD.out _).mono ?_
        rintro e w' ⟨rfl, rfl⟩
        go_wp2
        go_ret
        exact ⟨rfl, HB.out⟩
      by_cases y1 : 0 ≤ y
      rotate_left
      · have e : uOK (c, d, a, y) = false := by unfold uOK; rw [h1, h2]; simp only [Bool.true_and]; rw [inB_yes a1 a2, inB_no (by omega)]; rfl
        rw [e]
        clear e
        go_enter Try.func71, Try.ntmps71
        go_wp2_with fail
        refine (HQ.out _).mono ?_
        rintro e w' ⟨rfl, rfl⟩
        go_wp2_with fail
        refine (HD.out _).mono ?_
        rintro e w' ⟨rfl, rfl⟩
        go_wp2
        go_ret
        exact ⟨rfl, HB.out⟩
      by_cases y2 : y ≤ 1000
      rotate_left
      · have e : uOK (c, d, a, y) = false := by unfold uOK; rw [h1, h2]; simp only [Bool.true_and]; rw [inB_yes a1 a2, inB_no (by omega)]; rfl
        rw [e]
        clear e
        go_enter Try.func71, Try.ntmps71
        go_wp2_with fail
        refine (HQ.out _).mono ?_
        rintro e w' ⟨rfl, rfl⟩
        go_wp2_with fail
        refine (HD.out _).mono ?_
        rintro e w' ⟨rfl, rfl⟩
        go_wp2
        go_ret
        exact ⟨rfl, HB.out⟩
      obtain ⟨q, hq⟩ : ∃ q, q = d.length * c.length := ⟨_, rfl⟩
      have hc2 : c.length ≤ 255 := by unfold seqOK at h1; simp only [Bool.and_eq_true, decide_eq_true_eq] at h1; exact h1.2
      have hqb : q ≤ 600 * 255 := by rw [hq]; exact Nat.mul_le_mul (bits_le h2) hc2
      have eq1 : (d.length : Int) * (c.length : Int) = (q : Int) := by rw [hq]; simp
      have e : uOK (c, d, a, y) = decide ((q : Int) + y ≤ 3000) := by unfold uOK; rw [h1, h2, ← eq1]; simp only [Bool.true_and]; rw [inB_yes a1 a2, inB_yes y1 y2]; rfl
      rw [e]
      have zc := str_size c
      have zd := str_size d
      clear e hq h1 h2
      go_enter Try.func71, Try.ntmps71
      go_wp2_with fail
      refine (HQ.out _).mono ?_
      rintro e w' ⟨rfl, rfl⟩
      go_wp2_with fail
      refine (HD.out _).mono ?_
      rintro e w' ⟨rfl, rfl⟩
      by_cases hf : (q : Int) + y ≤ 3000
      · go_wp2
        go_ret
        exact ⟨ret_bool (by simp; try omega), HB.out⟩
      · go_wp2
        go_ret
        exact ⟨ret_bool (by simp; try omega), HB.out⟩
set_option maxHeartbeats 4000000 in
theorem userS_any (c d : List UInt8) (a y : Int) (w : World) (hc : c.length ≤ 100000) (hd : d.length ≤ 100000) :
    Calls Try.prog 72 #[.agg #[.string (str c), .string (str d), .int .i64 a, .int .i64 y]] w fun e w' => e = .returned (.bool (uOK (c, d, a, y))) ∧ Below w.heap.size w w' := by
  have HQ : Hid (∀ u : World, Calls Try.prog 65 #[.string (str c)] u fun e w' => e = .returned (.bool (seqOK c)) ∧ u = w') := Lib.hid fun u => by
    have := seqS_any (str c) u (by rw [str_size]; unfold maxLen; omega)
    rw [str_list] at this; exact this
  have HD : Hid (∀ u : World, Calls Try.prog 45 #[.string (str d)] u fun e w' => e = .returned (.bool (bitsOK d)) ∧ u = w') := Lib.hid fun u => by
    have := l1Bits_any (str d) u (by rw [str_size]; unfold maxLen; omega)
    rw [str_list] at this; exact this
  have HA : Hid (∀ u : World, Calls Try.prog 41 #[.int .i64 a, .int .i64 0, .int .i64 1000] u fun e w' => e = .returned (.bool (inB a 0 1000)) ∧ u = w') := Lib.hid fun u => l1In_any _ _ _ u
  have HY : Hid (∀ u : World, Calls Try.prog 41 #[.int .i64 y, .int .i64 0, .int .i64 1000] u fun e w' => e = .returned (.bool (inB y 0 1000)) ∧ u = w') := Lib.hid fun u => l1In_any _ _ _ u
  have HB := Lib.hid ((Below.refl w.heap.size w).alloc (Nat.le_refl _) (.cells #[.string (str c), .string (str d), .int .i64 a, .int .i64 y] 45))
  cases h1 : seqOK c with
  | false =>
    rw [h1] at HQ
    have e : uOK (c, d, a, y) = false := by unfold uOK; rw [h1]; rfl
    rw [e]
    clear e
    go_enter Try.func72, Try.ntmps72
    go_wp2_with fail
    refine (HQ.out _).mono ?_
    rintro e w' ⟨rfl, rfl⟩
    go_wp2
    go_ret
    exact ⟨rfl, HB.out⟩
  | true =>
    rw [h1] at HQ
    cases h2 : bitsOK d with
    | false =>
      rw [h2] at HD
      have e : uOK (c, d, a, y) = false := by unfold uOK; rw [h1, h2]; rfl
      rw [e]
      clear e
      go_enter Try.func72, Try.ntmps72
      go_wp2_with fail
      refine (HQ.out _).mono ?_
      rintro e w' ⟨rfl, rfl⟩
      go_wp2_with fail
      refine (HD.out _).mono ?_
      rintro e w' ⟨rfl, rfl⟩
      go_wp2
      go_ret
      exact ⟨rfl, HB.out⟩
    | true =>
      rw [h2] at HD
      cases h3 : inB a 0 1000 with
      | false =>
        have e : uOK (c, d, a, y) = false := by unfold uOK; rw [h1, h2]; simp only [Bool.true_and]; rw [h3]; rfl
        rw [e]
        rw [h3] at HA
        clear e
        go_enter Try.func72, Try.ntmps72
        go_wp2_with fail
        refine (HQ.out _).mono ?_
        rintro e w' ⟨rfl, rfl⟩
        go_wp2_with fail
        refine (HD.out _).mono ?_
        rintro e w' ⟨rfl, rfl⟩
        go_wp2_with fail
        refine (HA.out _).mono ?_
        rintro e w' ⟨rfl, rfl⟩
        go_wp2
        go_ret
        exact ⟨rfl, HB.out⟩
      | true =>
        rw [h3] at HA
        cases h4 : inB y 0 1000 with
        | false =>
          have e : uOK (c, d, a, y) = false := by unfold uOK; rw [h1, h2]; simp only [Bool.true_and]; rw [h3, h4]; rfl
          rw [e]
          rw [h4] at HY
          clear e
          go_enter Try.func72, Try.ntmps72
          go_wp2_with fail
          refine (HQ.out _).mono ?_
          rintro e w' ⟨rfl, rfl⟩
          go_wp2_with fail
          refine (HD.out _).mono ?_
          rintro e w' ⟨rfl, rfl⟩
          go_wp2_with fail
          refine (HA.out _).mono ?_
          rintro e w' ⟨rfl, rfl⟩
          go_wp2_with fail
          refine (HY.out _).mono ?_
          rintro e w' ⟨rfl, rfl⟩
          go_wp2
          go_ret
          exact ⟨rfl, HB.out⟩
        | true =>
          rw [h4] at HY
          obtain ⟨q, hq⟩ : ∃ q, q = d.length * c.length := ⟨_, rfl⟩
          have hc2 : c.length ≤ 255 := by unfold seqOK at h1; simp only [Bool.and_eq_true, decide_eq_true_eq] at h1; exact h1.2
          have hqb : q ≤ 600 * 255 := by rw [hq]; exact Nat.mul_le_mul (bits_le h2) hc2
          have hy2 : 0 ≤ y ∧ y ≤ 1000 := by unfold inB at h4; simp only [Bool.and_eq_true, decide_eq_true_eq] at h4; exact h4
          have eq1 : (d.length : Int) * (c.length : Int) = (q : Int) := by rw [hq]; simp
          have e : uOK (c, d, a, y) = decide ((q : Int) + y ≤ 3000) := by unfold uOK; rw [h1, h2, ← eq1]; simp only [Bool.true_and]; rw [h3, h4]; rfl
          rw [e]
          have zc := str_size c
          have zd := str_size d
          clear e hq h1 h2 h3 h4
          go_enter Try.func72, Try.ntmps72
          go_wp2_with fail
          refine (HQ.out _).mono ?_
          rintro e w' ⟨rfl, rfl⟩
          go_wp2_with fail
          refine (HD.out _).mono ?_
          rintro e w' ⟨rfl, rfl⟩
          go_wp2_with fail
          refine (HA.out _).mono ?_
          rintro e w' ⟨rfl, rfl⟩
          go_wp2_with fail
          refine (HY.out _).mono ?_
          rintro e w' ⟨rfl, rfl⟩
          by_cases hf : (q : Int) + y ≤ 3000
          · go_wp2
            go_ret
            exact ⟨ret_bool (by simp; try omega), HB.out⟩
          · go_wp2
            go_ret
            exact ⟨ret_bool (by simp; try omega), HB.out⟩
theorem us_no {us : List UI} {k : Nat} {u : UI} (h : us[k]? = some u) (hu : uOK u = false) : usOK us = false := by
  unfold usOK
  rw [show us.all uOK = false from List.all_eq_false.2 ⟨u, List.mem_of_getElem? h, by rw [hu]; decide⟩, Bool.and_false]
theorem us_all {us : List UI} (h : ∀ (k : Nat) (u : UI), us[k]? = some u → uOK u = true) : usOK us = decide (us.length ≤ 8) := by
  unfold usOK
  rw [List.all_eq_true.2 (fun u hu => by obtain ⟨k, hk, he⟩ := List.getElem_of_mem hu; exact h k u (by rw [List.getElem?_eq_getElem hk, he])), Bool.and_true]
set_option maxHeartbeats 4000000 in
theorem usersI_any (q cap : Nat) (us : List UI) (w : World) (hr : RI w q us) (hn : us.length ≤ 100000) (hus : ∀ u ∈ us, UIB u) :
    Calls Try.prog 48 #[.slice (some ⟨q, 0, none⟩) us.length cap] w fun e w' => e = .returned (.bool (usOK us)) ∧ Below w.heap.size w w' := by
  by_cases h8 : us.length ≤ 8
  rotate_left
  · have e : usOK us = false := by unfold usOK; rw [decide_eq_false h8]; rfl
    rw [e]
    clear e hr
    go_enter Try.func48, Try.ntmps48
    go_wp2
    go_ret
    exact ⟨rfl, Below.refl _ _⟩
  have HR := Lib.hid hr
  have HU := Lib.hid hus
  have hql := hr.1
  have HNO : Hid (∀ (k : Nat) (u : UI), us[k]? = some u → uOK u = false → usOK us = false) := Lib.hid fun k u h1 h2 => us_no h1 h2
  have HYES : Hid ((∀ (k : Nat) (u : UI), us[k]? = some u → uOK u = true) → usOK us = true) := Lib.hid fun h => by rw [us_all h, decide_eq_true h8]
  clear hr hus
  go_enter Try.func48, Try.ntmps48
  go_wp2
  go_loopw [4, 10] (fun _ i wr => ∃ k : Nat, k ≤ us.length ∧ i = .int .i64 (k : Int) ∧ (∀ j u, j < k → us[j]? = some u → uOK u = true) ∧ Below w.heap.size w wr) (fun _ i _ => us.length - (intOf i).toNat)
  case atStart => exact ⟨0, Nat.zero_le _, rfl, fun j u hj => by omega, Below.refl _ _⟩
  case round =>
    obtain ⟨k, hk, rfl, hall, hb⟩ := hrel
    have HALL := Lib.hid hall
    have HB := Lib.hid hb
    clear hall
    by_cases hlt : k < us.length
    · obtain ⟨c, d, a, y, hu, h0, h1, h2, h3⟩ := (HR.out.below hb).2 k hlt
      obtain ⟨hB1, hB2⟩ := HU.out _ (List.mem_of_getElem? hu)
      simp only [] at hB1 hB2
      have HE := Lib.hid hu
      have HV : Hid (∀ u : World, Calls Try.prog 71 #[.agg #[.string (str c), .string (str d), .int .i64 a, .int .i64 y]] u fun e w' => e = .returned (.bool (uOK (c, d, a, y))) ∧ Below u.heap.size u w') := Lib.hid fun u => userI_any c d a y u hB1 hB2
      have HB2 := Lib.hid (hb.alloc hb.size (.cells #[.string (str c), .string (str d), .int .i64 a, .int .i64 y] 45))
      clear hu hb
      cases hv : uOK (c, d, a, y) with
      | false =>
        rw [hv] at HV
        have HF := Lib.hid (HNO.out k _ HE.out hv)
        clear hv
        go_wp2_with fail
        refine (HV.out _).mono ?_
        rintro e w2 ⟨rfl, k2⟩
        have hb2 := HB2.out.trans (k2.mono HB2.out.size)
        clear k2
        go_wp2
        go_ret
        exact ⟨by rw [HF.out]; rfl, hb2⟩
      | true =>
        rw [hv] at HV
        have HT := Lib.hid hv
        clear hv
        go_wp2_with fail
        refine (HV.out _).mono ?_
        rintro e w2 ⟨rfl, k2⟩
        have hb2 := HB2.out.trans (k2.mono HB2.out.size)
        clear k2
        go_wp2
        go_roundw
        case rel => exact ⟨k + 1, by omega, by go_num, fun j u hj hu => by
          by_cases hj2 : j = k
          · subst hj2
            rw [HE.out] at hu
            rw [← Option.some.inj hu]; exact HT.out
          · exact HALL.out j u (by omega) hu, hb2⟩
        case measure => simp [intOf]; omega
    · have HF := Lib.hid (HYES.out (fun j u hu => HALL.out j u (by
        by_cases hj : j < us.length
        · omega
        · rw [List.getElem?_eq_none (by omega)] at hu; cases hu) hu))
      clear hb
      go_wp2
      go_ret
      exact ⟨by rw [HF.out]; rfl, HB.out⟩
set_option maxHeartbeats 4000000 in
theorem usersS_any (q cap : Nat) (us : List UI) (w : World) (hr : RI w q us) (hn : us.length ≤ 100000) (hus : ∀ u ∈ us, UIB u) :
    Calls Try.prog 52 #[.slice (some ⟨q, 0, none⟩) us.length cap] w fun e w' => e = .returned (.bool (usOK us)) ∧ Below w.heap.size w w' := by
  have HR := Lib.hid hr
  have HU := Lib.hid hus
  have hql := hr.1
  have HNO : Hid (∀ (k : Nat) (u : UI), us[k]? = some u → uOK u = false → usOK us = false) := Lib.hid fun k u h1 h2 => us_no h1 h2
  have HYES : Hid ((∀ (k : Nat) (u : UI), us[k]? = some u → uOK u = true) → usOK us = decide (us.length ≤ 8)) := Lib.hid fun h => us_all h
  clear hr hus
  go_enter Try.func52, Try.ntmps52
  go_wp2
  go_loopw [3] (fun i wr => ∃ k : Nat, k ≤ us.length ∧ i = .int .i64 (k : Int) ∧ (∀ j u, j < k → us[j]? = some u → uOK u = true) ∧ Below w.heap.size w wr) (fun i _ => us.length - (intOf i).toNat)
  case atStart => exact ⟨0, Nat.zero_le _, rfl, fun j u hj => by omega, Below.refl _ _⟩
  case round =>
    obtain ⟨k, hk, rfl, hall, hb⟩ := hrel
    have HALL := Lib.hid hall
    have HB := Lib.hid hb
    clear hall
    by_cases hlt : k < us.length
    · obtain ⟨c, d, a, y, hu, h0, h1, h2, h3⟩ := (HR.out.below hb).2 k hlt
      obtain ⟨hB1, hB2⟩ := HU.out _ (List.mem_of_getElem? hu)
      simp only [] at hB1 hB2
      have HE := Lib.hid hu
      have HV : Hid (∀ u : World, Calls Try.prog 72 #[.agg #[.string (str c), .string (str d), .int .i64 a, .int .i64 y]] u fun e w' => e = .returned (.bool (uOK (c, d, a, y))) ∧ Below u.heap.size u w') := Lib.hid fun u => userS_any c d a y u hB1 hB2
      clear hu hb
      cases hv : uOK (c, d, a, y) with
      | false =>
        rw [hv] at HV
        have HF := Lib.hid (HNO.out k _ HE.out hv)
        clear hv
        go_wp2_with fail
        refine (HV.out _).mono ?_
        rintro e w2 ⟨rfl, k2⟩
        have hb2 := HB.out.trans (k2.mono HB.out.size)
        clear k2
        go_wp2
        go_ret
        exact ⟨by rw [HF.out]; rfl, hb2⟩
      | true =>
        rw [hv] at HV
        have HT := Lib.hid hv
        clear hv
        go_wp2_with fail
        refine (HV.out _).mono ?_
        rintro e w2 ⟨rfl, k2⟩
        have hb2 := HB.out.trans (k2.mono HB.out.size)
        clear k2
        go_wp2
        go_roundw
        case rel => exact ⟨k + 1, by omega, by go_num, fun j u hj hu => by
          by_cases hj2 : j = k
          · subst hj2
            rw [HE.out] at hu
            rw [← Option.some.inj hu]; exact HT.out
          · exact HALL.out j u (by omega) hu, hb2⟩
        case measure => simp [intOf]; omega
    · have HF := Lib.hid (HYES.out (fun j u hu => HALL.out j u (by
        by_cases hj : j < us.length
        · omega
        · rw [List.getElem?_eq_none (by omega)] at hu; cases hu) hu))
      clear hb
      by_cases h8 : us.length ≤ 8
      · go_wp2
        go_ret
        exact ⟨by rw [HF.out, decide_eq_true h8]; simp; try omega, HB.out⟩
      · go_wp2
        go_ret
        exact ⟨by rw [HF.out, decide_eq_false h8]; simp; try omega, HB.out⟩
/- Part: What users send together, and what is received of it: plain facts. -/

/-- numbers that are not great -/
def bd (B : Int) (z : List Int) : Prop := ∀ j, -B ≤ z.getD j 0 ∧ z.getD j 0 ≤ B
theorem bd_mem {B : Int} {z : List Int} (hB : 0 ≤ B) (h : ∀ x ∈ z, -B ≤ x ∧ x ≤ B) : bd B z := fun j => by
  rw [List.getD_eq_getElem?_getD]
  by_cases hj : j < z.length
  · rw [List.getElem?_eq_getElem hj]; exact h _ (List.getElem_mem hj)
  · rw [List.getElem?_eq_none (by omega)]; simp; omega
theorem bd_of {B : Int} {z : List Int} (h : bd B z) : ∀ x ∈ z, -B ≤ x ∧ x ≤ B := fun x hx => by
  obtain ⟨j, hj, he⟩ := List.getElem_of_mem hx
  have := h j
  rw [List.getD_eq_getElem?_getD, List.getElem?_eq_getElem hj] at this
  rw [← he]; exact this
theorem bd_sig {B : Int} {z : List Int} (h : bd B z) (hB : B ≤ 1000000) (hl : z.length ≤ 3000) : sigOK z = true := by
  unfold sigOK
  simp only [Bool.and_eq_true, decide_eq_true_eq, List.all_eq_true]
  refine ⟨hl, fun x hx => ?_⟩
  have := bd_of h x hx
  unfold inSam inB
  simp only [Bool.and_eq_true, decide_eq_true_eq]
  omega
theorem spr_bd (d c : List UInt8) : bd 1 (sprL d c) := bd_mem (by omega) fun x hx => by
  unfold sprL at hx
  rw [List.mem_flatMap] at hx
  obtain ⟨b, _, hx⟩ := hx
  have : ∃ q, x = chip q := by
    split at hx
    · rw [List.mem_map] at hx; obtain ⟨q, _, rfl⟩ := hx; exact ⟨q, rfl⟩
    · rw [List.mem_map] at hx; obtain ⟨q, _, rfl⟩ := hx; exact ⟨q, rfl⟩
  obtain ⟨q, rfl⟩ := this
  rcases chip_two q with h | h <;> rw [h] <;> decide
theorem mul_bd {z : List Int} {g : Int} (h : bd 1 z) (h0 : 0 ≤ g) : bd g (mulL z g) := fun j => by
  rw [mul_getD]
  have := h j
  generalize z.getD j 0 = x at *
  rcases (show x = -1 ∨ x = 0 ∨ x = 1 by omega) with rfl | rfl | rfl <;> omega
theorem scale_mul {z : List Int} {g : Int} (h : bd 1 z) (h0 : 0 ≤ g) (h1 : g ≤ 1000000) : scaleW z g = mulL z g := by
  unfold scaleW
  apply List.ext_getElem
  · simp [mulL]
  · intro i h2 h3
    have h4 := (mul_bd h h0) i
    have h5 := mul_getD z g i
    rw [List.getElem_map, List.getElem_range]
    rw [List.getD_eq_getElem?_getD, List.getElem?_eq_getElem h3] at h4 h5
    simp only [Option.getD_some] at h4 h5
    rw [Int.mul_comm g] at h5
    rw [h5] at h4 ⊢
    generalize z.getD i 0 * g = q at *
    unfold wrap64
    omega
theorem zer_bd {B : Int} {z : List Int} (k : Nat) (hB : 0 ≤ B) (h : bd B z) : bd B (zerosL k ++ z) := bd_mem hB fun x hx => by
  rw [List.mem_append] at hx
  rcases hx with hx | hx
  · unfold zerosL at hx
    rw [List.mem_replicate] at hx
    rw [hx.2]; omega
  · exact bd_of h x hx
theorem add_bd {A B : Int} {a b : List Int} (ha : bd A a) (hb : bd B b) : bd (A + B) (adL a b) := fun j => by
  rw [adL_getD]
  have := ha j
  have := hb j
  omega
theorem add_ad {A B : Int} {a b : List Int} (ha : bd A a) (hb : bd B b) (hAB : A + B ≤ 1000000000) : addL5 a b = adL a b := by
  unfold addL5 adL
  apply List.map_congr_left
  intro j _
  have h1 := ha j
  have h2 := hb j
  split
  · generalize a.getD j 0 = x at *
    generalize b.getD j 0 = y at *
    unfold wrap64
    omega
  · rename_i h
    have : b.getD j 0 = 0 := by rw [List.getD_eq_getElem?_getD, List.getElem?_eq_none (by omega)]; rfl
    rw [this, Int.add_zero]
/-- the user of a valid one in natural numbers -/
def natU (u : UI) : Usr := (u.1, u.2.1, u.2.2.1.toNat, u.2.2.2.toNat)
theorem uOK_parts {u : UI} (h : uOK u = true) : seqOK u.1 = true ∧ bitsOK u.2.1 = true ∧ (0 ≤ u.2.2.1 ∧ u.2.2.1 ≤ 1000) ∧ (0 ≤ u.2.2.2 ∧ u.2.2.2 ≤ 1000) ∧ u.2.2.2.toNat + u.2.1.length * u.1.length ≤ 3000 := by
  unfold uOK inB at h
  simp only [Bool.and_eq_true, decide_eq_true_eq] at h
  obtain ⟨⟨⟨⟨h1, h2⟩, h3⟩, h4⟩, h5⟩ := h
  refine ⟨h1, h2, h3, h4, ?_⟩
  have e : (u.2.1.length : Int) * (u.1.length : Int) = ((u.2.1.length * u.1.length : Nat) : Int) := by simp
  rw [e] at h5
  omega
theorem uOK_B {u : UI} (h : uOK u = true) : UsrB (natU u) := by
  obtain ⟨h1, h2, h3, h4, h5⟩ := uOK_parts h
  have hl := bits_le h2
  have hs : u.1.length ≤ 255 := by unfold seqOK at h1; simp only [Bool.and_eq_true, decide_eq_true_eq] at h1; exact h1.2
  exact ⟨bits_mem4 (seq_bits h1), bits_mem4 h2, by show u.1.length ≤ 1000; omega, by show u.2.1.length ≤ 1000; omega, h5⟩
theorem usrL_eq {u : UI} (h : uOK u = true) : usrL (natU u) = zerosL u.2.2.2.toNat ++ mulL (sprL u.2.1 u.1) u.2.2.1 ∧ bd 1000 (mulL (sprL u.2.1 u.1) u.2.2.1) ∧ bd 1000 (usrL (natU u)) := by
  obtain ⟨h1, h2, h3, h4, h5⟩ := uOK_parts h
  have hb := mul_bd (spr_bd u.2.1 u.1) h3.1
  have hb2 : bd 1000 (mulL (sprL u.2.1 u.1) u.2.2.1) := fun j => by have := hb j; omega
  have e : usrL (natU u) = zerosL u.2.2.2.toNat ++ mulL (sprL u.2.1 u.1) u.2.2.1 := by
    show zerosL u.2.2.2.toNat ++ scaleW (sprL u.2.1 u.1) (u.2.2.1.toNat : Int) = _
    rw [show (u.2.2.1.toNat : Int) = u.2.2.1 by omega, scale_mul (spr_bd _ _) h3.1 (by omega)]
  exact ⟨e, hb2, by rw [e]; exact zer_bd _ (by omega) hb2⟩
/-- the sum of the signals of the first k users is not great, and is that of the program -/
theorem snd_bd {us : List UI} (h : ∀ u ∈ us, uOK u = true) (h8 : us.length ≤ 8) : ∀ k : Nat, k ≤ us.length → bd (1000 * (k : Int)) (sndL ((us.map natU).take k))
  | 0, _ => fun j => by simp [sndL]
  | k + 1, hk => by
    have ih := snd_bd h h8 k (by omega)
    have hu : (us.map natU)[k]? = some (natU (us[k]'(by omega))) := by rw [List.getElem?_map, List.getElem?_eq_getElem (by omega)]; rfl
    obtain ⟨_, _, h3⟩ := usrL_eq (h _ (List.getElem_mem (show k < us.length by omega)))
    rw [sndL_take hu, add_ad ih h3 (by omega)]
    have := add_bd ih h3
    rw [show 1000 * ((k + 1 : Nat) : Int) = 1000 * (k : Int) + 1000 by omega]
    exact this
theorem snd_next {us : List UI} (h : ∀ u ∈ us, uOK u = true) (h8 : us.length ≤ 8) {k : Nat} {u : UI} (hu : us[k]? = some u) :
    sndL ((us.map natU).take (k + 1)) = adL (sndL ((us.map natU).take k)) (usrL (natU u)) ∧ asOK (sndL ((us.map natU).take k)) (usrL (natU u)) = true := by
  have hk : k < us.length := by
    by_cases hk : k < us.length
    · exact hk
    · rw [List.getElem?_eq_none (by omega)] at hu; cases hu
  have hu2 : (us.map natU)[k]? = some (natU u) := by rw [List.getElem?_map, hu]; rfl
  have ih := snd_bd h h8 k (by omega)
  have huo := h u (List.mem_of_getElem? hu)
  obtain ⟨h1, _, h3⟩ := usrL_eq huo
  have hB : ∀ v ∈ us.map natU, UsrB v := fun v hv => by
    rw [List.mem_map] at hv
    obtain ⟨x, hx, rfl⟩ := hv
    exact uOK_B (h x hx)
  have hl1 : (sndL ((us.map natU).take k)).length ≤ 3000 := sndL_len _ (fun v hv => hB v (List.mem_of_mem_take hv)) [] (by simp)
  have hl2 : (usrL (natU u)).length ≤ 3000 := by rw [usrL_len]; exact (uOK_B huo).2.2.2.2
  have e := add_ad ih h3 (by omega)
  refine ⟨by rw [sndL_take hu2, e], ?_⟩
  unfold asOK
  rw [bd_sig ih (by omega) hl1, bd_sig h3 (by omega) hl2, bd_sig (add_bd ih h3) (by omega) (by rw [adL_len]; omega)]
  rfl
/-- what SendAll returns -/
def saL (us : List UI) : List Int := if usOK us then sndL (us.map natU) else []
theorem sa_yes {us : List UI} (h : usOK us = true) : saL us = sndL (us.map natU) := if_pos h
theorem sa_no {us : List UI} (h : usOK us = false) : saL us = [] := if_neg (by simp [h])
theorem usOK_parts {us : List UI} (h : usOK us = true) : us.length ≤ 8 ∧ ∀ u ∈ us, uOK u = true := by
  unfold usOK at h
  simp only [Bool.and_eq_true, decide_eq_true_eq, List.all_eq_true] at h
  exact h
theorem RI.toRU {w : World} {q : Nat} {us : List UI} (h : RI w q us) (hus : ∀ u ∈ us, uOK u = true) : RU w q (us.map natU) := by
  refine ⟨h.1, fun i hi => ?_⟩
  obtain ⟨c, d, a, y, h1, h2, h3, h4, h5⟩ := h.2 i (by simpa using hi)
  obtain ⟨_, _, h7, h8, _⟩ := uOK_parts (hus _ (List.mem_of_getElem? h1))
  simp only [] at h7 h8
  refine ⟨c, d, a.toNat, y.toNat, by rw [List.getElem?_map, h1]; rfl, h2, h3, ?_, ?_⟩
  · rw [h4, show (a.toNat : Int) = a by omega]
  · rw [h5, show (y.toNat : Int) = y by omega]
set_option maxHeartbeats 1000000 in
theorem sndS_any (q cap : Nat) (us : List UI) (w : World) (hr : RI w q us) (hn : us.length ≤ 100000) (hus : ∀ u ∈ us, UIB u) :
    Calls Try.prog 22 #[.slice (some ⟨q, 0, none⟩) us.length cap] w (RetLB (saL us) (usOK us) w) := by
  have HV := Lib.hid (usersS_any q cap us w hr hn hus)
  cases h : usOK us with
  | false =>
    rw [sa_no h]
    rw [h] at HV
    clear hr
    go_enter Try.func22, Try.ntmps22
    go_wp2_with fail
    refine HV.out.mono ?_
    rintro e w1 ⟨rfl, hb⟩
    have HO : Hid (Sl (w1.alloc (.cells #[] 3)) w1.heap.size (w1.alloc (.cells #[] 3)).heap.size (.slice (some ⟨w1.heap.size, 0, none⟩) 0 0) []) := sl_empty
    go_wp2
    go_ret2
    exact RetLB.mk (HO.out.mono hb.size (Nat.le_refl _)) (hb.alloc hb.size _)
  | true =>
    rw [sa_yes h]
    rw [h] at HV
    obtain ⟨h8, hall⟩ := usOK_parts h
    have HS : Hid (∀ u : World, Below w.heap.size w u → Calls Try.prog 53 #[.slice (some ⟨q, 0, none⟩) us.length cap] u (RetL (sndL (us.map natU)) u)) := Lib.hid fun u hu => by
      have := sendS_any q cap (us.map natU) u ((hr.below hu).toRU hall) (by simpa using h8) (fun v hv => by
        rw [List.mem_map] at hv
        obtain ⟨x, hx, rfl⟩ := hv
        exact uOK_B (hall x hx))
      rw [List.length_map] at this
      exact this
    clear h hr hall
    go_enter Try.func22, Try.ntmps22
    go_wp2_with fail
    refine HV.out.mono ?_
    rintro e w1 ⟨rfl, hb⟩
    have hS := Lib.hid (HS.out w1 hb)
    go_wp2_with fail
    refine hS.out.mono ?_
    rintro e w2 ⟨v, rfl, hs, hb2⟩
    have HS2 := Lib.hid (hs.mono hb.size (Nat.le_refl _))
    have hb3 := hb.trans (hb2.mono hb.size)
    clear hs hb2
    go_wp2
    go_ret2
    exact RetLB.mk HS2.out hb3
/- Part: Contracts of DelaySignal on valid arguments and of SendAll (exact). -/

theorem zer_at (k : Nat) (z : List Int) (i : Nat) : (zerosL k ++ z).getD i 0 = if i < k then 0 else z.getD (i - k) 0 := by
  rw [List.getD_eq_getElem?_getD]
  by_cases h : i < k
  · rw [List.getElem?_append_left (by rw [zerosL_len]; exact h), if_pos h]
    simp [zerosL, h]
  · rw [List.getElem?_append_right (by rw [zerosL_len]; omega), zerosL_len, if_neg h, List.getD_eq_getElem?_getD]
theorem zer_sig {k : Nat} {z : List Int} (h : sigOK z = true) (hk : k + z.length ≤ 3000) : sigOK (zerosL k ++ z) = true := by
  unfold sigOK at h ⊢
  simp only [Bool.and_eq_true, decide_eq_true_eq, List.all_eq_true] at h ⊢
  refine ⟨by rw [List.length_append, zerosL_len]; exact hk, fun x hx => ?_⟩
  rw [List.mem_append] at hx
  rcases hx with hx | hx
  · unfold zerosL at hx
    rw [List.mem_replicate] at hx
    rw [hx.2]; rfl
  · exact h.2 x hx
theorem splice_off {w2 : World} {g n k : Nat} {c : Array Value} {t : TypeId} {l : List Int} (hc : c.size = n) (hz : ∀ i, i < n → c[i]? = some (.int .i64 0)) (hl : k + l.length = n)
    (h : w2.heap[g]? = some (.cells (splice c.toList k (l.map intV)).toArray t (0, 0))) : w2.rowIs g t n (fun j => intV ((zerosL k ++ l).getD j 0)) := by
  refine ⟨_, h, ?_, fun i hi => ?_⟩
  · simp [splice]; omega
  · rw [List.getElem?_toArray]
    unfold splice
    show _ = some (intV _)
    rw [zer_at]
    by_cases hik : i < k
    · rw [if_pos hik, List.getElem?_append_left (by simp; omega), List.getElem?_take, if_pos hik, Array.getElem?_toList, hz i hi]; rfl
    · have hlt : i - k < l.length := by omega
      have e : i - (List.take k c.toList).length = i - k := by simp; omega
      rw [if_neg hik, List.getElem?_append_right (by simp; omega), e, List.getElem?_append_left (by simp; exact hlt), List.getElem?_map, List.getD_eq_getElem?_getD, List.getElem?_eq_getElem hlt]; rfl
set_option maxHeartbeats 2000000 in
theorem delI_yes (A : Option Addr) (c : Nat) (z : List Int) (k : Nat) (w : World) (hr : Reads w w.heap.size A z) (hz : sigOK z = true) (hk : k + z.length ≤ 3000) :
    Calls Try.prog 51 #[.slice A z.length c, .int .i64 (k : Int)] w (RetLB (zerosL k ++ z) true w) := by
  have hz3 := sig_len hz
  have HV := Lib.hid (sigI_any A c z w hr (by omega))
  rw [hz] at HV
  have hzs := zer_sig hz hk
  obtain ⟨L, hL⟩ : ∃ L, L = z.length := ⟨_, rfl⟩
  have EL := Lib.hid hL.symm
  obtain ⟨n, hn⟩ : ∃ n, n = k + L := ⟨_, rfl⟩
  have eq1 : (k : Int) + (L : Int) = (n : Int) := by omega
  rw [← hL] at HV ⊢
  have HR := Lib.hid hr
  have hmk := fun u => run_make_row' (P := Try.prog) 23 3 (.int .i64 0) 8 Try.underlying23 info_int rfl .i64 .i64 n (by omega) (by omega) u
  obtain ⟨cc, hc, hcs, hcz⟩ := World.rowIs_made w (.int .i64 0) n 3
  have hbW : Below w.heap.size w (w.alloc (.cells (madeCells #[.int .i64 0] n) 3)) := (Below.refl _ _).alloc (Nat.le_refl _) _
  have HBW := Lib.hid hbW
  have HC := Lib.hid hc
  have HZ := Lib.hid hcz
  have HN := Lib.hid hn
  have hkn : k ≤ n := by omega
  have hn3 : n ≤ 3000 := by omega
  have hfin : (zerosL k ++ z).length = n := by rw [List.length_append, zerosL_len]; omega
  have HFL := Lib.hid hfin
  have HZS := Lib.hid hzs
  have e2 : (n : Int) - (k : Int) = (L : Int) := by omega
  clear hbW hc hcz hr hz hL hz3 hfin hzs
  have hk3 : k ≤ 3000 := by omega
  by_cases hL0 : L = 0
  · have hnk : n = k := by omega
    subst hnk
    subst hL0
    clear hn
    obtain ⟨k, rfl⟩ : ∃ k, k = n := ⟨_, rfl⟩
    go_enter Try.func51, Try.ntmps51
    go_wp2_with fail
    refine (HV.out).mono ?_
    rintro e w' ⟨rfl, rfl⟩
    go_wp2_with (refine wpList_copy_splice rfl _ _ _ _ rfl 3 Try.underlying23 rfl _ _ _ _ _ _ rfl rfl w.heap.size k cc.toList 3 (by simpa using HC.out) (z.map intV) (by rw [List.length_map, EL.out]; rfl) (fun hp => by rw [List.length_map, EL.out] at hp; omega) (by rw [List.length_map, EL.out, Array.length_toList, hcs]; omega) (by intro v hv; obtain ⟨y, _, rfl⟩ := List.mem_map.1 hv; rfl) w.heap.size w HBW.out (Nat.le_refl _) ?_; intro w2 hs2 hb2)
    have hrow := splice_off hcs HZ.out (by rw [EL.out]; omega) hs2.out
    have hsl := sl_of_row (lo := w.heap.size) (f := fun j => (zerosL k ++ z).getD j 0) (hrow.congr (fun j hj => by rw [if_pos hj])) (Nat.le_refl _) (by omega)
    have hml : ((List.range k).map fun j => (zerosL k ++ z).getD j 0) = zerosL k ++ z := by
      apply List.ext_getElem
      · rw [HFL.out]; simp
      · intro i h1 h2
        simp [List.getD_eq_getElem?_getD, List.getElem?_eq_getElem h2]
    rw [hml] at hsl
    have HSN := Lib.hid (sNone_any hsl (by rw [HFL.out]; omega))
    rw [HZS.out, okN_yes HZS.out] at HSN
    have HB2 := Lib.hid hb2
    clear hs2 hrow hsl hml hb2
    go_wp2_with fail
    refine HSN.out.mono ?_
    rintro e w3 ⟨v3, rfl, hs3, rfl⟩
    have HS3 := Lib.hid hs3
    clear hs3
    go_wp2
    go_ret2
    exact RetLB.mk HS3.out HB2.out
  · have hnk : ¬ n = k := by omega
    have e3 : n - k = L := by omega
    clear hn
    go_enter Try.func51, Try.ntmps51
    go_wp2_with fail
    refine (HV.out).mono ?_
    rintro e w' ⟨rfl, rfl⟩
    go_wp2_with (refine wpList_copy_splice rfl _ _ _ _ rfl 3 Try.underlying23 rfl _ _ _ _ _ _ rfl rfl w.heap.size k cc.toList 3 (by simpa using HC.out) (z.map intV) (by rw [List.length_map, EL.out]; exact (Nat.min_self L).symm) (fun hp => ⟨by simp [Addr.add, hnk], by have hp2 : 0 < z.length := by { rw [EL.out]; omega }; obtain ⟨ad, h1, h2, h3⟩ := HR.out hp2; refine ⟨ad, h1, fun j v hv => ?_⟩; rw [List.getElem?_map] at hv; obtain ⟨y, hy, rfl⟩ := Option.map_eq_some_iff.1 hv; have hj : j < z.length := by { by_cases hj : j < z.length; exact hj; rw [List.getElem?_eq_none (by omega)] at hy; cases hy }; rw [HBW.out.cell (by rw [add_block]; exact h2), h3 j hj, List.getD_eq_getElem?_getD, hy]; rfl⟩) (by rw [List.length_map, EL.out, Array.length_toList, hcs]; omega) (by intro v hv; obtain ⟨y, _, rfl⟩ := List.mem_map.1 hv; rfl) w.heap.size w HBW.out (Nat.le_refl _) ?_; intro w2 hs2 hb2)
    have hrow := splice_off hcs HZ.out (by rw [EL.out]; omega) hs2.out
    have hsl := sl_of_row (lo := w.heap.size) (f := fun j => (zerosL k ++ z).getD j 0) (hrow.congr (fun j hj => by rw [if_pos hj])) (Nat.le_refl _) (by omega)
    have hml : ((List.range n).map fun j => (zerosL k ++ z).getD j 0) = zerosL k ++ z := by
      apply List.ext_getElem
      · rw [HFL.out]; simp
      · intro i h1 h2
        simp [List.getD_eq_getElem?_getD, List.getElem?_eq_getElem h2]
    rw [hml] at hsl
    have HSN := Lib.hid (sNone_any hsl (by rw [HFL.out]; omega))
    rw [HZS.out, okN_yes HZS.out] at HSN
    have HB2 := Lib.hid hb2
    clear hs2 hrow hsl hml hb2
    go_wp2_with fail
    refine HSN.out.mono ?_
    rintro e w3 ⟨v3, rfl, hs3, rfl⟩
    have HS3 := Lib.hid hs3
    clear hs3
    go_wp2
    go_ret2
    exact RetLB.mk HS3.out HB2.out
set_option maxHeartbeats 8000000 in
theorem sndI_any (q cap : Nat) (us : List UI) (w : World) (hr : RI w q us) (hn : us.length ≤ 100000) (hus : ∀ u ∈ us, UIB u) :
    Calls Try.prog 21 #[.slice (some ⟨q, 0, none⟩) us.length cap] w (RetLB (saL us) (usOK us) w) := by
  have HV := Lib.hid (usersI_any q cap us w hr hn hus)
  cases h : usOK us with
  | false =>
    rw [sa_no h]
    rw [h] at HV
    clear hr
    go_enter Try.func21, Try.ntmps21
    go_wp2_with fail
    refine HV.out.mono ?_
    rintro e w1 ⟨rfl, hb⟩
    go_wp2
    go_ret2
    exact RetLB.mk (Sl.nil _ _ _) hb
  | true =>
    rw [sa_yes h]
    rw [h] at HV
    obtain ⟨h8, hall⟩ := usOK_parts h
    have HR := Lib.hid hr
    have HALL := Lib.hid hall
    have HFIN : Hid (sndL ((us.map natU).take us.length) = sndL (us.map natU)) := Lib.hid (by rw [← List.length_map (f := natU), List.take_length])
    have HNX : Hid (∀ (k : Nat) (u : UI), us[k]? = some u → sndL ((us.map natU).take (k + 1)) = adL (sndL ((us.map natU).take k)) (usrL (natU u)) ∧ asOK (sndL ((us.map natU).take k)) (usrL (natU u)) = true) := Lib.hid fun k u hu => snd_next hall h8 hu
    obtain ⟨S, hS⟩ : ∃ S : Nat → List Int, S = fun k => sndL ((us.map natU).take k) := ⟨_, rfl⟩
    have HS0 : Hid (S 0 = []) := by rw [hS]; exact Lib.hid rfl
    have HSN : Hid (S us.length = sndL (us.map natU)) := by rw [hS]; exact HFIN
    have HNX2 : Hid (∀ (k : Nat) (u : UI), us[k]? = some u → S (k + 1) = adL (S k) (usrL (natU u)) ∧ asOK (S k) (usrL (natU u)) = true) := by rw [hS]; exact HNX
    clear h hr hall HFIN HNX hS
    go_enter Try.func21, Try.ntmps21
    go_wp2_with fail
    refine HV.out.mono ?_
    rintro e w1 ⟨rfl, hb1⟩
    have HB1 := Lib.hid hb1
    have hs1 := hb1.size
    have HO : Hid (Sl (w1.alloc (.cells #[] 3)) w.heap.size (w1.alloc (.cells #[] 3)).heap.size (.slice (some ⟨w1.heap.size, 0, none⟩) 0 0) []) := Lib.hid (sl_empty.mono hs1 (Nat.le_refl _))
    clear hb1
    go_wp2
    go_loopw [4, 6, 7, 8, 9, 10, 11, 12, 19] (fun v _ _ _ _ _ _ _ i wr => ∃ k : Nat, k ≤ us.length ∧ i = .int .i64 (k : Int) ∧ Sl wr w.heap.size wr.heap.size v (S k) ∧ Below w.heap.size w wr) (fun _ _ _ _ _ _ _ _ i _ => us.length - (intOf i).toNat)
    case atStart => exact ⟨0, Nat.zero_le _, rfl, by rw [HS0.out]; exact HO.out, HB1.out.alloc hs1 _⟩
    case round =>
      clear HO HS0 HB1 hs1
      obtain ⟨k, hk, rfl, hsl, hb⟩ := hrel
      by_cases hlt : k < us.length
      · obtain ⟨c, d, a, y, hu, h0, h1, h2, h3⟩ := (HR.out.below hb).2 k hlt
        have huo := HALL.out _ (List.mem_of_getElem? hu)
        obtain ⟨hN1, hN2⟩ := HNX2.out k _ hu
        obtain ⟨p1, p2, ⟨p3, p4⟩, ⟨p5, p6⟩, p7⟩ := uOK_parts huo
        obtain ⟨e1, e2, e3⟩ := usrL_eq huo
        have e4 : UsrB (natU (c, d, a, y)) := uOK_B huo
        simp only [] at p1 p2 p3 p4 p5 p6 p7 e1 e2
        obtain ⟨Y, rfl⟩ : ∃ Y : Nat, y = (Y : Int) := ⟨y.toNat, by omega⟩
        rw [Int.toNat_natCast] at p7 e1
        have hspl := sprL_len d c
        have hsp : sigOK (sprL d c) = true := bd_sig (spr_bd d c) (by omega) (by rw [hspl]; omega)
        have hml : (mulL (sprL d c) a).length = (sprL d c).length := by simp [mulL]
        have hms : sigOK (mulL (sprL d c) a) = true := bd_sig e2 (by omega) (by rw [hml, hspl]; omega)
        have hsc : scOK (sprL d c) a = true := by unfold scOK; rw [hsp, hms, inB_yes (by omega) (by omega)]; rfl
        have HA : Hid (∀ u : World, Calls Try.prog 49 #[.string (str d), .string (str c)] u (RetLB (sprL d c) true u)) := Lib.hid fun u => sprI_yes d c u p2 p1 (by omega)
        have HBB : Hid (∀ (A' : Option Addr) (c' : Nat) (u : World), Reads u u.heap.size A' (sprL d c) → Calls Try.prog 50 #[.slice A' (sprL d c).length c', .int .i64 a] u (RetLB (mulL (sprL d c) a) true u)) := Lib.hid fun A' c' u hr => by
          have := scaleI_any A' c' (sprL d c) a u hr (by rw [hspl]; omega)
          rw [hsc, scL_yes hsc] at this
          exact this
        have HC : Hid (∀ (A' : Option Addr) (c' : Nat) (u : World), Reads u u.heap.size A' (mulL (sprL d c) a) → Calls Try.prog 51 #[.slice A' (mulL (sprL d c) a).length c', .int .i64 (Y : Int)] u (RetLB (usrL (natU (c, d, a, (Y : Int)))) true u)) := Lib.hid fun A' c' u hr => by
          rw [e1]
          exact delI_yes A' c' (mulL (sprL d c) a) Y u hr hms (by rw [hml, hspl]; omega)
        have hSl : (S k).length ≤ 3000 := by
          unfold asOK at hN2
          simp only [Bool.and_eq_true] at hN2
          exact sig_len hN2.1.1
        have hul : (usrL (natU (c, d, a, (Y : Int)))).length ≤ 3000 := by
          unfold asOK at hN2
          simp only [Bool.and_eq_true] at hN2
          exact sig_len hN2.1.2
        have HD : Hid (∀ (A' B' : Option Addr) (c' d' : Nat) (u : World), Reads u u.heap.size A' (S k) → Reads u u.heap.size B' (usrL (natU (c, d, a, (Y : Int)))) → Calls Try.prog 28 #[.slice A' (S k).length c', .slice B' (usrL (natU (c, d, a, (Y : Int)))).length d'] u (RetLB (S (k + 1)) true u)) := Lib.hid fun A' B' c' d' u hr hr2 => by
          have := addI_any A' B' c' d' (S k) (usrL (natU (c, d, a, (Y : Int)))) u hr hr2 (by omega) (by omega)
          rw [hN2, asL_yes hN2, ← hN1] at this
          exact this
        obtain ⟨Z1, hZ1⟩ : ∃ Z1, Z1 = sprL d c := ⟨_, rfl⟩
        rw [← hZ1] at HA HBB HC
        obtain ⟨Z2, hZ2⟩ : ∃ Z2, Z2 = mulL Z1 a := ⟨_, rfl⟩
        rw [← hZ2] at HBB HC
        obtain ⟨Z3, hZ3⟩ : ∃ Z3, Z3 = usrL (natU (c, d, a, (Y : Int))) := ⟨_, rfl⟩
        rw [← hZ3] at HC HD
        obtain ⟨Z0, hZ0⟩ : ∃ Z0, Z0 = S k := ⟨_, rfl⟩
        rw [← hZ0] at hsl HD
        obtain ⟨Z4, hZ4⟩ : ∃ Z4, Z4 = S (k + 1) := ⟨_, rfl⟩
        rw [← hZ4] at HD
        have HZ4 := Lib.hid hZ4
        have HSL := Lib.hid hsl
        obtain ⟨A0, c0, rfl, _, _⟩ := hsl.reads
        obtain ⟨V, hV⟩ : ∃ V, V = wr.alloc (.cells #[.string (str c), .string (str d), .int .i64 a, .int .i64 (Y : Int)] 45) := ⟨_, rfl⟩
        have hbV : Below wr.heap.size wr V := by rw [hV]; exact (Below.refl _ _).alloc (Nat.le_refl _) _
        have hVs : wr.heap.size < V.heap.size := by rw [hV]; simp
        have HX : Hid (∀ u, Below V.heap.size V u → u.cell? ⟨wr.heap.size, 0, none⟩ = some (.string (str c)) ∧ u.cell? ⟨wr.heap.size, 1, none⟩ = some (.string (str d)) ∧ u.cell? ⟨wr.heap.size, 2, none⟩ = some (.int .i64 a) ∧ u.cell? ⟨wr.heap.size, 3, none⟩ = some (.int .i64 (Y : Int))) := Lib.hid fun u hu => by
          have hh : ∀ i, u.cell? ⟨wr.heap.size, i, none⟩ = V.cell? ⟨wr.heap.size, i, none⟩ := fun i => hu.cell hVs
          rw [hh, hh, hh, hh, hV]
          exact ⟨by simp, by simp, by simp, by simp⟩
        have HBV := Lib.hid (hb.trans (hbV.mono hb.size))
        have hwV : w.heap.size ≤ V.heap.size := Nat.le_trans hb.size hbV.size
        have HSV := Lib.hid ((HSL.out.below hbV (Nat.le_refl _)).mono (Nat.le_refl _) hbV.size)
        obtain ⟨q0, q1, q2, q3⟩ := HX.out V (Below.refl _ _)
        clear hsl hu huo hN1 hN2 p1 p2 p3 p4 p5 p6 p7 e1 e2 e3 e4 hspl hsp hml hms hsc hSl hul hZ1 hZ2 hZ3 hZ0 hZ4 hbV HSL hb
        go_wp2_with fail
        rw [← hV]
        clear hV h0 h1 h2 h3
        refine (HA.out V).mono ?_
        rintro e u1 ⟨v1, rfl, hs1, k1⟩
        obtain ⟨A1, c1, rfl, hr1, _⟩ := hs1.reads
        have HB1 := Lib.hid k1
        have hC1 := Lib.hid (HBB.out A1 c1 u1 hr1)
        clear q0 q1 q2 q3 hs1 hr1 k1
        obtain ⟨q0, q1, q2, q3⟩ := HX.out u1 HB1.out
        go_wp2_with fail
        refine hC1.out.mono ?_
        rintro e u2 ⟨v2, rfl, hs2, k2⟩
        obtain ⟨A2, c2, rfl, hr2, _⟩ := hs2.reads
        have hb2 := HB1.out.trans (k2.mono HB1.out.size)
        have hC2 := Lib.hid (HC.out A2 c2 u2 hr2)
        have HB2 := Lib.hid hb2
        clear q0 q1 q2 q3 hs2 hr2 k2 hC1 hb2
        obtain ⟨q0, q1, q2, q3⟩ := HX.out u2 HB2.out
        go_wp2_with fail
        refine hC2.out.mono ?_
        rintro e u3 ⟨v3, rfl, hs3, k3⟩
        obtain ⟨A3, c3, rfl, hr3, _⟩ := hs3.reads
        have hb3 := HB2.out.trans (k3.mono HB2.out.size)
        obtain ⟨A0', c0', he0, hr0, _⟩ := (HSV.out.below hb3 (Nat.le_refl _)).reads
        simp only [Value.slice.injEq] at he0
        obtain ⟨rfl, _, rfl⟩ := he0
        have hC3 := Lib.hid (HD.out A0 A3 c0 c3 u3 (hr0.more hb3.size) hr3)
        have HB3 := Lib.hid hb3
        clear q0 q1 q2 q3 hs3 hr3 hr0 k3 hC2 hb3
        go_wp2_with fail
        refine hC3.out.mono ?_
        rintro e u4 ⟨v4, rfl, hs4, k4⟩
        have hb4 := HB3.out.trans (k4.mono HB3.out.size)
        have HS4 := Lib.hid (hs4.mono (Nat.le_trans hwV HB3.out.size) (Nat.le_refl _))
        have HBF := Lib.hid (HBV.out.trans (hb4.mono hwV))
        clear hs4 k4 hC3 hb4
        go_wp2
        go_roundw
        case rel => exact ⟨k + 1, by omega, by go_num, by rw [← HZ4.out]; exact HS4.out, HBF.out⟩
        case measure => simp [intOf]; omega
      · obtain rfl : k = us.length := by omega
        have HSL := Lib.hid hsl
        obtain ⟨A0, c0, rfl, _, _⟩ := hsl.reads
        clear hsl
        go_wp2
        go_ret2
        exact RetLB.mk (by rw [← HSN.out]; exact HSL.out) hb
/- Part: Users with the codes of four paths of the tree are received with the full margin: plain facts. -/

theorem dotT_nil (l : List UInt8) (fr : Nat) : ∀ k, dotT [] l fr k = 0
  | 0 => rfl
  | k + 1 => by rw [dotT, dotT_nil l fr k]; simp
/-- the sum of the correlations of the first users -/
def dsum (us : List UI) (l : List UInt8) (fr : Nat) : Nat → Int
  | 0 => 0
  | k + 1 => dsum us l fr k + (match us[k]? with | some u => dot (usrL (natU u)) l fr | none => 0)
theorem dot_snd {us : List UI} (h : ∀ u ∈ us, uOK u = true) (h8 : us.length ≤ 8) (l : List UInt8) (fr : Nat) : ∀ k, k ≤ us.length → dot (sndL ((us.map natU).take k)) l fr = dsum us l fr k
  | 0, _ => dotT_nil l fr _
  | k + 1, hk => by
    have hu : us[k]? = some (us[k]'(by omega)) := List.getElem?_eq_getElem (by omega)
    rw [(snd_next h h8 hu).1, dot_ad, dot_snd h h8 l fr k (by omega), dsum, hu]
theorem dsum_one {us : List UI} {l : List UInt8} {fr k : Nat} {u : UI} (hu : us[k]? = some u) (h : ∀ i v, us[i]? = some v → i ≠ k → dot (usrL (natU v)) l fr = 0) :
    ∀ n, dsum us l fr n = if k < n then dot (usrL (natU u)) l fr else 0
  | 0 => rfl
  | n + 1 => by
    rw [dsum, dsum_one hu h n]
    by_cases hk : k = n
    · subst hk
      rw [if_neg (Nat.lt_irrefl k), if_pos (Nat.lt_succ_self k), hu]
      simp
    · cases hn : us[n]? with
      | none => by_cases h1 : k < n
                · rw [if_pos h1, if_pos (by omega)]; simp
                · rw [if_neg h1, if_neg (by omega)]; simp
      | some v =>
        have := h n v hn (by omega)
        simp only [this]
        by_cases h1 : k < n
        · rw [if_pos h1, if_pos (by omega)]; simp
        · rw [if_neg h1, if_neg (by omega)]; simp
/-- the codes of the four paths -/
def C4 (i : Nat) : List UInt8 := if i = 0 then [48, 48, 48, 48] else if i = 1 then [48, 48, 49, 49] else if i = 2 then [48, 49, 48, 49, 48, 49, 48, 49] else [48, 49, 49, 48]
theorem four {i : Nat} (h : i < 4) : i = 0 ∨ i = 1 ∨ i = 2 ∨ i = 3 := by omega
theorem C4_bits {i : Nat} (h : i < 4) : ∀ x ∈ C4 i, bit x := by
  have : (C4 i).all bit1 = true := by rcases four h with rfl | rfl | rfl | rfl <;> rfl
  intro x hx
  rw [List.all_eq_true] at this
  have := this x hx
  simpa [bit1, bit] using this
theorem C4_len {i : Nat} (h : i < 4) : (i ≠ 2 ∧ (C4 i).length = 4) ∨ (i = 2 ∧ (C4 i).length = 8) := by
  rcases four h with rfl | rfl | rfl | rfl
  · exact .inl ⟨by decide, rfl⟩
  · exact .inl ⟨by decide, rfl⟩
  · exact .inr ⟨rfl, rfl⟩
  · exact .inl ⟨by decide, rfl⟩
theorem C4_seq {i : Nat} (h : i < 4) : seqOK (C4 i) = true := by rcases four h with rfl | rfl | rfl | rfl <;> rfl
/-- blocks of four samples are multiples of the code's first four chips -/
theorem blk {i : Nat} (hi : i < 4) {d : List UInt8} (hd : ∀ x ∈ d, bit x) (g : Int) :
    ∃ E : Nat → Int, (∀ q r, r < 4 → (mulL (sprL d (C4 i)) g).getD (4 * q + r) 0 = E q * chip ((C4 i).getD r 0)) ∧
      (∀ j, j < d.length → (i ≠ 2 → E j = g * chip (d.getD j 0)) ∧ (i = 2 → E (2 * j) = g * chip (d.getD j 0) ∧ E (2 * j + 1) = g * chip (d.getD j 0))) := by
  have hcb := C4_bits hi
  rcases C4_len hi with ⟨h2, hl⟩ | ⟨h2, hl⟩
  · refine ⟨fun q => if q < d.length then g * chip (d.getD q 0) else 0, fun q r hr => ?_, fun j hj => ⟨fun _ => if_pos hj, fun h => absurd h h2⟩⟩
    by_cases hq : q < d.length
    · have := sprL_at (C4 i) hcb d hd q r hq (by omega)
      rw [hl, Nat.mul_comm q 4] at this
      show _ = (if q < d.length then g * chip (d.getD q 0) else 0) * _
      rw [mul_getD, this, if_pos hq, Int.mul_assoc]
    · show _ = (if q < d.length then g * chip (d.getD q 0) else 0) * _
      rw [if_neg hq, List.getD_eq_getElem?_getD, List.getElem?_eq_none (by simp only [mulL, List.length_map, sprL_len, hl]; omega)]
      simp
  · subst h2
    have hp : ∀ r, r < 4 → (C4 2).getD (4 + r) 0 = (C4 2).getD r 0 := by
      intro r hr
      rcases four hr with rfl | rfl | rfl | rfl <;> rfl
    refine ⟨fun q => if q / 2 < d.length then g * chip (d.getD (q / 2) 0) else 0, fun q r hr => ?_, fun j hj => ⟨fun h => absurd rfl h, fun _ => ⟨?_, ?_⟩⟩⟩
    · show _ = (if q / 2 < d.length then g * chip (d.getD (q / 2) 0) else 0) * _
      by_cases hq : q / 2 < d.length
      · rcases Nat.mod_two_eq_zero_or_one q with h0 | h0
        · have := sprL_at (C4 2) hcb d hd (q / 2) r hq (by omega)
          rw [hl, show q / 2 * 8 + r = 4 * q + r by omega] at this
          rw [mul_getD, this, if_pos hq, Int.mul_assoc]
        · have := sprL_at (C4 2) hcb d hd (q / 2) (4 + r) hq (by omega)
          rw [hl, show q / 2 * 8 + (4 + r) = 4 * q + r by omega, hp r hr] at this
          rw [mul_getD, this, if_pos hq, Int.mul_assoc]
      · rw [if_neg hq, List.getD_eq_getElem?_getD, List.getElem?_eq_none (by simp only [mulL, List.length_map, sprL_len, hl]; omega)]
        simp
    · show (if 2 * j / 2 < d.length then g * chip (d.getD (2 * j / 2) 0) else 0) = _
      rw [show 2 * j / 2 = j by omega, if_pos hj]
    · show (if (2 * j + 1) / 2 < d.length then g * chip (d.getD ((2 * j + 1) / 2) 0) else 0) = _
      rw [show (2 * j + 1) / 2 = j by omega, if_pos hj]
theorem dot4 (z : List Int) (a b c d : UInt8) (fr : Nat) : dot z [a, b, c, d] fr = z.getD fr 0 * chip a + z.getD (fr + 1) 0 * chip b + z.getD (fr + 2) 0 * chip c + z.getD (fr + 3) 0 * chip d := by
  show dotT z [a, b, c, d] fr 4 = _
  simp [dotT]
theorem dot8 (z : List Int) (a b c d e f g h : UInt8) (fr : Nat) : dot z [a, b, c, d, e, f, g, h] fr = dot z [a, b, c, d] fr + dot z [e, f, g, h] (fr + 4) := by
  rw [dot4, dot4]
  show dotT z [a, b, c, d, e, f, g, h] fr 8 = _
  simp [dotT, Nat.add_assoc]
  omega
/-- what a block says of its correlation with the first four chips of a code -/
theorem dot_blk {z : List Int} {i : Nat} (hi : i < 4) {E : Nat → Int} (h : ∀ q r, r < 4 → z.getD (4 * q + r) 0 = E q * chip ((C4 i).getD r 0)) {k : Nat} (hk : k < 4) (q : Nat) :
    dot z ((C4 k).take 4) (4 * q) = if i = k then 4 * E q else 0 := by
  have h0 := h q 0 (by omega)
  have h1 := h q 1 (by omega)
  have h2 := h q 2 (by omega)
  have h3 := h q 3 (by omega)
  rw [Nat.add_zero] at h0
  have e48 : chip 48 = 1 := rfl
  have e49 : chip 49 = -1 := rfl
  rcases four hi with rfl | rfl | rfl | rfl <;> rcases four hk with rfl | rfl | rfl | rfl
  all_goals
    simp only [show C4 0 = [48, 48, 48, 48] from rfl, show C4 1 = [48, 48, 49, 49] from rfl, show C4 2 = [48, 49, 48, 49, 48, 49, 48, 49] from rfl, show C4 3 = [48, 49, 49, 48] from rfl, List.take, List.getD_cons_zero, List.getD_cons_succ, e48, e49] at h0 h1 h2 h3 ⊢
    rw [dot4, h0, h1, h2, h3]
    simp only [e48, e49]
    first
    | (rw [if_pos trivial]; omega)
    | (rw [if_pos rfl]; omega)
    | (rw [if_neg (by decide)]; omega)
theorem C4_dot (z : List Int) {k : Nat} (hk : k < 4) (j : Nat) : dot z (C4 k) (j * (C4 k).length) = if k = 2 then dot z ((C4 2).take 4) (4 * (2 * j)) + dot z ((C4 2).take 4) (4 * (2 * j + 1)) else dot z ((C4 k).take 4) (4 * j) := by
  rcases four hk with rfl | rfl | rfl | rfl
  · show dot z (C4 0) (j * 4) = dot z (C4 0) (4 * j)
    rw [Nat.mul_comm]
  · show dot z (C4 1) (j * 4) = dot z (C4 1) (4 * j)
    rw [Nat.mul_comm]
  · show dot z [48, 49, 48, 49, 48, 49, 48, 49] (j * 8) = dot z [48, 49, 48, 49] (4 * (2 * j)) + dot z [48, 49, 48, 49] (4 * (2 * j + 1))
    rw [dot8, show j * 8 = 4 * (2 * j) by omega, show 4 * (2 * j) + 4 = 4 * (2 * j + 1) by omega]
  · show dot z (C4 3) (j * 4) = dot z (C4 3) (4 * j)
    rw [Nat.mul_comm]
theorem pair_dot {i k : Nat} (hi : i < 4) (hk : k < 4) {d : List UInt8} (hd : ∀ x ∈ d, bit x) (g : Int) (j : Nat) :
    (i ≠ k → dot (mulL (sprL d (C4 i)) g) (C4 k) (j * (C4 k).length) = 0) ∧ (i = k → j < d.length → dot (mulL (sprL d (C4 i)) g) (C4 k) (j * (C4 k).length) = ((C4 k).length : Int) * (g * chip (d.getD j 0))) := by
  obtain ⟨E, hE, hV⟩ := blk hi hd g
  have hb := fun q => dot_blk hi hE hk q
  rw [C4_dot _ hk]
  constructor
  · intro hne
    by_cases h2 : k = 2
    · subst h2
      rw [if_pos rfl, hb, hb, if_neg hne, if_neg hne]
      rfl
    · rw [if_neg h2, hb, if_neg hne]
  · intro he hj
    subst he
    obtain ⟨v1, v2⟩ := hV j hj
    rcases C4_len hk with ⟨h2, hl⟩ | ⟨h2, hl⟩
    · rw [if_neg h2, hb, if_pos rfl, v1 h2, hl]; rfl
    · obtain ⟨w1, w2⟩ := v2 h2
      rw [if_pos h2, hl]
      subst h2
      rw [hb, hb, if_pos rfl, w1, w2]
      show _ = (8 : Int) * _
      omega
/-- the users of the law: the codes of the four paths, the data given, gains -/
def cellU (ds : List (List UInt8)) (G : Nat → Int) : List UI := ds.mapIdx fun i d => (C4 i, d, G i, 0)
theorem cellU_len (ds : List (List UInt8)) (G : Nat → Int) : (cellU ds G).length = ds.length := by simp [cellU]
theorem cellU_at (ds : List (List UInt8)) (G : Nat → Int) (i : Nat) : (cellU ds G)[i]? = (ds[i]?).map fun d => (C4 i, d, G i, 0) := by simp [cellU]
theorem cellU_take {ds : List (List UInt8)} (G : Nat → Int) {k : Nat} {d : List UInt8} (h : ds[k]? = some d) : cellU (ds.take (k + 1)) G = cellU (ds.take k) G ++ [(C4 k, d, G k, 0)] := by
  have hk : k < ds.length := by
    by_cases hk : k < ds.length
    · exact hk
    · rw [List.getElem?_eq_none (by omega)] at h; cases h
  unfold cellU
  rw [List.take_succ_eq_append_getElem hk, List.mapIdx_concat, List.length_take, Nat.min_eq_left (by omega)]
  rw [List.getElem?_eq_getElem hk] at h
  rw [Option.some.inj h]
structure CellOK (ds : List (List UInt8)) (G : Nat → Int) : Prop where
  len : ds.length ≤ 4
  bits : ∀ d ∈ ds, bitsOK d = true ∧ d.length ≤ 100
  gain : ∀ i, i < 4 → 1 ≤ G i ∧ G i ≤ 1000
theorem cell_u {ds : List (List UInt8)} {G : Nat → Int} (h : CellOK ds G) : ∀ u ∈ cellU ds G, uOK u = true := fun u hu => by
  obtain ⟨i, hi, he⟩ := List.getElem_of_mem hu
  have h1 := cellU_at ds G i
  rw [List.getElem?_eq_getElem hi, he] at h1
  rw [cellU_len] at hi
  rw [List.getElem?_eq_getElem hi] at h1
  simp only [Option.map_some, Option.some.injEq] at h1
  have hi4 : i < 4 := by have := h.len; omega
  obtain ⟨hb, hl⟩ := h.bits _ (List.getElem_mem hi)
  obtain ⟨g1, g2⟩ := h.gain i hi4
  have hc : (C4 i).length ≤ 8 := by rcases C4_len hi4 with ⟨_, h⟩ | ⟨_, h⟩ <;> omega
  have hm : ds[i].length * (C4 i).length ≤ 100 * 8 := Nat.mul_le_mul hl hc
  subst h1
  unfold uOK
  simp only [C4_seq hi4, hb, inB_yes (show (0 : Int) ≤ G i by omega) g2, inB_yes (Int.le_refl 0) (show (0 : Int) ≤ 1000 by omega), Bool.true_and, decide_eq_true_eq]
  have e : (ds[i].length : Int) * ((C4 i).length : Int) = ((ds[i].length * (C4 i).length : Nat) : Int) := by simp
  rw [e]
  omega
theorem cell_ok {ds : List (List UInt8)} {G : Nat → Int} (h : CellOK ds G) : usOK (cellU ds G) = true := by
  unfold usOK
  rw [cellU_len, decide_eq_true (by have := h.len; omega), List.all_eq_true.2 (cell_u h)]; rfl
theorem cell_dot {ds : List (List UInt8)} {G : Nat → Int} (h : CellOK ds G) {k : Nat} {d : List UInt8} (hk : ds[k]? = some d) {j : Nat} (hj : j < d.length) :
    dot (saL (cellU ds G)) (C4 k) (j * (C4 k).length) = ((C4 k).length : Int) * (G k * chip (d.getD j 0)) := by
  have hkl : k < ds.length := by
    by_cases hk2 : k < ds.length
    · exact hk2
    · rw [List.getElem?_eq_none (by omega)] at hk; cases hk
  have hk4 : k < 4 := by have := h.len; omega
  have hu := cell_u h
  have h8 : (cellU ds G).length ≤ 8 := by rw [cellU_len]; have := h.len; omega
  have huk : (cellU ds G)[k]? = some (C4 k, d, G k, 0) := by rw [cellU_at, hk]; rfl
  have hus : ∀ i v, (cellU ds G)[i]? = some v → ∃ d', v = (C4 i, d', G i, 0) ∧ i < 4 ∧ (∀ x ∈ d', bit x) ∧ usrL (natU v) = mulL (sprL d' (C4 i)) (G i) := fun i v hv => by
    have hv0 := hv
    rw [cellU_at] at hv
    obtain ⟨d', hd', rfl⟩ := Option.map_eq_some_iff.1 hv
    have hi : i < ds.length := by
      by_cases hi : i < ds.length
      · exact hi
      · rw [List.getElem?_eq_none (by omega)] at hd'; cases hd'
    refine ⟨d', rfl, by have := h.len; omega, bits_mem4 (h.bits _ (List.mem_of_getElem? hd')).1, ?_⟩
    rw [(usrL_eq (hu _ (List.mem_of_getElem? hv0))).1]
    rfl
  rw [sa_yes (cell_ok h)]
  have e1 := dot_snd hu h8 (C4 k) (j * (C4 k).length) (cellU ds G).length (Nat.le_refl _)
  rw [← List.length_map (f := natU), List.take_length] at e1
  rw [e1, List.length_map, dsum_one huk (fun i v hv hne => by
    obtain ⟨d', _, hi4, hb, e⟩ := hus i v hv
    rw [e]
    exact (pair_dot hi4 hk4 hb (G i) j).1 hne), if_pos (by rw [cellU_len]; exact hkl)]
  obtain ⟨d', e2, _, hb, e⟩ := hus k _ huk
  rw [e]
  simp only [Prod.mk.injEq, true_and, and_true] at e2
  subst e2
  exact (pair_dot hk4 hk4 hb (G k) j).2 rfl hj
theorem chip_sq4 (c : UInt8) : chip c * chip c = 1 := by rcases chip_two c with h | h <;> rw [h] <;> rfl
theorem cell_sig {ds : List (List UInt8)} {G : Nat → Int} (h : CellOK ds G) : sigOK (saL (cellU ds G)) = true := by
  have hu := cell_u h
  have h8 : (cellU ds G).length ≤ 8 := by rw [cellU_len]; have := h.len; omega
  have hb := snd_bd hu h8 (cellU ds G).length (Nat.le_refl _)
  rw [sa_yes (cell_ok h)]
  have e : ((cellU ds G).map natU).take (cellU ds G).length = (cellU ds G).map natU := by rw [← List.length_map (f := natU), List.take_length]
  rw [e] at hb
  refine bd_sig hb (by omega) (sndL_len _ (fun v hv => ?_) [] (by simp))
  rw [List.mem_map] at hv
  obtain ⟨x, hx, rfl⟩ := hv
  exact uOK_B (hu x hx)
theorem cell_k {ds : List (List UInt8)} {G : Nat → Int} (h : CellOK ds G) {k : Nat} {d : List UInt8} (hk : ds[k]? = some d) : k < 4 ∧ bitsOK d = true ∧ d.length ≤ 100 := by
  have hkl : k < ds.length := by
    by_cases hk2 : k < ds.length
    · exact hk2
    · rw [List.getElem?_eq_none (by omega)] at hk; cases hk
  exact ⟨by have := h.len; omega, h.bits _ (List.mem_of_getElem? hk)⟩
theorem cell_rcv {ds : List (List UInt8)} {G : Nat → Int} (h : CellOK ds G) {k : Nat} {d : List UInt8} (hk : ds[k]? = some d) : rcvO (saL (cellU ds G)) (str (C4 k)) 0 (d.length : Int) = some d := by
  obtain ⟨hk4, hb, hl⟩ := cell_k h hk
  have hls : lsOK (saL (cellU ds G)) (str (C4 k)) ((0 : Nat) : Int) (d.length : Int) = true := by
    show lsOK _ _ (0 : Int) _ = true
    unfold lsOK
    rw [cell_sig h, str_list, C4_seq hk4, inB_yes (Int.le_refl 0) (by omega), inB_yes (by omega) (by omega)]; rfl
  have e := rcv_yes hls
  rw [str_list] at e
  refine e.trans (congrArg some ?_)
  apply List.ext_getElem
  · rw [signs_len, dots_len]
  · intro j h1 h2
    have h3 := signs_dots_at (saL (cellU ds G)) (C4 k) 0 d.length h2
    rw [List.getD_eq_getElem?_getD, List.getElem?_eq_getElem h1] at h3
    simp only [Option.getD_some] at h3
    rw [h3, Nat.zero_add, cell_dot h hk h2]
    have hbit := bits_at4 hb h2
    have hd : d[j] = d.getD j 0 := by rw [List.getD_eq_getElem?_getD, List.getElem?_eq_getElem h2]; rfl
    rw [hd]
    refine sign_good hbit ?_
    have hg := (h.gain k hk4).1
    have hc : 1 ≤ ((C4 k).length : Int) := by rcases C4_len hk4 with ⟨_, h⟩ | ⟨_, h⟩ <;> omega
    have e3 : ((C4 k).length : Int) * (G k * chip (d.getD j 0)) * chip (d.getD j 0) = ((C4 k).length : Int) * G k := by
      rw [Int.mul_assoc, Int.mul_assoc, chip_sq4, Int.mul_one]
    rw [e3]
    exact Int.mul_pos (by omega) (by omega)
theorem cell_mg {ds : List (List UInt8)} {G : Nat → Int} (h : CellOK ds G) {k : Nat} {d : List UInt8} (hk : ds[k]? = some d) : mgO (saL (cellU ds G)) (str (C4 k)) 0 (str d) = if 1 ≤ d.length then some (G k * ((C4 k).length : Int)) else none := by
  obtain ⟨hk4, hb, hl⟩ := cell_k h hk
  by_cases h1 : 1 ≤ d.length
  · rw [if_pos h1]
    have hok : mgOK (saL (cellU ds G)) (str (C4 k)) ((0 : Nat) : Int) (str d) = true := by
      show mgOK _ _ (0 : Int) _ = true
      unfold mgOK rvOK
      rw [cell_sig h, str_list, str_list, C4_seq hk4, inB_yes (Int.le_refl 0) (by omega), hb, str_size, decide_eq_true h1]; rfl
    have e := mg_yes hok
    rw [str_list, str_list, str_size] at e
    refine e.trans (congrArg some ?_)
    obtain ⟨j, hj, hje⟩ := (mgT_spec (saL (cellU ds G)) (C4 k) 0 d d.length h1).1
    rw [hje]
    unfold mgV
    rw [Nat.zero_add, cell_dot h hk hj, Int.mul_assoc, Int.mul_assoc, chip_sq4, Int.mul_one, Int.mul_comm]
  · rw [if_neg h1]
    exact mg_no (by unfold mgOK; rw [str_size, decide_eq_false h1, Bool.and_false])
theorem C4_tree : treeT [48, 48] 2 = C4 0 ∧ treeT [48, 49] 2 = C4 1 ∧ treeT [49, 48, 48] 3 = C4 2 ∧ treeT [49, 49] 2 = C4 3 := by decide +kernel
/- Part: Weak contracts of the functions that draw users who are sometimes not valid. -/

theorem cell_ne (w : World) (q i j : Nat) (v : Value) (h : i ≠ j) : (w.setCell ⟨q, i, none⟩ v).cell? ⟨q, j, none⟩ = w.cell? ⟨q, j, none⟩ := World.cell?_setCell_other _ _ _ _ (by simp [h])
theorem RI.set0 {w : World} {q k : Nat} {us : List UI} (h : RI w q us) {c d : List UInt8} {a y : Int} (hk : us[k]? = some (c, d, a, y)) (c' : List UInt8) : RI (w.setCell ⟨q, k * 4, none⟩ (.string (str c'))) q (us.set k (c', d, a, y)) := by
  obtain ⟨h0, h⟩ := h
  refine ⟨by simpa using h0, fun i hi => ?_⟩
  rw [List.length_set] at hi
  obtain ⟨c1, d1, a1, y1, e, x0, x1, x2, x3⟩ := h i hi
  by_cases hik : i = k
  · subst hik
    rw [hk] at e
    simp only [Option.some.injEq, Prod.mk.injEq] at e
    obtain ⟨rfl, rfl, rfl, rfl⟩ := e
    refine ⟨c', d, a, y, by rw [List.getElem?_set_self hi], World.cell?_setCell_same _ _ _ x0, ?_, ?_, ?_⟩
    all_goals
      rw [cell_ne _ _ _ _ _ (by omega)]
      assumption
  · refine ⟨c1, d1, a1, y1, by rw [List.getElem?_set_ne (by omega)]; exact e, ?_, ?_, ?_, ?_⟩
    all_goals
      rw [cell_ne _ _ _ _ _ (by omega)]
      assumption
theorem RI.set1 {w : World} {q k : Nat} {us : List UI} (h : RI w q us) {c d : List UInt8} {a y : Int} (hk : us[k]? = some (c, d, a, y)) (d' : List UInt8) : RI (w.setCell ⟨q, k * 4 + 1, none⟩ (.string (str d'))) q (us.set k (c, d', a, y)) := by
  obtain ⟨h0, h⟩ := h
  refine ⟨by simpa using h0, fun i hi => ?_⟩
  rw [List.length_set] at hi
  obtain ⟨c1, d1, a1, y1, e, x0, x1, x2, x3⟩ := h i hi
  by_cases hik : i = k
  · subst hik
    rw [hk] at e
    simp only [Option.some.injEq, Prod.mk.injEq] at e
    obtain ⟨rfl, rfl, rfl, rfl⟩ := e
    refine ⟨c, d', a, y, by rw [List.getElem?_set_self hi], ?_, World.cell?_setCell_same _ _ _ x1, ?_, ?_⟩
    all_goals
      rw [cell_ne _ _ _ _ _ (by omega)]
      assumption
  · refine ⟨c1, d1, a1, y1, by rw [List.getElem?_set_ne (by omega)]; exact e, ?_, ?_, ?_, ?_⟩
    all_goals
      rw [cell_ne _ _ _ _ _ (by omega)]
      assumption
theorem RI.set2 {w : World} {q k : Nat} {us : List UI} (h : RI w q us) {c d : List UInt8} {a y : Int} (hk : us[k]? = some (c, d, a, y)) (a' : Int) : RI (w.setCell ⟨q, k * 4 + 2, none⟩ (.int .i64 a')) q (us.set k (c, d, a', y)) := by
  obtain ⟨h0, h⟩ := h
  refine ⟨by simpa using h0, fun i hi => ?_⟩
  rw [List.length_set] at hi
  obtain ⟨c1, d1, a1, y1, e, x0, x1, x2, x3⟩ := h i hi
  by_cases hik : i = k
  · subst hik
    rw [hk] at e
    simp only [Option.some.injEq, Prod.mk.injEq] at e
    obtain ⟨rfl, rfl, rfl, rfl⟩ := e
    refine ⟨c, d, a', y, by rw [List.getElem?_set_self hi], ?_, ?_, World.cell?_setCell_same _ _ _ x2, ?_⟩
    all_goals
      rw [cell_ne _ _ _ _ _ (by omega)]
      assumption
  · refine ⟨c1, d1, a1, y1, by rw [List.getElem?_set_ne (by omega)]; exact e, ?_, ?_, ?_, ?_⟩
    all_goals
      rw [cell_ne _ _ _ _ _ (by omega)]
      assumption
theorem RI.set3 {w : World} {q k : Nat} {us : List UI} (h : RI w q us) {c d : List UInt8} {a y : Int} (hk : us[k]? = some (c, d, a, y)) (y' : Int) : RI (w.setCell ⟨q, k * 4 + 3, none⟩ (.int .i64 y')) q (us.set k (c, d, a, y')) := by
  obtain ⟨h0, h⟩ := h
  refine ⟨by simpa using h0, fun i hi => ?_⟩
  rw [List.length_set] at hi
  obtain ⟨c1, d1, a1, y1, e, x0, x1, x2, x3⟩ := h i hi
  by_cases hik : i = k
  · subst hik
    rw [hk] at e
    simp only [Option.some.injEq, Prod.mk.injEq] at e
    obtain ⟨rfl, rfl, rfl, rfl⟩ := e
    refine ⟨c, d, a, y', by rw [List.getElem?_set_self hi], ?_, ?_, ?_, World.cell?_setCell_same _ _ _ x3⟩
    all_goals
      rw [cell_ne _ _ _ _ _ (by omega)]
      assumption
  · refine ⟨c1, d1, a1, y1, by rw [List.getElem?_set_ne (by omega)]; exact e, ?_, ?_, ?_, ?_⟩
    all_goals
      rw [cell_ne _ _ _ _ _ (by omega)]
      assumption
/-- the cells of users -/
def uiC (u : UI) : List Value := [.string (str u.1), .string (str u.2.1), .int .i64 u.2.2.1, .int .i64 u.2.2.2]
def uiV (us : List UI) : List Value := us.flatMap uiC
theorem uiV_cons (u : UI) (us : List UI) : uiV (u :: us) = Value.string (str u.1) :: Value.string (str u.2.1) :: Value.int .i64 u.2.2.1 :: Value.int .i64 u.2.2.2 :: uiV us := rfl
theorem uiV_snoc (us : List UI) (c d : List UInt8) (a y : Int) : uiV (us ++ [(c, d, a, y)]) = uiV us ++ [.string (str c), .string (str d), .int .i64 a, .int .i64 y] := by unfold uiV; rw [List.flatMap_append]; rfl
theorem uiV_len (us : List UI) : (uiV us).length = 4 * us.length := by
  induction us with
  | nil => rfl
  | cons u us ih => rw [uiV_cons]; simp [ih]; omega
theorem uiV_at (us : List UI) : ∀ i, i < us.length → ∃ c d : List UInt8, ∃ a y : Int, us[i]? = some (c, d, a, y) ∧ (uiV us)[4 * i]? = some (.string (str c)) ∧ (uiV us)[4 * i + 1]? = some (.string (str d)) ∧ (uiV us)[4 * i + 2]? = some (.int .i64 a) ∧ (uiV us)[4 * i + 3]? = some (.int .i64 y) := by
  induction us with
  | nil => intro i h; simp at h
  | cons u us ih =>
    intro i h
    obtain ⟨c, d, a, y⟩ := u
    cases i with
    | zero => exact ⟨c, d, a, y, rfl, rfl, rfl, rfl, rfl⟩
    | succ i =>
      obtain ⟨c', d', a', y', h1, h2, h3, h4, h5⟩ := ih i (by simpa using h)
      refine ⟨c', d', a', y', by simpa using h1, ?_, ?_, ?_, ?_⟩
      all_goals
        rw [uiV_cons]
        first
        | (rw [show 4 * (i + 1) = 4 * i + 1 + 1 + 1 + 1 by omega]; simpa using h2)
        | (rw [show 4 * (i + 1) + 1 = 4 * i + 1 + 1 + 1 + 1 + 1 by omega]; simpa using h3)
        | (rw [show 4 * (i + 1) + 2 = 4 * i + 2 + 1 + 1 + 1 + 1 by omega]; simpa using h4)
        | (rw [show 4 * (i + 1) + 3 = 4 * i + 3 + 1 + 1 + 1 + 1 by omega]; simpa using h5)
theorem RI.of_own {w : World} {B q cap : Nat} {e : TypeId} {us : List UI} (h : Own4 w B e q us.length cap (uiV us)) : RI w q us := by
  refine ⟨h.lt.2, fun i hi => ?_⟩
  obtain ⟨c, d, a, y, h1, h2, h3, h4, h5⟩ := uiV_at us i hi
  have hl := uiV_len us
  rw [Nat.mul_comm 4 i] at h2 h3 h4 h5
  have hc := fun j hj => World.ownsRow.cellAt h j hj
  exact ⟨c, d, a, y, h1, (hc _ (by omega)).trans h2, (hc _ (by omega)).trans h3, (hc _ (by omega)).trans h4, (hc _ (by omega)).trans h5⟩
/-- a drawn user as a user -/
def toI (u : Usr) : UI := (u.1, u.2.1, (u.2.2.1 : Int), (u.2.2.2 : Int))
theorem usV_toI (us : List Usr) : usV us = uiV (us.map toI) := by
  induction us with
  | nil => rfl
  | cons u us ih =>
    have e : usV (u :: us) = Value.string (str u.1) :: Value.string (str u.2.1) :: Value.int .i64 (u.2.2.1 : Int) :: Value.int .i64 (u.2.2.2 : Int) :: usV us := rfl
    rw [e, ih]; rfl
theorem Own4.frozen {w : World} {B : Nat} {e : TypeId} {g n cap : Nat} {xs : List Value} (h : Own4 w B e g n cap xs) (j : Nat) : w.frozen? ⟨g, j, none⟩ = false := World.ownsRow.frozenAt h j
def sliceLen : Value → Nat
  | .slice _ n _ => n
  | _ => 0
/-- drawn users: not too long -/
def UIS (u : UI) : Prop := u.1.length ≤ 2001 ∧ u.2.1.length ≤ 9
/-- what a draw of a list of users gives -/
def ListD (B g lim lo : Nat) (w : World) (e : Ending) (w' : World) : Prop :=
  ∃ (us : List UI) (q cap : Nat), e = .returned (.slice (some ⟨q, 0, none⟩) us.length cap) ∧ (us.length ≤ 9 ∧ ∀ u ∈ us, UIS u) ∧ RI w' q us ∧ Rd w' B g (lim + 100) ∧ KeepsTo lo g w w'
theorem set_uis {us : List UI} (h : ∀ u ∈ us, UIS u) {k : Nat} {v : UI} (hv : UIS v) : ∀ u ∈ us.set k v, UIS u := fun u hu => by
  rcases List.mem_or_eq_of_mem_set hu with hu | rfl
  · exact h u hu
  · exact hv
set_option maxHeartbeats 8000000 in
theorem badList_any (B g lim lo q cap : Nat) (us : List UI) (w : World) (hr : Rd w B g lim) (hlim : lim ≤ 4900) (hown : Own4 w lo 45 q us.length cap (uiV us)) (hgl : g < lo) (hlo : lo ≤ w.heap.size) (hn : us.length ≤ 4) (hus : ∀ u ∈ us, u.1.length ≤ 8 ∧ u.2.1.length ≤ 8) :
    Calls Try.prog 46 #[.pointer (some ⟨g, 0, none⟩), .slice (some ⟨q, 0, none⟩) us.length cap] w (ListD B g lim lo w) := by
  have hg := hr.lt
  have hql := hown.lt
  have hk := Keeps.refl g w
  have HUS : Hid (∀ u ∈ us, UIS u) := Lib.hid fun u hu => ⟨by have := hus u hu; omega, by have := hus u hu; omega⟩
  have HU8 := Lib.hid hus
  have HOWN := Lib.hid hown
  clear hus hown
  by_cases h0 : us.length = 0
  · go_enter Try.func46, Try.ntmps46
    go_wp2
    go_ret
    exact ⟨us, q, cap, rfl, ⟨by omega, HUS.out⟩, RI.of_own HOWN.out, hr.mono (by omega), hk.to hlo⟩
  have hn0 : ((us.length : Int) == 0) = false := by simp; exact List.ne_nil_of_length_pos (by omega)
  have hn1 : 0 < us.length := by omega
  go_enter Try.func46, Try.ntmps46
  go_wp2_with fail
  refine (pick_any B g lim _ _ hr (by omega) (by omega) (by omega)).mono ?_
  rintro e u1 ⟨k, rfl, hx, hr', hk'⟩
  replace hk := hk.trans hk'
  clear hk' hr
  have hr := hr'
  clear hr'
  have hkn : k < us.length := by have := hx.1 (by omega); omega
  clear hx
  go_wp2_with fail
  refine (pick_any _ _ _ _ _ hr (by omega) (by omega) (by omega)).mono ?_
  rintro e u2 ⟨m, rfl, hx, hr', hk'⟩
  replace hk := hk.trans hk'
  clear hk' hr
  have hr := hr'
  clear hr'
  clear hx
  have HO := Lib.hid (HOWN.out.keeps hk (by omega))
  have HK := Lib.hid hk
  have hks := hk.size
  clear HOWN hk
  by_cases h0m : m = 0
  · subst h0m
    obtain ⟨c, d, a, y, hu, c0, c1, c2, c3⟩ := (RI.of_own HO.out).2 k hkn
    have hu8 := HU8.out _ (List.mem_of_getElem? hu)
    simp only [] at hu8
    have s1 : str c ++ (⟨#[48]⟩ : ByteArray) = str (c ++ [48]) := str_add c [48]
    obtain ⟨c5, hc5, hc5l⟩ : ∃ c5, c5 = c ++ [48] ∧ c5.length ≤ 9 := ⟨_, rfl, by simp; omega⟩
    rw [← hc5] at s1
    have zc := str_size c
    have HE := Lib.hid hu
    clear hc5 hu
    go_wp2_with fail
    refine (l2Bad_any _ _ _ c5 _ hr (by omega) (by omega)).mono ?_
    rintro e x1 ⟨l, rfl, hl, hr1, hk1⟩
    have HO1 := Lib.hid (HO.out.keeps hk1 (by omega))
    have hk2 := HK.out.trans hk1
    have HR1 := Lib.hid (RI.of_own HO1.out)
    have hf := HO1.out.frozen (k * 4)
    have hq1 := HO1.out.lt
    obtain ⟨c', d', a', y', hu', d0, d1, d2, d3⟩ := HR1.out.2 k hkn
    rw [HE.out] at hu'
    simp only [Option.some.injEq, Prod.mk.injEq] at hu'
    obtain ⟨rfl, rfl, rfl, rfl⟩ := hu'
    have HFR := Lib.hid (HR1.out.set0 HE.out l)
    have hbs : Below lo x1 (x1.setCell ⟨q, k * 4, none⟩ (.string (str l))) := (Below.refl lo x1).setCell (p := ⟨q, k * 4, none⟩) hql.1 _
    have HKF := Lib.hid ((hk2.to hlo).step hbs hgl)
    have HRF := Lib.hid (hr1.below' hbs hgl)
    clear c0 c1 c2 c3 d1 d2 d3 hk1 hk2 hr1 hbs
    go_wp2
    go_ret
    exact ⟨us.set k (l, d, a, y), q, cap, by rw [List.length_set]; rfl, ⟨by rw [List.length_set]; omega, set_uis HUS.out ⟨by show l.length ≤ 2001; omega, by show d.length ≤ 9; omega⟩⟩, HFR.out, HRF.out.mono (by omega), HKF.out⟩
  have m0 : ((m : Int) == 0) = false := by simp; omega
  by_cases h1m : m = 1
  · subst h1m
    obtain ⟨c, d, a, y, hu, c0, c1, c2, c3⟩ := (RI.of_own HO.out).2 k hkn
    have hu8 := HU8.out _ (List.mem_of_getElem? hu)
    simp only [] at hu8
    have HE := Lib.hid hu
    clear hu c0 c1 c2 c3
    go_wp2_with fail
    refine (num_lit _ _ _ [-1, 0, 1000, 1001] _ _ _ hr (by omega) rfl (by simp) (by simp)).mono ?_
    rintro e x1 ⟨l, hl, rfl, hr1, hk1⟩
    have HO1 := Lib.hid (HO.out.keeps hk1 (by omega))
    have hk2 := HK.out.trans hk1
    have HR1 := Lib.hid (RI.of_own HO1.out)
    have hf := HO1.out.frozen (k * 4 + 2)
    have hq1 := HO1.out.lt
    obtain ⟨c', d', a', y', hu', d0, d1, d2, d3⟩ := HR1.out.2 k hkn
    rw [HE.out] at hu'
    simp only [Option.some.injEq, Prod.mk.injEq] at hu'
    obtain ⟨rfl, rfl, rfl, rfl⟩ := hu'
    have HFR := Lib.hid (HR1.out.set2 HE.out l)
    have hbs : Below lo x1 (x1.setCell ⟨q, k * 4 + 2, none⟩ (.int .i64 l)) := (Below.refl lo x1).setCell (p := ⟨q, k * 4 + 2, none⟩) hql.1 _
    have HKF := Lib.hid ((hk2.to hlo).step hbs hgl)
    have HRF := Lib.hid (hr1.below' hbs hgl)
    clear hl hk1 hk2 hr1 hbs
    go_wp2
    go_ret
    exact ⟨us.set k (c, d, l, y), q, cap, by rw [List.length_set]; rfl, ⟨by rw [List.length_set]; omega, set_uis HUS.out ⟨by show c.length ≤ 2001; omega, by show d.length ≤ 9; omega⟩⟩, HFR.out, HRF.out.mono (by omega), HKF.out⟩
  have m1 : ((m : Int) == 1) = false := by simp; omega
  by_cases h2m : m = 2
  · subst h2m
    obtain ⟨c, d, a, y, hu, c0, c1, c2, c3⟩ := (RI.of_own HO.out).2 k hkn
    have hu8 := HU8.out _ (List.mem_of_getElem? hu)
    simp only [] at hu8
    have HE := Lib.hid hu
    clear hu c0 c1 c2 c3
    go_wp2_with fail
    refine (num_lit _ _ _ [-1, 1000, 1001, 9223372036854775807] _ _ _ hr (by omega) rfl (by simp) (by simp)).mono ?_
    rintro e x1 ⟨l, hl, rfl, hr1, hk1⟩
    have HO1 := Lib.hid (HO.out.keeps hk1 (by omega))
    have hk2 := HK.out.trans hk1
    have HR1 := Lib.hid (RI.of_own HO1.out)
    have hf := HO1.out.frozen (k * 4 + 3)
    have hq1 := HO1.out.lt
    obtain ⟨c', d', a', y', hu', d0, d1, d2, d3⟩ := HR1.out.2 k hkn
    rw [HE.out] at hu'
    simp only [Option.some.injEq, Prod.mk.injEq] at hu'
    obtain ⟨rfl, rfl, rfl, rfl⟩ := hu'
    have HFR := Lib.hid (HR1.out.set3 HE.out l)
    have hbs : Below lo x1 (x1.setCell ⟨q, k * 4 + 3, none⟩ (.int .i64 l)) := (Below.refl lo x1).setCell (p := ⟨q, k * 4 + 3, none⟩) hql.1 _
    have HKF := Lib.hid ((hk2.to hlo).step hbs hgl)
    have HRF := Lib.hid (hr1.below' hbs hgl)
    clear hl hk1 hk2 hr1 hbs
    go_wp2
    go_ret
    exact ⟨us.set k (c, d, a, l), q, cap, by rw [List.length_set]; rfl, ⟨by rw [List.length_set]; omega, set_uis HUS.out ⟨by show c.length ≤ 2001; omega, by show d.length ≤ 9; omega⟩⟩, HFR.out, HRF.out.mono (by omega), HKF.out⟩
  have m2 : ((m : Int) == 2) = false := by simp; omega
  by_cases h3m : m = 3
  · subst h3m
    obtain ⟨c, d, a, y, hu, c0, c1, c2, c3⟩ := (RI.of_own HO.out).2 k hkn
    have hu8 := HU8.out _ (List.mem_of_getElem? hu)
    simp only [] at hu8
    have s1 : str d ++ (⟨#[50]⟩ : ByteArray) = str (d ++ [50]) := str_add d [50]
    obtain ⟨d5, hd5, hd5l⟩ : ∃ d5, d5 = d ++ [50] ∧ d5.length ≤ 9 := ⟨_, rfl, by simp; omega⟩
    rw [← hd5] at s1
    have zd := str_size d
    have HE := Lib.hid hu
    have hf := HO.out.frozen (k * 4 + 1)
    have hq1 := HO.out.lt
    have HFR := Lib.hid ((RI.of_own HO.out).set1 HE.out d5)
    have HKF := Lib.hid ((HK.out.to hlo).step ((Below.refl lo _).setCell (p := ⟨q, k * 4 + 1, none⟩) hql.1 (.string (str d5))) hgl)
    have HRF := Lib.hid (hr.below' ((Below.refl lo _).setCell (p := ⟨q, k * 4 + 1, none⟩) hql.1 (.string (str d5))) hgl)
    clear hd5 hu
    go_wp2
    go_ret
    exact ⟨us.set k (c, d5, a, y), q, cap, by rw [List.length_set]; rfl, ⟨by rw [List.length_set]; omega, set_uis HUS.out ⟨by show c.length ≤ 2001; omega, hd5l⟩⟩, HFR.out, HRF.out.mono (by omega), HKF.out⟩
  have m3 : ((m : Int) == 3) = false := by simp; omega
  by_cases h4m : m = 4
  · subst h4m
    have HRD := Lib.hid hr
    have HKT := Lib.hid (HK.out.to hlo)
    clear hr HK
    go_wp2
    go_loopw [1] (fun v wr => ∃ (vs : List UI) (q2 cap2 : Nat), v = .slice (some ⟨q2, 0, none⟩) vs.length cap2 ∧ 0 < vs.length ∧ vs.length ≤ 9 ∧ (∀ u ∈ vs, UIS u) ∧ Own4 wr lo 45 q2 vs.length cap2 (uiV vs) ∧ Rd wr B g (lim + 1 + 1) ∧ KeepsTo lo g w wr) (fun v _ => 9 - sliceLen v)
    case atStart => exact ⟨us, q, cap, rfl, hn1, by omega, HUS.out, HO.out, HRD.out, HKT.out⟩
    case round =>
      clear HO HRD HKT
      obtain ⟨vs, q2, cap2, rfl, hv1, hv9, hvs, hown, hr, hk⟩ := hrel
      have HVS := Lib.hid hvs
      have hq2 := hown.lt
      have HOW := Lib.hid hown
      have HRD := Lib.hid hr
      have HKT := Lib.hid hk
      have hks2 := hk.size
      clear hvs hown hr hk
      by_cases hlt : vs.length < 9
      · obtain ⟨c, d, a, y, hu, c0, c1, c2, c3⟩ := (RI.of_own HOW.out).2 0 hv1
        have hus0 := Lib.hid (HVS.out _ (List.mem_of_getElem? hu))
        simp only [Nat.zero_mul, Nat.zero_add] at c0 c1 c2 c3
        clear hu
        go_wp2_with (at_builtin; refine app4 (w0 := wr) 40 45 Try.underlying40 info_user rfl rfl _ _ rfl lo q2 vs.length cap2 (uiV vs) (.string (str c)) (.string (str d)) (.int .i64 a) (.int .i64 y) rfl wr.heap.size rfl rfl HOW.out (Below.refl _ _) (by omega) (by intro u hu; simp at hu; rcases hu with rfl | rfl | rfl | rfl <;> rfl) (by omega) (by unfold maxLen; omega) ?_; intro g2 cap3 w2 hown7 hb7)
        have hr7 := HRD.out.below' hb7 hgl
        have hk7 := Lib.hid (HKT.out.step hb7 hgl)
        have HO8 := Lib.hid hown7
        clear hb7 hown7
        go_wp2
        go_roundw
        case rel => exact ⟨vs ++ [(c, d, a, y)], g2, cap3, by simp, by simp, by simp; omega, fun u hu => by
          rcases List.mem_append.1 hu with hu | hu
          · exact HVS.out u hu
          · simp at hu; subst hu; exact hus0.out, by rw [uiV_snoc, List.length_append]; exact HO8.out, hr7, hk7.out⟩
        case measure => (simp [sliceLen]; try omega)
      · go_wp2
        go_ret
        exact ⟨vs, q2, cap2, rfl, ⟨hv9, HVS.out⟩, RI.of_own HOW.out, HRD.out.mono (by omega), HKT.out⟩
  have m4 : ((m : Int) == 4) = false := by simp; omega
  have HKT := Lib.hid (HK.out.to hlo)
  go_wp2
  go_ret
  exact ⟨us, q, cap, rfl, ⟨by omega, HUS.out⟩, RI.of_own HO.out, hr.mono (by omega), HKT.out⟩
/-- what a draw of users gives -/
def SendD (w : World) (e : Ending) (w' : World) : Prop :=
  ∃ (us : List UI) (q cap : Nat), e = .returned (.slice (some ⟨q, 0, none⟩) us.length cap) ∧ (us.length ≤ 9 ∧ ∀ u ∈ us, UIS u) ∧ RI w' q us ∧ Below w.heap.size w w'
theorem drawSend_any (a : Option Addr) (len cap : Nat) (zs : List Int) (w : World) (h : IsRow .u8 w a len cap zs) :
    Calls Try.prog 20 #[.slice a len cap] w (SendD w) := by
  go_enter Try.func20, Try.ntmps20
  go_wp2_with fail
  refine (open_any _ _ _ _ _ h).mono ?_
  rintro e w1 ⟨rfl, hr, hb⟩
  clear h
  have hg := hr.lt
  have hbs := hb.size
  have HB := Lib.hid hb
  clear hb
  go_wp2_with fail
  refine (list_any _ _ _ _ hr (by omega)).mono ?_
  rintro e w2 ⟨us, q, cap2, rfl, hn4, hus, hown, hr2, hk⟩
  have hs12 := hk.size
  have HBL := badList_any w.heap.size w.heap.size _ w1.heap.size q cap2 (us.map toI) w2 hr2 (by omega) (by rw [List.length_map, ← usV_toI]; exact hown) (by omega) hs12 (by rw [List.length_map]; exact hn4) (fun u hu => by
    rw [List.mem_map] at hu
    obtain ⟨x, hx, rfl⟩ := hu
    obtain ⟨⟨_, h2, _⟩, h4, _, _⟩ := hus x hx
    exact ⟨h2, h4.1⟩)
  rw [List.length_map] at HBL
  have HBL := Lib.hid HBL
  have HK := Lib.hid hk
  clear hr hr2 hk hown hus
  go_wp2_with fail
  refine HBL.out.mono ?_
  rintro e w3 ⟨vs, q3, cap3, rfl, hvs, hri, hr3, hk3⟩
  have HBF := Lib.hid (HB.out.trans ((HK.out.below.trans hk3.below).mono (by omega)))
  have HVS := Lib.hid hvs
  have HRI := Lib.hid hri
  clear hvs hri hr3 hk3 HBL HK
  go_wp2
  go_ret
  exact ⟨vs, q3, cap3, rfl, HVS.out, HRI.out, HBF.out⟩
/- Part: Contract of the laws' helper that receives. -/

theorem ssUser_yes (A : Option Addr) (c : Nat) (z : List Int) (s : ByteArray) (x n : Int) (B : List UInt8) (w : World) (hr : Reads w w.heap.size A z) (hl : z.length ≤ 1048576) (hs : s.size ≤ maxLen) (h : rcvO z s x n = some B) :
    Calls Try.prog 15 #[.slice A z.length c, .string s, .int .i64 x, .int .i64 n] w fun e w' => e = .returned (.string (str B)) ∧ Below w.heap.size w w' := by
  have HI := Lib.hid (rcvI_any A c z s x n w hr hl hs)
  rw [h] at HI
  change Hid (Calls _ _ _ w fun e w' => e = .returned (.tuple #[.string (str B), .bool true]) ∧ _) at HI
  clear hr h
  go_enter Try.func15, Try.ntmps15
  go_wp2_with fail
  refine HI.out.mono ?_
  rintro e w1 ⟨rfl, hb⟩
  go_wp2
  go_ret
  exact ⟨rfl, hb⟩
end Go.Proofs.Ytiiiaeemblcniaa
