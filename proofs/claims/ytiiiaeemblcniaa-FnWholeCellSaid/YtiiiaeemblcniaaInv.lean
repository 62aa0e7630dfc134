/- Contracts of the functions that change all bits, and that draw two signals. -/
import Derived.Test.YtiiiaeemblcniaaRecv
import Derived.Test.YtiiiaeemblcniaaDrawS
import Derived.Test.YtiiiaeemblcniaaDrawL
import Derived.Test.YtiiiaeemblcniaaAdd
namespace Go.Proofs.Ytiiiaeemblcniaa
set_option maxRecDepth 20000
open Go.ChangeShapes Go.WideShapes Go.ChangeAt Go.RowKit
set_option linter.unusedVariables false
set_option linter.unusedSimpArgs false

theorem IsRow.below4 {w w' : World} {k : IntKind} {a : Option Addr} {len cap : Nat} {zs : List Int} (h : IsRow k w a len cap zs) (hb : Below w.heap.size w w') : IsRow k w' a len cap zs := by
  rcases h with h | ⟨x, rfl, hlc, hcm, hz, hc, hw⟩
  · exact .inl h
  · refine .inr ⟨x, rfl, hlc, hcm, hz, fun i hi => ?_, hw⟩
    have h1 := hc i hi
    have hlt : (x.add i).block < w.heap.size := by
      rcases Nat.lt_or_ge (x.add i).block w.heap.size with h2 | h2
      · exact h2
      · simp [World.cell?, Array.getElem?_eq_none h2] at h1
    rw [hb.cell hlt]; exact h1
def invL (l : List UInt8) : List UInt8 := l.map inv1
theorem invL_len (l : List UInt8) : (invL l).length = l.length := by simp [invL]
theorem invL_getD (l : List UInt8) (j : Nat) (h : j < l.length) : (invL l).getD j 0 = inv1 (l.getD j 0) := by
  simp [invL, List.getD_eq_getElem?_getD, List.getElem?_eq_getElem h]
theorem inv1_sub {c : UInt8} (h : bit c) : ((inv1 c).toNat : Int) = 97 - (c.toNat : Int) := by rcases h with h | h <;> rw [h] <;> rfl
theorem bits_mem4 {l : List UInt8} (h : bitsOK l = true) : ∀ c ∈ l, bit c := fun c hc => by
  unfold bitsOK at h
  simp only [Bool.and_eq_true, List.all_eq_true] at h
  have := h.2 c hc
  simpa [bit1, bit] using this
theorem invL_bits {l : List UInt8} (h : bitsOK l = true) : bitsOK (invL l) = true := bitsOK_mk (by rw [invL_len]; exact bits_le h) (fun c hc => by
  simp only [invL, List.mem_map] at hc
  obtain ⟨d, hd, rfl⟩ := hc
  have := inv1_bit (bits_mem4 h d hd)
  rcases this with h | h <;> rw [h] <;> rfl)
theorem invL_seq {l : List UInt8} (h : seqOK l = true) : seqOK (invL l) = true := by
  have h0 := h
  unfold seqOK at h ⊢
  simp only [Bool.and_eq_true, decide_eq_true_eq] at h
  rw [invL_bits h.1.1, invL_len, decide_eq_true h.1.2, decide_eq_true h.2]; rfl
set_option maxHeartbeats 400000 in
theorem invI_any (l : List UInt8) (w : World) (hb : bitsOK l = true) :
    Calls Try.prog 55 #[.string (str l)] w fun e w' => e = .returned (.string (str (invL l))) ∧ Below w.heap.size w w' := by
  have z0 := str_size l
  have h6 := bits_le hb
  have hmk := fun u => run_make_row' (P := Try.prog) 22 5 (.int .u8 0) 1 Try.underlying22 info_u8 rfl .i64 .i64 l.length (by omega) (by omega) u
  go_enter Try.func55, Try.ntmps55
  go_wp2
  go_loopw [4, 10] (fun _ i wr => ∃ k : Nat, k ≤ l.length ∧ i = .int .i64 k ∧ wr.rowIs w.heap.size 5 l.length (fun j => if j < k then .int .u8 ((invL l).getD j 0).toNat else .int .u8 0) ∧ Below w.heap.size w wr) (fun _ i _ => l.length - (intOf i).toNat)
  case atStart => exact ⟨0, Nat.zero_le _, rfl, (World.rowIs_made w _ _ _).congr (fun _ _ => rfl), (Below.refl _ _).alloc (Nat.le_refl _) _⟩
  case round =>
    obtain ⟨k, hk, rfl, hrow, hbl⟩ := hrel
    clear hmk
    by_cases hlt : k < l.length
    · have hc := hrow.cell hlt
      have hf := hrow.frozen k
      have hg := str_get l k (by rw [z0]; exact hlt)
      have HV := Lib.hid (inv1_sub (bits_at4 hb hlt))
      have HG := Lib.hid (invL_getD l k hlt)
      have hbit := bits_at4 hb hlt
      have hr : 48 ≤ ((l.getD k 0).toNat : Int) ∧ ((l.getD k 0).toNat : Int) ≤ 49 := by rcases hbit with h | h <;> rw [h] <;> decide
      obtain ⟨hr1, hr2⟩ := hr
      clear hbit
      generalize l.getD k 0 = c at *
      go_wp2
      go_roundw
      case rel => exact ⟨k + 1, by omega, by go_num, row_next hrow (by rw [HG.out, HV.out]), hbl.setCell (Nat.le_refl _) _⟩
      case measure => simp [intOf]; omega
    · obtain rfl : k = l.length := by omega
      have hconv := conv_row (P := Try.prog) (src := 22) (dst := 9) (invL l) (n := l.length) (invL_len l) (Nat.le_refl _) hrow (fun j hj => by rw [if_pos hj]) Try.underlying22 Try.underlying5 Try.underlying9
      clear hrow
      go_wp2
      go_ret
      exact ⟨rfl, hbl⟩
theorem invBits_yes (l : List UInt8) (w : World) (h : seqOK l = true) :
    Calls Try.prog 29 #[.string (str l)] w fun e w' => e = .returned (.tuple #[.string (str (invL l)), .bool true]) ∧ Below w.heap.size w w' := by
  have hl := seq_bits h
  have h6 := bits_le hl
  have HQ := Lib.hid (seqI_any (str l) w (by rw [str_size]; unfold maxLen; omega))
  rw [str_list, h] at HQ
  have HI := Lib.hid (invI_any l w hl)
  clear h hl
  go_enter Try.func29, Try.ntmps29
  go_wp2_with fail
  refine (HQ.out).mono ?_
  rintro e w' ⟨rfl, rfl⟩
  go_wp2_with fail
  refine HI.out.mono ?_
  rintro e w1 ⟨rfl, hb⟩
  go_wp2
  go_ret2
  exact ⟨rfl, hb⟩
/-- what a draw of two signals gives -/
def AddD (w : World) (e : Ending) (w' : World) : Prop :=
  ∃ (v : Value) (z : List Int) (v2 : Value) (z2 : List Int), e = .returned (.tuple #[v, v2]) ∧ (Sl w' w.heap.size w'.heap.size v z ∧ z.length ≤ 10001) ∧ (Sl w' w.heap.size w'.heap.size v2 z2 ∧ z2.length ≤ 10001) ∧ Below w.heap.size w w'
set_option maxHeartbeats 2000000 in
theorem drawAdd_any (a : Option Addr) (len cap : Nat) (zs : List Int) (w : World) (h : IsRow .u8 w a len cap zs) :
    Calls Try.prog 27 #[.slice a len cap] w (AddD w) := by
  go_enter Try.func27, Try.ntmps27
  go_wp2_with fail
  refine (open_any _ _ _ _ _ h).mono ?_
  rintro e w1 ⟨rfl, hr, hb⟩
  clear h
  have hg := hr.lt
  have hbs := hb.size
  have HB := Lib.hid hb
  clear hb
  go_wp2_with fail
  refine (l4Some_any _ _ _ 20 _ hr (by omega) (by omega)).mono ?_
  rintro e w2 ⟨v, z, rfl, ⟨hsl, hz⟩, hr2, hk2⟩
  have hs2 := hk2.size
  have HBAD := Lib.hid (l4Bad_any _ _ _ w1.heap.size v z _ hr2 (by omega) hsl hs2 (by omega) (by omega))
  have HK2 := Lib.hid hk2
  clear hr hr2 hsl hk2
  go_wp2_with fail
  refine HBAD.out.mono ?_
  rintro e w3 ⟨v', z', rfl, ⟨hsl3, hz3⟩, hr3, hk3⟩
  have HK3 := Lib.hid (hk3.keeps HK2.out (Nat.le_refl _))
  have HS3 := Lib.hid hsl3
  clear hsl3 hk3 HBAD HK2
  go_wp2_with fail
  refine (l4Some_any _ _ _ 20 _ hr3 (by omega) (by omega)).mono ?_
  rintro e w4 ⟨v4, z4, rfl, ⟨hsl4, hz4⟩, hr4, hk4⟩
  have hs4 := hk4.size
  have hs3 := HK3.out.size
  have HS4 := Lib.hid ((HS3.out.keeps hk4 (by omega)))
  have HK4 := Lib.hid (HK3.out.trans hk4)
  have HBAD := Lib.hid (l4Bad_any _ _ _ w3.heap.size v4 z4 _ hr4 (by omega) hsl4 hs4 (by omega) (by omega))
  clear hr3 hr4 hsl4 hk4 HS3 HK3
  go_wp2_with fail
  refine HBAD.out.mono ?_
  rintro e w5 ⟨v5, z5, rfl, ⟨hsl5, hz5⟩, hr5, hk5⟩
  have hs5 := hk5.size
  have HS5 : Hid (Sl w5 w1.heap.size w3.heap.size v' z') := Lib.hid (by
    rcases HS4.out.form with ⟨rfl, rfl⟩ | ⟨b, cap, rfl, ho, hlo, hhi⟩
    · exact Sl.nil _ _ _
    · refine Sl.of_own ?_ hhi
      obtain ⟨p1, p2⟩ := ho
      refine ⟨p1, ?_⟩
      rcases p2 with h2 | ⟨g', c', cur, h', hB, hh, r⟩
      · exact .inl h2
      · have : g' = b := by simp only [Value.slice.injEq, Option.some.injEq, Addr.mk.injEq, and_true, true_and] at h'; omega
        subst this
        exact .inr ⟨g', c', cur, h', hB, (hk5.other g' (by omega) hhi).trans hh, r⟩)
  have HF5 := Lib.hid (hsl5.mono (Nat.le_trans hbs hs3) (Nat.le_refl _))
  have HS6 := Lib.hid (HS5.out.mono hbs (Nat.le_trans hs4 hs5))
  have HBF := Lib.hid (HB.out.trans ((HK4.out.below.trans hk5.below).mono (by omega)))
  clear hsl5 hr5 hk5 HS4 HS5 HBAD HK4
  go_wp2
  go_ret2
  exact ⟨_, _, _, _, rfl, ⟨HS6.out, hz3⟩, ⟨HF5.out, hz5⟩, HBF.out⟩
theorem dotT_ad (a b : List Int) (l : List UInt8) (fr : Nat) : ∀ k, dotT (adL a b) l fr k = dotT a l fr k + dotT b l fr k
  | 0 => by simp [dotT]
  | k + 1 => by rw [dotT, dotT, dotT, dotT_ad a b l fr k, adL_getD, Int.add_mul]; omega
theorem dot_ad (a b : List Int) (l : List UInt8) (fr : Nat) : dot (adL a b) l fr = dot a l fr + dot b l fr := dotT_ad _ _ _ _ _
theorem chip_inv {c : UInt8} (h : bit c) : chip (inv1 c) = -chip c := by rcases h with rfl | rfl <;> rfl
theorem dotT_inv (z : List Int) {l : List UInt8} (h : ∀ j, j < l.length → bit (l.getD j 0)) (fr : Nat) : ∀ k, k ≤ l.length → dotT z (invL l) fr k = -dotT z l fr k
  | 0, _ => by simp [dotT]
  | k + 1, hk => by rw [dotT, dotT, dotT_inv z h fr k (by omega), invL_getD _ _ (by omega), chip_inv (h k (by omega)), Int.mul_neg]; omega
theorem dot_inv (z : List Int) {l : List UInt8} (h : ∀ j, j < l.length → bit (l.getD j 0)) (fr : Nat) : dot z (invL l) fr = -dot z l fr := by
  unfold dot
  rw [invL_len]
  exact dotT_inv z h fr _ (Nat.le_refl _)
end Go.Proofs.Ytiiiaeemblcniaa
