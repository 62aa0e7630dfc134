/- The walk of the law FnInterleave: bits are restored from their columns, and reading columns back is writing in as many rows as there were columns. -/
import Derived.Test.YtmfblphnedoejaaWk
import Derived.Test.YtmfblphnedoejaaWeave
import Derived.Test.YtmfblphnedoejaaDraw4
namespace Go.Proofs.Ytmfblphnedoejaa.fnInterleave
set_option maxRecDepth 20000
open Go.ChangeShapes Go.WideShapes Go.ChangeAt Go.RowKit
set_option linter.unusedVariables false
set_option linter.unusedSimpArgs false

theorem pos_left {r c k : Nat} (h : k < r * c) : 0 < r := by
  rcases Nat.eq_zero_or_pos r with h0 | h0
  · subst h0; simp at h
  · exact h0
theorem perm_inv {r c : Nat} {l : List UInt8} (h : l.length = r * c) : permL r c (permL c r l) = l := by
  apply ext_D
  · rw [permL_len, permL_len]
  · intro k hk
    rw [permL_len, permL_len] at hk
    have hr := pos_left (show k < r * c by omega)
    have h1 := pAt_lt hr (show k < r * c by omega)
    rw [permL_getD _ _ _ _ (by rw [permL_len]; exact hk), permL_getD _ _ _ _ (by omega), pAt_inv hr (by omega)]
theorem perm_ok {r c : Nat} {l : List UInt8} (h : l.length = r * c) (hb : bitsOK l = true) : bitsOK (permL r c l) = true :=
  bits_of_at (by rw [permL_len]; exact bits_le hb) (fun k hk => by
    rw [permL_len] at hk
    have h1 := pAt_lt (pos_left (show k < r * c by omega)) (show k < r * c by omega)
    rw [permL_getD _ _ _ _ hk]
    exact bitAt hb _ (by omega))
theorem rows_of {l : List UInt8} {r c : Nat} (hb : bitsOK l = true) (h1 : 1 ≤ r) (h4 : r ≤ 40) (h : l.length = r * c) : rowsOK l (r : Int) = true := by
  unfold rowsOK
  rw [hb, inB_yes (by omega) (by omega), h]
  simp
theorem inter_of {l : List UInt8} {r c : Nat} (hb : bitsOK l = true) (h1 : 1 ≤ r) (h4 : r ≤ 40) (h : l.length = r * c) : interL l (r : Int) = some (permL r c l) := by
  rw [inter_yes (rows_of hb h1 h4 h), Int.toNat_natCast, h, Nat.mul_div_cancel_left _ (by omega)]
theorem deinter_of {l : List UInt8} {r c : Nat} (hb : bitsOK l = true) (h1 : 1 ≤ r) (h4 : r ≤ 40) (h : l.length = r * c) : deinterL l (r : Int) = some (permL c r l) := by
  rw [deinter_yes (rows_of hb h1 h4 h), Int.toNat_natCast, h, Nat.mul_div_cancel_left _ (by omega)]

set_option maxHeartbeats 8000000 in
theorem walk (a0 : Option Addr) (len0 cap0 : Nat) (z0 : List Int) (w : World) (hw0 : IsRow .u8 w a0 len0 cap0 z0) :
    Calls Try.prog 3 #[.slice a0 len0 cap0] w fun e w' => e = .returned (.bool true) ∧ Below w.heap.size w w' := by
  by_cases hlen : len0 ≤ 1048576
  rotate_left
  · go_enter Try.func3, Try.ntmps3
    go_wp2
    go_ret
    exact ⟨rfl, Below.refl _ _⟩
  go_enter Try.func3, Try.ntmps3
  go_wp2_with fail
  refine (drawInter_any _ _ _ _ _ hw0).mono ?_
  rintro e w1 ⟨l, n, rfl, hl, hn1, hn2, hb⟩
  clear hw0
  have zl := str_size l
  have hm : (str l).size ≤ maxLen := by unfold maxLen; omega
  have hm2 : (str l).size ≤ 1048576 := by omega
  cases hR : rowsOK l n with
  | false =>
    have HI : Hid (∀ u : World, Calls Try.prog 16 #[.string (str l), .int .i64 n] u fun e w' => e = .returned (.tuple #[.string ⟨#[]⟩, .bool false]) ∧ Below u.heap.size u w') := fun u => by
      have hh := inI_any (str l) n u hm
      rw [str_list, inter_no hR] at hh
      exact hh
    have HS : Hid (∀ u : World, Calls Try.prog 17 #[.string (str l), .int .i64 n] u fun e w' => e = .returned (.tuple #[.string ⟨#[]⟩, .bool false]) ∧ Below u.heap.size u w') := fun u => by
      have hh := inS_any (str l) n u hm2
      rw [str_list, inter_no hR] at hh
      exact hh
    have DI : Hid (∀ u : World, Calls Try.prog 18 #[.string (str l), .int .i64 n] u fun e w' => e = .returned (.tuple #[.string ⟨#[]⟩, .bool false]) ∧ Below u.heap.size u w') := fun u => by
      have hh := deI_any (str l) n u hm
      rw [str_list, deinter_no hR] at hh
      exact hh
    have DS : Hid (∀ u : World, Calls Try.prog 19 #[.string (str l), .int .i64 n] u fun e w' => e = .returned (.tuple #[.string ⟨#[]⟩, .bool false]) ∧ Below u.heap.size u w') := fun u => by
      have hh := deS_any (str l) n u hm2
      rw [str_list, deinter_no hR] at hh
      exact hh
    clear hR
    go_wp2_with fail
    refine (HI.out _).mono ?_
    rintro e w2 ⟨rfl, k⟩
    replace hb := below_next hb k
    clear k
    (try clear hc hf)
    obtain ⟨hc, hf⟩ := bcell hb
    go_wp2_with fail
    refine (HS.out _).mono ?_
    rintro e w3 ⟨rfl, k⟩
    replace hb := below_next hb k
    clear k
    (try clear hc hf)
    obtain ⟨hc, hf⟩ := bcell hb
    go_wp2_with fail
    refine (DI.out _).mono ?_
    rintro e w4 ⟨rfl, k⟩
    replace hb := below_next hb k
    clear k
    (try clear hc hf)
    obtain ⟨hc, hf⟩ := bcell hb
    go_wp2_with fail
    refine (DS.out _).mono ?_
    rintro e w5 ⟨rfl, k⟩
    replace hb := below_next hb k
    clear k
    (try clear hc hf)
    obtain ⟨hc, hf⟩ := bcell hb
    go_wp2
    go_ret
    exact ⟨rfl, hb⟩
  | true =>
    obtain ⟨r, c, rfl, hbl, hr1, hr4, hrc⟩ : ∃ r c : Nat, n = (r : Int) ∧ bitsOK l = true ∧ 1 ≤ r ∧ r ≤ 40 ∧ l.length = r * c := by
      have h := rows_split (s := str l) (n := n) (by rw [str_list]; exact hR)
      rw [str_list] at h
      obtain ⟨hb, r, c, h1, h2, h3, h4, _, _⟩ := h
      exact ⟨r, c, h1, hb, h2, h3, by rw [← str_size]; exact h4⟩
    have hl6 := bits_le hbl
    have ei := inter_of hbl hr1 hr4 hrc
    have ed := deinter_of hbl hr1 hr4 hrc
    have hrc' : l.length = c * r := by rw [Nat.mul_comm]; exact hrc
    obtain ⟨S, hS⟩ : ∃ S, S = permL r c l := ⟨_, rfl⟩
    obtain ⟨T, hT⟩ : ∃ T, T = permL c r l := ⟨_, rfl⟩
    rw [← hS] at ei
    rw [← hT] at ed
    have hSl : S.length = l.length := by rw [hS, permL_len]
    have hTl : T.length = l.length := by rw [hT, permL_len]
    have hSb : bitsOK S = true := by rw [hS]; exact perm_ok hrc hbl
    have hTb : bitsOK T = true := by rw [hT]; exact perm_ok hrc' hbl
    have zS := str_size S
    have zT := str_size T
    rw [hSl] at zS
    rw [hTl] at zT
    have hmS : (str S).size ≤ maxLen := by unfold maxLen; omega
    have hmT : (str T).size ≤ maxLen := by unfold maxLen; omega
    have eb : deinterL S (r : Int) = some l := by rw [deinter_of hSb hr1 hr4 (hSl.trans hrc), hS, perm_inv hrc']
    have ef : interL T (r : Int) = some l := by rw [inter_of hTb hr1 hr4 (hTl.trans hrc), hT, perm_inv hrc]
    have HI : Hid (∀ u : World, Calls Try.prog 16 #[.string (str l), .int .i64 (r : Int)] u fun e w' => e = .returned (.tuple #[.string (str S), .bool true]) ∧ Below u.heap.size u w') := fun u => by
      have hh := inI_any (str l) r u hm
      rw [str_list, ei] at hh
      exact hh
    have HS : Hid (∀ u : World, Calls Try.prog 17 #[.string (str l), .int .i64 (r : Int)] u fun e w' => e = .returned (.tuple #[.string (str S), .bool true]) ∧ Below u.heap.size u w') := fun u => by
      have hh := inS_any (str l) r u hm2
      rw [str_list, ei] at hh
      exact hh
    have DI : Hid (∀ u : World, Calls Try.prog 18 #[.string (str l), .int .i64 (r : Int)] u fun e w' => e = .returned (.tuple #[.string (str T), .bool true]) ∧ Below u.heap.size u w') := fun u => by
      have hh := deI_any (str l) r u hm
      rw [str_list, ed] at hh
      exact hh
    have DS : Hid (∀ u : World, Calls Try.prog 19 #[.string (str l), .int .i64 (r : Int)] u fun e w' => e = .returned (.tuple #[.string (str T), .bool true]) ∧ Below u.heap.size u w') := fun u => by
      have hh := deS_any (str l) r u hm2
      rw [str_list, ed] at hh
      exact hh
    have DB : Hid (∀ u : World, Calls Try.prog 18 #[.string (str S), .int .i64 (r : Int)] u fun e w' => e = .returned (.tuple #[.string (str l), .bool true]) ∧ Below u.heap.size u w') := fun u => by
      have hh := deI_any (str S) r u hmS
      rw [str_list, eb] at hh
      exact hh
    have HF : Hid (∀ u : World, Calls Try.prog 16 #[.string (str T), .int .i64 (r : Int)] u fun e w' => e = .returned (.tuple #[.string (str l), .bool true]) ∧ Below u.heap.size u w') := fun u => by
      have hh := inI_any (str T) r u hmT
      rw [str_list, ef] at hh
      exact hh
    have hq : (l.length : Int) / (r : Int) = (c : Int) := by rw [hrc, Int.natCast_mul, Int.mul_ediv_cancel_left _ (by omega)]
    have HX : Hid (1 ≤ c → c ≤ 40 → ∀ u : World, Calls Try.prog 16 #[.string (str l), .int .i64 (c : Int)] u fun e w' => e = .returned (.tuple #[.string (str T), .bool true]) ∧ Below u.heap.size u w') := Lib.hid fun hc0 h4 u => by
      have hh := inI_any (str l) c u hm
      rw [str_list, inter_of hbl hc0 h4 hrc', ← hT] at hh
      exact hh
    have HSD : Hid (∀ k, k < l.length → S.getD k 0 = l.getD (k % r * c + k / r) 0) := Lib.hid fun k hk => by rw [hS, permL_getD _ _ _ _ hk]; rfl
    have HP : Hid (∀ k, k < l.length → _) := Lib.hid fun k hk => pAt_facts (r := r) (c := c) (k := k) hr1 hrc hk hl6
    have hc6 : c ≤ 600 := by
      have : 1 * c ≤ r * c := Nat.mul_le_mul_right c hr1
      omega
    clear ei ed eb ef hS hT hSb hTb hbl hR hrc hrc'
    go_wp2_with fail
    refine (HI.out _).mono ?_
    rintro e w2 ⟨rfl, k⟩
    replace hb := below_next hb k
    clear k
    (try clear hc hf)
    obtain ⟨hc, hf⟩ := bcell hb
    go_wp2_with fail
    refine (HS.out _).mono ?_
    rintro e w3 ⟨rfl, k⟩
    replace hb := below_next hb k
    clear k
    (try clear hc hf)
    obtain ⟨hc, hf⟩ := bcell hb
    go_wp2_with fail
    refine (DI.out _).mono ?_
    rintro e w4 ⟨rfl, k⟩
    replace hb := below_next hb k
    clear k
    (try clear hc hf)
    obtain ⟨hc, hf⟩ := bcell hb
    go_wp2_with fail
    refine (DS.out _).mono ?_
    rintro e w5 ⟨rfl, k⟩
    replace hb := below_next hb k
    clear k
    (try clear hc hf)
    obtain ⟨hc, hf⟩ := bcell hb
    go_wp2_with fail
    refine (DB.out _).mono ?_
    rintro e w6 ⟨rfl, k⟩
    replace hb := below_next hb k
    clear k
    (try clear hc hf)
    obtain ⟨hc, hf⟩ := bcell hb
    go_wp2_with fail
    refine (HF.out _).mono ?_
    rintro e w7 ⟨rfl, k⟩
    replace hb := below_next hb k
    clear k
    (try clear hc hf)
    obtain ⟨hc, hf⟩ := bcell hb
    clear hc hf
    go_wp2
    go_loopw [18] (fun i wr => ∃ k : Nat, i = .int .i64 (k : Int) ∧ k ≤ l.length ∧ Below w.heap.size w wr) (fun i _ => l.length - (intOf i).toNat)
    case atStart => exact ⟨0, rfl, Nat.zero_le _, hb⟩
    case round =>
      clear hb
      obtain ⟨k, rfl, hk, hb⟩ := hrel
      by_cases hlt : k < l.length
      · obtain ⟨p1, p2, p3, p4, p5, p6, p7⟩ := HP.out k hlt
        obtain ⟨x, hx⟩ : ∃ x : Nat, x = k % r * c + k / r := ⟨_, rfl⟩
        have hx1 : (k : Int) % (r : Int) * (c : Int) + (k : Int) / (r : Int) = (x : Int) := by rw [hx]; simp
        have g1 := str_get S k (by omega)
        rw [HSD.out k hlt, ← hx] at g1
        rw [← hx] at p4
        have g2 := str_get l x (by omega)
        generalize l.getD x 0 = d at g1 g2
        generalize hy1 : (k : Int) % (r : Int) * (c : Int) = y1 at *
        generalize hy2 : (k : Int) / (r : Int) = y2 at *
        clear hx
        go_wp2
        refine wp_region_still_lit (by kernel_rfl) (by kernel_rfl) ?_
        repeat (refine wpStill_step (fun K hK => ?_); (try go_simp); (try simp only [IntWalk.iteOmega]); (try go_ints); (try simp (disch := omega) only [dif_pos]); (try go_simp); refine hK _ ?_; clear hK K)
        refine wpStill_nil ?_
        go_wp2
        go_roundw
        case rel => exact ⟨k + 1, by go_num, by omega, hb.drew⟩
        case measure => simp [intOf]; omega
      · by_cases hc0 : 1 ≤ c
        · by_cases h4 : c ≤ 40
          · go_wp2_with fail
            refine (HX.out hc0 h4 _).mono ?_
            rintro e w8 ⟨rfl, k⟩
            replace hb := below_next hb k
            clear k
            (try clear hc hf)
            obtain ⟨hc, hf⟩ := bcell hb
            go_wp2
            go_ret
            exact ⟨rfl, hb⟩
          · go_wp2
            go_ret
            exact ⟨rfl, hb⟩
        · go_wp2
          go_ret
          exact ⟨rfl, hb⟩
end Go.Proofs.Ytmfblphnedoejaa.fnInterleave
