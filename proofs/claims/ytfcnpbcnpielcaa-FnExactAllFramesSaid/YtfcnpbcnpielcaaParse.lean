/- Contracts of ParseFrame on both sides. -/
import Derived.Test.YtfcnpbcnpielcaaFrame
namespace Go.Proofs.Ytfcnpbcnpielcaa
set_option maxRecDepth 20000
open Go.ChangeShapes Go.WideShapes Go.ChangeAt Go.RowKit
set_option linter.unusedVariables false
set_option linter.unusedSimpArgs false

def preL (r m : List UInt8) : Bool := decide (r.take m.length = m)
theorem str_inj {a b : List UInt8} (h : str a = str b) : a = b := by rw [← str_list a, ← str_list b, h]
theorem str_eqb (a b : List UInt8) : ((str a).toList == (str b).toList) = decide (a = b) := by
  rw [ByteArray.toList_eq, ByteArray.toList_eq, str_list, str_list]
  by_cases h : a = b
  · simp [h]
  · simp [h]
theorem str_neb (a b : List UInt8) : ((str a).toList != (str b).toList) = decide (a ≠ b) := by
  unfold bne
  rw [str_eqb, decide_not]
theorem preL_short {r m : List UInt8} (h : ¬ m.length ≤ r.length) : preL r m = false := by
  refine decide_eq_false fun e => ?_
  have := congrArg List.length e
  simp only [List.length_take] at this
  omega
theorem str_take (r : List UInt8) (k : Nat) : (str r).extract 0 k = str (r.take k) := by rw [str_ex]; rfl
theorem str_drop (r : List UInt8) (k n : Nat) (h : n = r.length) : (str r).extract k n = str (r.drop k) := by rw [str_ex, h, List.take_length]
theorem preA_any (r m : List UInt8) (w : World) (hr : r.length ≤ 100000) (hm : m.length ≤ 100000) :
    Calls Try.prog 44 #[.string (str r), .string (str m)] w fun e w' => e = .returned (.bool (preL r m)) ∧ w = w' := by
  have z1 := str_size r
  have z2 := str_size m
  by_cases h : m.length ≤ r.length
  · have e := str_take r m.length
    have e2 := str_eqb (r.take m.length) m
    go_enter Try.func44, Try.ntmps44
    go_wp2
    go_ret
    exact ⟨rfl, rfl⟩
  · rw [preL_short h]
    go_enter Try.func44, Try.ntmps44
    go_wp2
    go_ret
    exact ⟨rfl, rfl⟩
theorem pre_any (r m : List UInt8) (w : World) (hr : r.length ≤ 100000) (hm : m.length ≤ 100000) :
    Calls Try.prog 36 #[.string (str r), .string (str m)] w fun e w' => e = .returned (.bool (preL r m)) ∧ w = w' := by
  go_enter Try.func36, Try.ntmps36
  go_wp2_with fail
  refine (preA_any _ _ _ hr hm).mono ?_
  rintro e w' ⟨rfl, rfl⟩
  go_wp2
  go_ret
  exact ⟨rfl, rfl⟩
theorem cutA_yes (r m : List UInt8) (w : World) (hr : r.length ≤ 100000) (hm : m.length ≤ 100000) (h : preL r m = true) :
    Calls Try.prog 40 #[.string (str r), .string (str m)] w fun e w' => e = .returned (.tuple #[.string (str (r.drop m.length)), .bool true]) ∧ w = w' := by
  have hl : m.length ≤ r.length := by
    by_cases h' : m.length ≤ r.length
    · exact h'
    · rw [preL_short h'] at h; cases h
  have z1 := str_size r
  have z2 := str_size m
  have e := str_drop r m.length _ rfl
  go_enter Try.func40, Try.ntmps40
  go_wp2_with fail
  refine (preA_any _ _ _ hr hm).mono ?_
  rintro e w' ⟨rfl, rfl⟩
  rw [h]
  go_wp2
  go_ret2
  exact ⟨rfl, rfl⟩
theorem cutA_no (r m : List UInt8) (w : World) (hr : r.length ≤ 100000) (hm : m.length ≤ 100000) (h : preL r m = false) :
    Calls Try.prog 40 #[.string (str r), .string (str m)] w fun e w' => e = .returned (.tuple #[.string (str r), .bool false]) ∧ w = w' := by
  go_enter Try.func40, Try.ntmps40
  go_wp2_with fail
  refine (preA_any _ _ _ hr hm).mono ?_
  rintro e w' ⟨rfl, rfl⟩
  rw [h]
  go_wp2
  go_ret2
  exact ⟨rfl, rfl⟩
theorem cut_yes (r m : List UInt8) (w : World) (hr : r.length ≤ 100000) (hm : m.length ≤ 100000) (h : preL r m = true) :
    Calls Try.prog 34 #[.string (str r), .string (str m)] w fun e w' => e = .returned (.tuple #[.string (str (r.drop m.length)), .bool true]) ∧ w = w' := by
  go_enter Try.func34, Try.ntmps34
  go_wp2_with fail
  refine (cutA_yes _ _ _ hr hm h).mono ?_
  rintro e w' ⟨rfl, rfl⟩
  go_wp2
  go_ret2
  exact ⟨rfl, rfl⟩
theorem cut_no (r m : List UInt8) (w : World) (hr : r.length ≤ 100000) (hm : m.length ≤ 100000) (h : preL r m = false) :
    Calls Try.prog 34 #[.string (str r), .string (str m)] w fun e w' => e = .returned (.tuple #[.string (str r), .bool false]) ∧ w = w' := by
  go_enter Try.func34, Try.ntmps34
  go_wp2_with fail
  refine (cutA_no _ _ _ hr hm h).mono ?_
  rintro e w' ⟨rfl, rfl⟩
  go_wp2
  go_ret2
  exact ⟨rfl, rfl⟩
/-- the number with the binary digits at b, b + 1, .. -/
def numTo (l : List UInt8) (b : Nat) : Nat → Nat
  | 0 => 0
  | k + 1 => 2 * numTo l b k + (if l.getD (b + k) 0 = 49 then 1 else 0)
theorem numTo_lt (l : List UInt8) (b k : Nat) : numTo l b k < 2 ^ k := by
  induction k with
  | zero => simp [numTo]
  | succ k ih => simp only [numTo, Nat.pow_succ]; split <;> omega
theorem numTo_lt7 (l : List UInt8) (b k : Nat) (h : k ≤ 7) : numTo l b k < 128 := by
  have h1 := numTo_lt l b k
  have h2 : 2 ^ k ≤ 2 ^ 7 := Nat.pow_le_pow_right (by omega) h
  omega
theorem numTo_congr {l l' : List UInt8} {b b' : Nat} (k : Nat) (h : ∀ j, j < k → l.getD (b + j) 0 = l'.getD (b' + j) 0) : numTo l b k = numTo l' b' k := by
  induction k with
  | zero => rfl
  | succ k ih => simp only [numTo]; rw [ih fun j hj => h j (by omega), h k (by omega)]
def cutQ (l : List UInt8) (k n : Nat) : List UInt8 := (l.drop k).take n
theorem cutQ_len {l : List UInt8} {k n : Nat} (h : k + n ≤ l.length) : (cutQ l k n).length = n := by simp [cutQ]; omega
theorem cutQ_bits {l : List UInt8} (h : bitsOK l = true) (k n : Nat) : bitsOK (cutQ l k n) = true := by
  have h1 := bits_all h
  have h2 := bits_le h
  refine bitsOK_mk (by simp [cutQ]; omega) fun c hc => ?_
  rw [List.all_eq_true] at h1
  exact h1 c (List.mem_of_mem_drop (List.mem_of_mem_take hc))
theorem cutQ_getD (l : List UInt8) (k n j : Nat) (h : j < n) : (cutQ l k n).getD j 0 = l.getD (k + j) 0 := by
  simp [cutQ, List.getD_eq_getElem?_getD, List.getElem?_take, h]
theorem numTo_cut (l : List UInt8) (b : Nat) : numTo (cutQ l b 7) 0 7 = numTo l b 7 := numTo_congr 7 fun j hj => by rw [Nat.zero_add, cutQ_getD _ _ _ _ hj]
theorem numTo_drop (l : List UInt8) (b k : Nat) : numTo (l.drop b) 0 k = numTo l b k := numTo_congr k fun j hj => by simp [List.getD_eq_getElem?_getD]
theorem ex_cutQ (l : List UInt8) (k n j : Nat) (h : j = k + n) : (str l).extract k j = str (cutQ l k n) := by
  rw [str_ex, h, cutQ, List.drop_take, Nat.add_sub_cancel_left]
/-- what ParseFrame finds at a -/
def parseL (l : List UInt8) (a : Nat) : Option (List UInt8 × Nat) :=
  if l.length < a + 23 then none
  else if 100 < numTo l (a + 8) 7 ∨ l.length < a + 23 + numTo l (a + 8) 7 then none
  else if frameL (cutQ l (a + 15) (numTo l (a + 8) 7)) = cutQ l a (23 + numTo l (a + 8) 7) then some (cutQ l (a + 15) (numTo l (a + 8) 7), a + 23 + numTo l (a + 8) 7)
  else none
def parse (l : List UInt8) (at_ : Int) : Option (List UInt8 × Nat) := if bitsOK l && decide (0 ≤ at_) && decide (at_ ≤ l.length) then parseL l at_.toNat else none
def parRes (o : Option (List UInt8 × Nat)) : Value := match o with
  | none => .tuple #[.string ⟨#[]⟩, .int .i64 0, .bool false]
  | some (p, k) => .tuple #[.string (str p), .int .i64 (k : Int), .bool true]
theorem parRes_form (o : Option (List UInt8 × Nat)) : ∃ x n b, parRes o = .tuple #[.string x, .int .i64 n, .bool b] := by
  rcases o with _ | ⟨p, k⟩ <;> exact ⟨_, _, _, rfl⟩
theorem ret_par {p : List UInt8} {k : Nat} {n : Int} (h : n = (k : Int)) : Ending.returned (.tuple #[.string (str p), .int .i64 n, .bool true]) = .returned (parRes (some (p, k))) := by rw [h]; rfl
theorem parse_no {l : List UInt8} {at_ : Int} (h : ¬ (bitsOK l = true ∧ 0 ≤ at_ ∧ at_ ≤ l.length)) : parse l at_ = none := by
  unfold parse
  rw [if_neg]
  simp only [Bool.and_eq_true, decide_eq_true_eq, and_assoc]
  exact h
theorem parse_yes {l : List UInt8} (a : Nat) (hb : bitsOK l = true) (h : a ≤ l.length) : parse l (a : Int) = parseL l a := by
  unfold parse
  rw [if_pos, Int.toNat_natCast]
  simp [hb, h]
theorem parseL_1 {l : List UInt8} {a : Nat} (h : l.length < a + 23) : parseL l a = none := by unfold parseL; rw [if_pos h]
theorem parseL_2 {l : List UInt8} {a : Nat} (h : 100 < numTo l (a + 8) 7 ∨ l.length < a + 23 + numTo l (a + 8) 7) : parseL l a = none := by
  unfold parseL; rw [if_pos h]; split <;> rfl
theorem parseL_3 {l : List UInt8} {a : Nat} (h : ¬ frameL (cutQ l (a + 15) (numTo l (a + 8) 7)) = cutQ l a (23 + numTo l (a + 8) 7)) : parseL l a = none := by
  unfold parseL; rw [if_neg h]; split; rfl; split <;> rfl
theorem parseL_4 {l : List UInt8} {a : Nat} (h1 : ¬ 100 < numTo l (a + 8) 7) (h2 : ¬ l.length < a + 23 + numTo l (a + 8) 7) (h : frameL (cutQ l (a + 15) (numTo l (a + 8) 7)) = cutQ l a (23 + numTo l (a + 8) 7)) :
    parseL l a = some (cutQ l (a + 15) (numTo l (a + 8) 7), a + 23 + numTo l (a + 8) 7) := by
  unfold parseL; rw [if_neg (by omega), if_neg (by omega), if_pos h]
theorem bits_get {l : List UInt8} (h : bitsOK l = true) (k : Nat) (hk : k < l.length) : bit (l.getD k 0) := by
  have h1 := bits_all h
  rw [List.all_eq_true] at h1
  rw [List.getD_eq_getElem?_getD, List.getElem?_eq_getElem hk, Option.getD_some]
  have := h1 _ (List.getElem_mem hk)
  simpa [bit1, bit] using this
theorem numS_any (x : List UInt8) (w : World) (h : x.length ≤ 7) (hb : ∀ k, k < x.length → bit (x.getD k 0)) :
    Calls Try.prog 31 #[.string (str x)] w fun e w' => e = .returned (.int .i64 (numTo x 0 x.length)) ∧ w = w' := by
  have z1 := str_size x
  have HB := Lib.hid hb
  clear hb
  go_enter Try.func31, Try.ntmps31
  go_wp2
  go_loop [3, 4] (fun n i => ∃ k : Nat, k ≤ x.length ∧ i = .int .i64 k ∧ n = .int .i64 (numTo x 0 k)) (fun _ i => x.length - (intOf i).toNat)
  case atStart => exact ⟨0, Nat.zero_le _, rfl, rfl⟩
  case round =>
    obtain ⟨k, hk, rfl, rfl⟩ := hrel
    have hx := numTo_lt7 x 0 k (by omega)
    by_cases hlt : k < x.length
    · have hg := str_get x k (by rw [z1]; exact hlt)
      have hv : ∃ b : Nat, b ≤ 1 ∧ (((x.getD k 0).toNat : Nat) : Int) = 48 + b ∧ numTo x 0 (k + 1) = 2 * numTo x 0 k + b := by
        simp only [numTo, Nat.zero_add]
        rcases HB.out k hlt with h | h <;> rw [h]
        · exact ⟨0, by omega, rfl, rfl⟩
        · exact ⟨1, by omega, rfl, rfl⟩
      obtain ⟨b, hb1, hb2, hb3⟩ := hv
      have HN := Lib.hid hb3
      generalize x.getD k 0 = c at *
      generalize numTo x 0 k = q at *
      clear hb3
      go_wp2
      go_round
      case rel => exact ⟨k + 1, by omega, by go_num, by rw [HN.out]; go_num⟩
      case measure => simp [intOf]; omega
    · obtain rfl : k = x.length := by omega
      go_wp2
      go_ret
      exact ⟨rfl, rfl⟩
theorem numS_cut (l : List UInt8) (b : Nat) (w : World) (hb : bitsOK l = true) (h : b + 7 ≤ l.length) :
    Calls Try.prog 31 #[.string (str (cutQ l b 7))] w fun e w' => e = .returned (.int .i64 (numTo l b 7)) ∧ w = w' := by
  have e := cutQ_len (l := l) (k := b) (n := 7) h
  have := numS_any (cutQ l b 7) w (by omega) (fun k hk => bits_get (cutQ_bits hb _ _) k hk)
  rw [e, numTo_cut] at this
  exact this
theorem l1Bits_yes (l : List UInt8) (w : World) (hb : bitsOK l = true) : Calls Try.prog 30 #[.string (str l)] w fun e w' => e = .returned (.bool true) ∧ w = w' := by
  have h6 := bits_le hb
  have := l1Bits_any (str l) w (by rw [str_size]; unfold maxLen; omega)
  rw [str_list, hb] at this
  exact this
set_option maxHeartbeats 1000000 in
theorem parseS_in (l : List UInt8) (a : Nat) (w : World) (hb : bitsOK l = true) (ha : a ≤ l.length) :
    Calls Try.prog 24 #[.string (str l), .int .i64 (a : Int)] w fun e w' => e = .returned (parRes (parseL l a)) ∧ Below w.heap.size w w' := by
  have z0 := str_size l
  have h6 := bits_le hb
  have HL := Lib.hid (fun u : World => l1Bits_yes l u hb)
  by_cases h23 : l.length < a + 23
  · rw [parseL_1 h23]
    go_enter Try.func24, Try.ntmps24
    go_wp2_with fail
    refine (HL.out _).mono ?_
    rintro e w' ⟨rfl, rfl⟩
    go_wp2
    go_ret3
    exact ⟨rfl, Below.refl _ _⟩
  · have q1 := ex_cutQ l (a + 8) 7 (a + 15) rfl
    have HN := Lib.hid (fun u : World => numS_cut l (a + 8) u hb (by omega))
    have hn := numTo_lt7 l (a + 8) 7 (by omega)
    obtain ⟨n, en⟩ : ∃ n, n = numTo l (a + 8) 7 := ⟨_, rfl⟩
    have P2 := Lib.hid (@parseL_2 l a)
    have P3 := Lib.hid (@parseL_3 l a)
    have P4 := Lib.hid (@parseL_4 l a)
    rw [← en] at HN hn P2 P3 P4
    clear en
    by_cases h100 : 100 < n
    · rw [P2.out (.inl h100)]
      go_enter Try.func24, Try.ntmps24
      go_wp2_with fail
      refine (HL.out _).mono ?_
      rintro e w' ⟨rfl, rfl⟩
      go_wp2_with fail
      refine (HN.out _).mono ?_
      rintro e w' ⟨rfl, rfl⟩
      go_wp2
      go_ret3
      exact ⟨rfl, Below.refl _ _⟩
    · by_cases hlen : l.length < a + 23 + n
      · rw [P2.out (.inr hlen)]
        go_enter Try.func24, Try.ntmps24
        go_wp2_with fail
        refine (HL.out _).mono ?_
        rintro e w' ⟨rfl, rfl⟩
        go_wp2_with fail
        refine (HN.out _).mono ?_
        rintro e w' ⟨rfl, rfl⟩
        go_wp2
        go_ret3
        exact ⟨rfl, Below.refl _ _⟩
      · have q2 := ex_cutQ l (a + 15) n (a + 15 + n) rfl
        have q3 := ex_cutQ l a (23 + n) (a + 23 + n) (by omega)
        have q4 : ((a : Int) + 23 + (n : Int)).toNat = a + 23 + n := by omega
        have q5 := str_eqb (frameL (cutQ l (a + 15) n)) (cutQ l a (23 + n))
        have q6 : (0 : Int) ≤ (a : Int) + 23 + (n : Int) := by omega
        have q7 : (a : Int) + 23 + (n : Int) ≤ (l.length : Int) := by omega
        have q8 : (a : Int) ≤ (a : Int) + 23 + (n : Int) := by omega
        have y1 : IntKind.i64.wrap ((a : Int) + 23) = (a : Int) + 23 := IntWalk.i64_in _ (by omega)
        have y2 : IntKind.i64.wrap ((a : Int) + 23 + (n : Int)) = (a : Int) + 23 + (n : Int) := IntWalk.i64_in _ (by omega)
        have HF := Lib.hid (fun u : World => l6Frame_any (cutQ l (a + 15) n) u (pay_mk (cutQ_bits hb _ _) (by rw [cutQ_len (by omega)]; omega)))
        by_cases hfr : frameL (cutQ l (a + 15) n) = cutQ l a (23 + n)
        · rw [P4.out h100 hlen hfr]
          rw [decide_eq_true hfr] at q5
          clear hfr
          go_enter Try.func24, Try.ntmps24
          go_wp2_with fail
          refine (HL.out _).mono ?_
          rintro e w' ⟨rfl, rfl⟩
          go_wp2_with fail
          refine (HN.out _).mono ?_
          rintro e w' ⟨rfl, rfl⟩
          go_wp2_with fail
          go_region_held3 (fun _ => True) (trivial) (first | (go_at_call 32; refine (HF.out _).mono ?_; rintro e w' ⟨rfl, hb2⟩))
          all_goals
            clear y1 y2
            go_wp2
            go_ret3
            exact ⟨by rfl, (Below.refl _ _).drew.trans hb2⟩
        · rw [P3.out hfr]
          rw [decide_eq_false hfr] at q5
          clear hfr
          go_enter Try.func24, Try.ntmps24
          go_wp2_with fail
          refine (HL.out _).mono ?_
          rintro e w' ⟨rfl, rfl⟩
          go_wp2_with fail
          refine (HN.out _).mono ?_
          rintro e w' ⟨rfl, rfl⟩
          go_wp2_with fail
          go_region_held3 (fun _ => True) (trivial) (first | (go_at_call 32; refine (HF.out _).mono ?_; rintro e w' ⟨rfl, hb2⟩))
          all_goals
            clear y1 y2
            go_wp2
            go_ret3
            exact ⟨by rfl, (Below.refl _ _).drew.trans hb2⟩
theorem parseS_any (l : List UInt8) (at_ : Int) (w : World) (hl : l.length ≤ 2000000) (h1 : -9223372036854775808 ≤ at_) (h2 : at_ ≤ 9223372036854775807) :
    Calls Try.prog 24 #[.string (str l), .int .i64 at_] w fun e w' => e = .returned (parRes (parse l at_)) ∧ Below w.heap.size w w' := by
  have z0 := str_size l
  have hm : (str l).size ≤ maxLen := by rw [str_size]; unfold maxLen; omega
  have HL := Lib.hid (fun u : World => (l1Bits_any (str l) u hm : Calls Try.prog 30 #[.string (str l)] u fun e w' => e = .returned (.bool (bitsOK (str l).data.toList)) ∧ u = w'))
  rw [str_list] at HL
  cases hb : bitsOK l
  · rw [parse_no (by rw [hb]; simp)]
    rw [hb] at HL
    go_enter Try.func24, Try.ntmps24
    go_wp2_with fail
    refine (HL.out _).mono ?_
    rintro e w' ⟨rfl, rfl⟩
    go_wp2
    go_ret3
    exact ⟨rfl, Below.refl _ _⟩
  · rw [hb] at HL
    by_cases h0 : 0 ≤ at_ ∧ at_ ≤ l.length
    · obtain ⟨a, rfl⟩ : ∃ a : Nat, at_ = (a : Int) := ⟨at_.toNat, by omega⟩
      rw [parse_yes a hb (by omega)]
      exact parseS_in l a w hb (by omega)
    · rw [parse_no (by rw [hb]; simp; omega)]
      by_cases h3 : at_ < 0
      · go_enter Try.func24, Try.ntmps24
        go_wp2_with fail
        refine (HL.out _).mono ?_
        rintro e w' ⟨rfl, rfl⟩
        go_wp2
        go_ret3
        exact ⟨rfl, Below.refl _ _⟩
      · go_enter Try.func24, Try.ntmps24
        go_wp2_with fail
        refine (HL.out _).mono ?_
        rintro e w' ⟨rfl, rfl⟩
        go_wp2
        go_ret3
        exact ⟨rfl, Below.refl _ _⟩
theorem parseS_arr (s : ByteArray) (at_ : Int) (w : World) (hl : s.size ≤ 2000000) (h1 : -9223372036854775808 ≤ at_) (h2 : at_ ≤ 9223372036854775807) :
    Calls Try.prog 24 #[.string s, .int .i64 at_] w fun e w' => e = .returned (parRes (parse s.data.toList at_)) ∧ Below w.heap.size w w' := by
  have := parseS_any s.data.toList at_ w (by rw [data_length]; exact hl) h1 h2
  rw [str_of] at this
  exact this
theorem parseL_pre {l : List UInt8} {a : Nat} (h : preL (l.drop a) mark8 = false) : parseL l a = none := by
  refine parseL_3 fun e => ?_
  have e2 := congrArg (List.take 8) e
  have e3 : (frameL (cutQ l (a + 15) (numTo l (a + 8) 7))).take 8 = mark8 := by unfold frameL; rw [List.append_assoc, List.take_append_of_le_length (by simp [mark8])]; rfl
  rw [e3, cutQ, List.take_take, Nat.min_eq_left (by omega)] at e2
  unfold preL at h
  simp only [decide_eq_false_iff_not] at h
  exact h e2.symm
theorem drop8 (l : List UInt8) (a : Nat) : (l.drop a).drop mark8.length = l.drop (a + 8) := by rw [List.drop_drop]; rfl
theorem cutQ_drop (l : List UInt8) (a b n : Nat) : cutQ (l.drop a) b n = cutQ l (a + b) n := by unfold cutQ; rw [List.drop_drop]
theorem preL_frame {l : List UInt8} {a n : Nat} (hn : (cutQ l (a + 15) n).length = n) : preL (l.drop a) (frameL (cutQ l (a + 15) n)) = decide (frameL (cutQ l (a + 15) n) = cutQ l a (23 + n)) := by
  unfold preL
  rw [frame_len, hn, Nat.add_comm n 23]
  exact decide_eq_decide.2 ⟨fun h => h.symm, fun h => h.symm⟩
theorem isBits_yes (l : List UInt8) (w : World) (hb : bitsOK l = true) : Calls Try.prog 33 #[.string (str l)] w fun e w' => e = .returned (.bool true) ∧ w = w' := by
  have h6 := bits_le hb
  have := isBits_any (str l) w (by rw [str_size]; unfold maxLen; omega)
  rw [str_list, hb] at this
  exact this
set_option maxHeartbeats 2000000 in
theorem parseI_in (l : List UInt8) (a : Nat) (w : World) (hb : bitsOK l = true) (ha : a ≤ l.length) :
    Calls Try.prog 26 #[.string (str l), .int .i64 (a : Int)] w fun e w' => e = .returned (parRes (parseL l a)) ∧ Below w.heap.size w w' := by
  have z0 := str_size l
  have h6 := bits_le hb
  have HL := Lib.hid (fun u : World => isBits_yes l u hb)
  have q0 := str_drop l a _ rfl
  cases hp : preL (l.drop a) mark8
  · rw [parseL_pre hp]
    have HC := Lib.hid (fun u : World => (cut_no (l.drop a) mark8 u (by simp; omega) (by simp [mark8]) hp : Calls Try.prog 34 #[.string (str (l.drop a)), .string ⟨#[49, 49, 49, 48, 49, 48, 48, 48]⟩] u fun e w' => e = .returned (.tuple #[.string (str (l.drop a)), .bool false]) ∧ u = w'))
    go_enter Try.func26, Try.ntmps26
    go_wp2_with fail
    refine (HL.out _).mono ?_
    rintro e w' ⟨rfl, rfl⟩
    go_wp2_with fail
    refine (HC.out _).mono ?_
    rintro e w' ⟨rfl, rfl⟩
    go_wp2
    go_ret3
    exact ⟨rfl, Below.refl _ _⟩
  · have HC := Lib.hid (fun u : World => (drop8 l a ▸ cut_yes (l.drop a) mark8 u (by simp; omega) (by simp [mark8]) hp : Calls Try.prog 34 #[.string (str (l.drop a)), .string ⟨#[49, 49, 49, 48, 49, 48, 48, 48]⟩] u fun e w' => e = .returned (.tuple #[.string (str (l.drop (a + 8))), .bool true]) ∧ u = w'))
    have zr : (str (l.drop (a + 8))).size = l.length - (a + 8) := by rw [str_size, List.length_drop]
    by_cases h7 : l.length < a + 15
    · rw [parseL_1 (by omega)]
      go_enter Try.func26, Try.ntmps26
      go_wp2_with fail
      refine (HL.out _).mono ?_
      rintro e w' ⟨rfl, rfl⟩
      go_wp2_with fail
      refine (HC.out _).mono ?_
      rintro e w' ⟨rfl, rfl⟩
      go_wp2
      go_ret3
      exact ⟨rfl, Below.refl _ _⟩
    · obtain ⟨m, em⟩ : ∃ m, m = l.length - (a + 8) := ⟨_, rfl⟩
      rw [← em] at zr
      have hm : m + (a + 8) = l.length := by omega
      clear em
      go_enter Try.func26, Try.ntmps26
      go_wp2_with fail
      refine (HL.out _).mono ?_
      rintro e w' ⟨rfl, rfl⟩
      go_wp2_with fail
      refine (HC.out _).mono ?_
      rintro e w' ⟨rfl, rfl⟩
      go_wp2
      go_loop [9, 10, 40] (fun n _ i => ∃ k : Nat, k ≤ 7 ∧ i = .int .i64 k ∧ n = .int .i64 (numTo l (a + 8) k)) (fun _ _ i => 7 - (intOf i).toNat)
      case atStart => exact ⟨0, Nat.zero_le _, rfl, rfl⟩
      case round =>
        obtain ⟨k, hk, rfl, rfl⟩ := hrel
        have hx := numTo_lt7 l (a + 8) k (by omega)
        by_cases hlt : k < 7
        · have hg := str_get (l.drop (a + 8)) k (by omega)
          have hv : ∃ b : Nat, b ≤ 1 ∧ ((((l.drop (a + 8)).getD k 0).toNat : Nat) : Int) = 48 + b ∧ numTo l (a + 8) (k + 1) = 2 * numTo l (a + 8) k + b := by
            have e : (l.drop (a + 8)).getD k 0 = l.getD (a + 8 + k) 0 := by simp [List.getD_eq_getElem?_getD]
            simp only [numTo, e]
            rcases bits_get hb (a + 8 + k) (by omega) with h | h <;> rw [h]
            · exact ⟨0, by omega, rfl, rfl⟩
            · exact ⟨1, by omega, rfl, rfl⟩
          obtain ⟨b, hb1, hb2, hb3⟩ := hv
          have HN := Lib.hid hb3
          generalize (l.drop (a + 8)).getD k 0 = c at *
          generalize numTo l (a + 8) k = q at *
          clear hb3
          go_wp2
          go_round
          case rel => exact ⟨k + 1, by omega, by go_num, by rw [HN.out]; go_num⟩
          case measure => simp [intOf]; omega
        · obtain rfl : k = 7 := by omega
          obtain ⟨n, en⟩ : ∃ n, n = numTo l (a + 8) 7 := ⟨_, rfl⟩
          have P2 := Lib.hid (@parseL_2 l a)
          have P3 := Lib.hid (@parseL_3 l a)
          have P4 := Lib.hid (@parseL_4 l a)
          rw [← en] at hx P2 P3 P4 ⊢
          clear en
          by_cases hlen : m < 7 + n
          · have EP := Lib.hid (P2.out (.inr (by omega)))
            go_wp2
            go_ret3
            exact ⟨by rw [EP.out]; rfl, Below.refl _ _⟩
          · have q2 : (str (l.drop (a + 8))).extract 7 (7 + n) = str (cutQ l (a + 15) n) := by rw [ex_cutQ _ 7 n _ rfl, cutQ_drop]
            have hcl : (cutQ l (a + 15) n).length = n := cutQ_len (by omega)
            by_cases h100 : 100 < n
            · have EP := Lib.hid (P2.out (.inl h100))
              have HF := Lib.hid (fun u : World => frameI_any (str (cutQ l (a + 15) n)) u (by rw [str_size, hcl]; unfold maxLen; omega))
              rw [str_list, frameOf_no (by unfold payOK; rw [hcl]; simp; omega)] at HF
              unfold strRes at HF
              go_wp2_with fail
              refine (HF.out _).mono ?_
              rintro e w1 ⟨rfl, hbw⟩
              go_wp2
              go_ret3
              exact ⟨by rw [EP.out]; rfl, hbw⟩
            · have HF := Lib.hid (fun u : World => frameI_yes (cutQ l (a + 15) n) u (pay_mk (cutQ_bits hb _ _) (by omega)))
              have HP := Lib.hid (fun u : World => pre_any (l.drop a) (frameL (cutQ l (a + 15) n)) u (by simp; omega) (by rw [frame_len, hcl]; omega))
              rw [preL_frame hcl] at HP
              have zf : (str (frameL (cutQ l (a + 15) n))).size = n + 23 := by rw [str_size, frame_len, hcl]
              by_cases hfr : frameL (cutQ l (a + 15) n) = cutQ l a (23 + n)
              · rw [decide_eq_true hfr] at HP
                have hle : ¬ l.length < a + 23 + n := by
                  have := congrArg List.length hfr
                  rw [frame_len, hcl] at this
                  simp only [cutQ, List.length_take, List.length_drop] at this
                  omega
                have EP := Lib.hid (P4.out h100 hle hfr)
                clear hfr
                go_wp2_with fail
                refine (HF.out _).mono ?_
                rintro e w1 ⟨rfl, hbw⟩
                go_wp2_with fail
                refine (HP.out _).mono ?_
                rintro e w' ⟨rfl, rfl⟩
                go_wp2
                go_ret3
                exact ⟨by rw [EP.out]; exact ret_par (by omega), hbw⟩
              · rw [decide_eq_false hfr] at HP
                have EP := Lib.hid (P3.out hfr)
                clear hfr
                go_wp2_with fail
                refine (HF.out _).mono ?_
                rintro e w1 ⟨rfl, hbw⟩
                go_wp2_with fail
                refine (HP.out _).mono ?_
                rintro e w' ⟨rfl, rfl⟩
                go_wp2
                go_ret3
                exact ⟨by rw [EP.out]; rfl, hbw⟩
theorem parseI_any (l : List UInt8) (at_ : Int) (w : World) (hl : l.length ≤ 2000000) (h1 : -9223372036854775808 ≤ at_) (h2 : at_ ≤ 9223372036854775807) :
    Calls Try.prog 26 #[.string (str l), .int .i64 at_] w fun e w' => e = .returned (parRes (parse l at_)) ∧ Below w.heap.size w w' := by
  have z0 := str_size l
  have hm : (str l).size ≤ maxLen := by rw [str_size]; unfold maxLen; omega
  have HL := Lib.hid (fun u : World => (isBits_any (str l) u hm : Calls Try.prog 33 #[.string (str l)] u fun e w' => e = .returned (.bool (bitsOK (str l).data.toList)) ∧ u = w'))
  rw [str_list] at HL
  cases hb : bitsOK l
  · rw [parse_no (by rw [hb]; simp)]
    rw [hb] at HL
    go_enter Try.func26, Try.ntmps26
    go_wp2_with fail
    refine (HL.out _).mono ?_
    rintro e w' ⟨rfl, rfl⟩
    go_wp2
    go_ret3
    exact ⟨rfl, Below.refl _ _⟩
  · rw [hb] at HL
    by_cases h0 : 0 ≤ at_ ∧ at_ ≤ l.length
    · obtain ⟨a, rfl⟩ : ∃ a : Nat, at_ = (a : Int) := ⟨at_.toNat, by omega⟩
      rw [parse_yes a hb (by omega)]
      exact parseI_in l a w hb (by omega)
    · rw [parse_no (by rw [hb]; simp; omega)]
      by_cases h3 : at_ < 0
      · go_enter Try.func26, Try.ntmps26
        go_wp2_with fail
        refine (HL.out _).mono ?_
        rintro e w' ⟨rfl, rfl⟩
        go_wp2
        go_ret3
        exact ⟨rfl, Below.refl _ _⟩
      · go_enter Try.func26, Try.ntmps26
        go_wp2_with fail
        refine (HL.out _).mono ?_
        rintro e w' ⟨rfl, rfl⟩
        go_wp2
        go_ret3
        exact ⟨rfl, Below.refl _ _⟩
theorem parseI_arr (s : ByteArray) (at_ : Int) (w : World) (hl : s.size ≤ 2000000) (h1 : -9223372036854775808 ≤ at_) (h2 : at_ ≤ 9223372036854775807) :
    Calls Try.prog 26 #[.string s, .int .i64 at_] w fun e w' => e = .returned (parRes (parse s.data.toList at_)) ∧ Below w.heap.size w w' := by
  have := parseI_any s.data.toList at_ w (by rw [data_length]; exact hl) h1 h2
  rw [str_of] at this
  exact this
end Go.Proofs.Ytfcnpbcnpielcaa
