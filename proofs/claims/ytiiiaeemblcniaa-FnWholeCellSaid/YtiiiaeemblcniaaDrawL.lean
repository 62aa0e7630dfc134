/- Weak contract of the function that draws a list of users. -/
import Derived.Test.YtiiiaeemblcniaaDrawU
namespace Go.Proofs.Ytiiiaeemblcniaa
set_option maxRecDepth 20000
open Go.ChangeShapes Go.WideShapes Go.ChangeAt Go.RowKit
set_option linter.unusedVariables false
set_option linter.unusedSimpArgs false

theorem info_user : (Try.prog.info? 45).map (fun i => (i.zero, i.size, i.bytes)) = some (some (.agg #[.string ⟨#[]⟩, .string ⟨#[]⟩, .int .i64 0, .int .i64 0]), 4, 48) := by kernel_rfl
/-- a row of elements of four cells that the walk made itself -/
def Own4 (w : World) (B : Nat) (e : TypeId) (g n cap : Nat) (xs : List Value) : Prop := w.ownsRow B e 4 (.slice (some ⟨g, 0, none⟩) n cap) n xs
theorem Own4.lt {w : World} {B : Nat} {e : TypeId} {g n cap : Nat} {xs : List Value} (h : Own4 w B e g n cap xs) : B ≤ g ∧ g < w.heap.size := World.ownsRow.lt h g rfl
theorem Own4.alloc {w : World} {B : Nat} {e : TypeId} {g n cap : Nat} {xs : List Value} (h : Own4 w B e g n cap xs) (o : Obj) : Own4 (w.alloc o) B e g n cap xs := World.ownsRow.alloc h o
theorem Own4.block {w w' : World} {B : Nat} {e : TypeId} {g n cap : Nat} {xs : List Value} (h : Own4 w B e g n cap xs) (hb : w'.heap[g]? = w.heap[g]?) : Own4 w' B e g n cap xs := by
  obtain ⟨h1, h2⟩ := h
  refine ⟨h1, .inr ?_⟩
  rcases h2 with ⟨h2, _⟩ | ⟨g', c', cur, h', hB, hh, a, b, c, d⟩
  · cases h2
  · simp only [Value.slice.injEq, Option.some.injEq, Addr.mk.injEq, and_true, true_and] at h'
    obtain ⟨rfl, rfl⟩ := h'
    exact ⟨_, _, cur, rfl, hB, hb.trans hh, a, b, c, d⟩
theorem Own4.keeps {w w' : World} {B : Nat} {e : TypeId} {g0 g n cap : Nat} {xs : List Value} (h : Own4 w B e g n cap xs) (hk : Keeps g0 w w') (hne : g ≠ g0) : Own4 w' B e g n cap xs := h.block (hk.other g hne h.lt.2)
theorem Own4.below {w w' : World} {B N : Nat} {e : TypeId} {g n cap : Nat} {xs : List Value} (h : Own4 w B e g n cap xs) (hb : Below N w w') (hg : g < N) : Own4 w' B e g n cap xs := h.block (hb.block g hg)
theorem Own4.nil {w : World} {B : Nat} (e : TypeId) (hB : B ≤ w.heap.size) : Own4 (w.alloc (.cells #[] e)) B e w.heap.size 0 0 [] := by
  obtain ⟨_, h2⟩ := Own.lit (w := w) (B := B) e #[] 0 hB (Nat.zero_le _) rfl
  refine ⟨rfl, .inr ?_⟩
  rcases h2 with ⟨h2, _⟩ | ⟨g', c', cur, h', hB', hh, a, b, c, d⟩
  · cases h2
  · simp only [Value.slice.injEq, Option.some.injEq, Addr.mk.injEq, and_true, true_and] at h'
    obtain ⟨rfl, rfl⟩ := h'
    exact ⟨_, _, cur, rfl, hB', hh, a, b, by omega, by simp⟩
/-- 'append(out, x)', x of four cells -/
theorem app4 {P : Program} (T E : TypeId) {zv : Value} {bytes : Nat} (hT : P.underlying T = some (.slice E)) (hE : (P.info? E).map (fun i => (i.zero, i.size, i.bytes)) = some (some zv, 4, bytes)) (hz1 : zv.cells.size = 4)
    {w0 w : World} {ops : Array Oper} {rest : List Oper} {o : Oper} {a : Act} {Q : Exit → Act → World → Prop} (hgd : o.guard = none) (s x : Operand)
    (ho : o.op = .call { callee := .builtin .append, args := #[s, x], argTypes := #[T, T] }) (B g n cap : Nat) (xs : List Value) (v0 v1 v2 v3 : Value)
    (hs : a.eval s = .slice (some ⟨g, 0, none⟩) n cap) (H : Nat) (hH : w.heap.size = H) (hx : a.eval x = .slice (some ⟨H, 0, none⟩) 1 1)
    (hown : Own4 w B E g n cap xs) (hb : Below B w0 w) (hB : B ≤ w0.heap.size) (hv : ∀ u ∈ [v0, v1, v2, v3], u.oneCell' = true) (hn : (n + 1) * bytes ≤ 140737488355328) (hm : n + 1 ≤ maxLen)
    (h : ∀ g' cap' w', Own4 w' B E g' (n + 1) cap' (xs ++ [v0, v1, v2, v3]) → Below B w0 w' → wpList P ops Q rest (a.put o.dst (.slice (some ⟨g', 0, none⟩) (n + 1) cap')) w') :
    wpList P ops Q (o :: rest) a (w.alloc (.cells #[v0, v1, v2, v3] E)) := by
  subst hH
  obtain ⟨i, hi, hz, hsz, hby⟩ := info_parts hE
  have hBw : B ≤ w.heap.size := Nat.le_trans hB hb.size
  refine wpList_append_lies (w.alloc (.cells #[v0, v1, v2, v3] E)) hgd s x T ho B E i zv 4 bytes hT hi hz hsz hby hz1 (by omega) (.slice (some ⟨g, 0, none⟩) n cap) n xs hs (World.ownsRow.alloc hown _) ⟨w.heap.size, 0, none⟩ 1 1 [v0, v1, v2, v3] hx rfl ?_ ?_ (by omega) hm hn (by simp; omega) _ rfl ?_
  · intro j u hj
    match j, hj with
    | 0, hj => simp at hj; subst hj; simp [Addr.add]
    | 1, hj => simp at hj; subst hj; simp [Addr.add]
    | 2, hj => simp at hj; subst hj; simp [Addr.add]
    | 3, hj => simp at hj; subst hj; simp [Addr.add]
    | j + 4, hj => simp at hj
  · exact hv
  · intro g' cap' w' h1 h2 h3 h4
    refine h g' cap' w' h1 ((hb.alloc hBw _).grown h2 (by simp; omega) ?_)
    intro k hk
    simp [Value.ownBlock] at hk
    subst hk
    exact hown.lt.1
/-- a drawn user: code, data, gain, delay -/
abbrev Usr := List UInt8 × List UInt8 × Nat × Nat
def UsrOK (u : Usr) : Prop := (1 ≤ u.1.length ∧ u.1.length ≤ 8 ∧ ∀ c ∈ u.1, bit c) ∧ BitsN 8 u.2.1 ∧ (1 ≤ u.2.2.1 ∧ u.2.2.1 ≤ 4) ∧ u.2.2.2 ≤ 6
def usV (us : List Usr) : List Value := us.flatMap fun u => [.string (str u.1), .string (str u.2.1), .int .i64 (u.2.2.1 : Int), .int .i64 (u.2.2.2 : Int)]
theorem usV_snoc (us : List Usr) (c d : List UInt8) (a y : Nat) : usV (us ++ [(c, d, a, y)]) = usV us ++ [.string (str c), .string (str d), .int .i64 (a : Int), .int .i64 (y : Int)] := by unfold usV; rw [List.flatMap_append]; rfl
theorem str_back (t : ByteArray) : t = str t.data.toList := by cases t; simp [str]
set_option maxHeartbeats 8000000 in
theorem list_any (B g lim : Nat) (w : World) (hr : Rd w B g lim) (hlim : lim ≤ 1000) :
    Calls Try.prog 47 #[.pointer (some ⟨g, 0, none⟩)] w fun e w' => ∃ (us : List Usr) (q cap : Nat), e = .returned (.slice (some ⟨q, 0, none⟩) us.length cap) ∧ us.length ≤ 4 ∧ (∀ u ∈ us, UsrOK u) ∧ Own4 w' w.heap.size 45 q us.length cap (usV us) ∧ Rd w' B g (lim + 4010) ∧ Keeps g w w' := by
  have hg := hr.lt
  have HO := Lib.hid (Own4.nil (w := w) 45 (Nat.le_refl _))
  have hk0 := (Keeps.refl g w).step ((Below.refl w.heap.size w).alloc (Nat.le_refl _) (.cells #[] 45)) hg.2
  have hr0 := hr.alloc (.cells #[] 45)
  clear hr
  go_enter Try.func47, Try.ntmps47
  have hr := hr0
  have hk := hk0
  clear hr0 hk0
  go_wp2_with fail
  refine (pick_any _ _ _ _ _ hr (by omega) (by omega) (by omega)).mono ?_
  rintro e u1 ⟨f, rfl, hf, hr1, hk1⟩
  have H1 := Lib.hid (HO.out.keeps hk1 (by omega))
  replace hk := hk.trans hk1
  clear hf hr hk1 HO
  go_wp2_with fail
  refine (pick_any _ _ _ _ _ hr1 (by omega) (by omega) (by omega)).mono ?_
  rintro e u2 ⟨sm, rfl, hsm, hr2, hk2⟩
  have H2 := Lib.hid (H1.out.keeps hk2 (by omega))
  replace hk := hk.trans hk2
  clear hsm hr1 hk2 H1
  go_wp2_with fail
  refine (num_lit _ _ _ [2, 3, 1, 4, 0] _ _ _ hr2 (by omega) rfl (by simp) (by simp)).mono ?_
  rintro e u3 ⟨n, hn, rfl, hr3, hk3⟩
  obtain ⟨N, rfl, hN4⟩ : ∃ N : Nat, n = (N : Int) ∧ N ≤ 4 := by
    simp only [List.mem_cons, List.mem_nil_iff, or_false] at hn
    rcases hn with rfl | rfl | rfl | rfl | rfl
    · exact ⟨2, rfl, by omega⟩
    · exact ⟨3, rfl, by omega⟩
    · exact ⟨1, rfl, by omega⟩
    · exact ⟨4, rfl, by omega⟩
    · exact ⟨0, rfl, by omega⟩
  have H3 := Lib.hid (H2.out.keeps hk3 (by omega))
  have HK3 := Lib.hid (hk.trans hk3)
  have HR3 := Lib.hid hr3
  clear hn hr2 hk3 hk hr3 H2
  by_cases hs0 : sm = 0
  · have b1 : ((sm : Int) == 0) = true := by simp [hs0]
    by_cases hf0 : f = 0
    · have b2 : ((f : Int) == 0) = true := by simp [hf0]
      go_wp2
      go_loopw [3, 6, 7, 8] (fun v x _ _ wr => ∃ (k q cap : Nat) (us : List Usr), x = .int .i64 (k : Int) ∧ v = .slice (some ⟨q, 0, none⟩) us.length cap ∧ us.length + k ≤ 4 ∧ (∀ u ∈ us, UsrOK u) ∧ Own4 wr w.heap.size 45 q us.length cap (usV us) ∧ Rd wr B g (lim + 10 + 1000 * us.length) ∧ Keeps g w wr) (fun _ x _ _ _ => (intOf x).toNat)
      case atStart => exact ⟨N, w.heap.size, 0, [], rfl, rfl, by simpa using hN4, fun u hu => by simp at hu, H3.out, HR3.out.mono (by simp), HK3.out⟩
      case round =>
        clear H3 HR3 HK3 hN4
        obtain ⟨k, q, cap, us, rfl, rfl, hlen, hus, hown, hr, hk⟩ := hrel
        have HUS := Lib.hid hus
        clear hus
        by_cases hlt : 0 < k
        · have hql := hown.lt
          go_wp2_with fail
          refine (pick_any _ _ _ _ _ hr (by omega) (by omega) (by omega)).mono ?_
          rintro e v1 ⟨i, rfl, hi, hr1, hk1⟩
          have hi8 : i < 8 := by have := hi.1 (by omega); omega
          have hown1 := hown.keeps hk1 (by omega)
          have hkk1 := hk.trans hk1
          clear hi hr hk1 hown hk
          go_wp2_with fail
          refine (walsh_any 3 8 i _ rfl (by omega) (by omega)).mono ?_
          rintro e v2 ⟨rfl, k2⟩
          have hown2 := hown1.below k2 hown1.lt.2
          have hr2 := hr1.below k2
          have hk2 := hkk1.after k2 hg.2
          obtain ⟨cw, hcw⟩ : ∃ cw, cw = walshL 8 i := ⟨_, rfl⟩
          have hcw1 : 1 ≤ cw.length ∧ cw.length ≤ 8 ∧ ∀ c ∈ cw, bit c := by rw [hcw, walshL_len]; exact ⟨by omega, by omega, walshL_bit _ _⟩
          rw [← hcw]
          clear hcw k2 hown1 hr1 hkk1
          have fin : True := trivial
          go_wp2_with fail
          refine (pick_any _ _ _ _ _ hr2 (by omega) (by omega) (by omega)).mono ?_
          rintro e v3 ⟨i9, rfl, hi9, hr3, hk3⟩
          have hi99 : i9 < 9 := by have := hi9.1 (by omega); omega
          have hown3 := hown2.keeps hk3 (by omega)
          have hkk3 := hk2.trans hk3
          clear hi9 hr2 hk3 hown2 hk2 hcw1
          go_wp2_with fail
          refine (gold_any _ _ (by omega) (by omega)).mono ?_
          rintro e v4 ⟨tg, rfl, htg, htb, k4⟩
          have hown4 := hown3.below k4 hown3.lt.2
          have hr4 := hr3.below k4
          have hk4 := hkk3.after k4 hg.2
          obtain ⟨cc, hcc⟩ : ∃ cc, cc = tg.data.toList := ⟨_, rfl⟩
          have hte : tg = str cc := by rw [hcc]; exact str_back tg
          have hcc1 : 1 ≤ cc.length ∧ cc.length ≤ 8 ∧ ∀ c ∈ cc, bit c := by rw [hcc, data_length, htg]; exact ⟨by omega, by omega, htb⟩
          subst hte
          clear htg htb hcc k4 hown3 hr3 hkk3
          go_wp2_with fail
          refine (user_any _ _ _ cc _ hr4 (by omega)).mono ?_
          rintro e u5 ⟨d, a, y, rfl, ⟨hd, ha1, ha4, hy6⟩, hr5, hk5⟩
          have hown5 := hown4.keeps hk5 (by omega)
          have hkk5 := hk4.trans hk5
          have hbV : Below u5.heap.size u5 (u5.alloc (.cells #[.string (str cc), .string (str d), .int .i64 (a : Int), .int .i64 (y : Int)] 45)) := (Below.refl _ _).alloc (Nat.le_refl _) _
          have hbV1 : Below u5.heap.size u5 (u5.alloc (.cells #[.string (str cc), .string (str d), .int .i64 (a : Int), .int .i64 0] 45)) := (Below.refl _ _).alloc (Nat.le_refl _) _
          have hown6 := Lib.hid (hown5.below hbV1 hown5.lt.2)
          have hr6 := Lib.hid (hr5.below hbV1)
          have hk6 := Lib.hid (hkk5.after hbV1 hg.2)
          have hu5 := hkk5.size
          have HD := Lib.hid hd
          have HC := Lib.hid hcc1
          clear hd hr5 hk5 hown5 hkk5 hbV hbV1 hown4 hr4 hk4 hcc1
          go_wp2_with (at_builtin; refine app4 (w0 := u5.alloc (.cells #[.string (str cc), .string (str d), .int .i64 (a : Int), .int .i64 0] 45)) 40 45 Try.underlying40 info_user rfl rfl _ _ rfl w.heap.size q us.length cap (usV us) (.string (str cc)) (.string (str d)) (.int .i64 (a : Int)) (.int .i64 0) rfl (u5.heap.size + 1) (by simp) rfl hown6.out (Below.refl _ _) hk6.out.size (by intro u hu; simp at hu; rcases hu with rfl | rfl | rfl | rfl <;> rfl) (by omega) (by unfold maxLen; omega) ?_; intro g2 cap2 w2 hown7 hb7)
          have hr7 := hr6.out.below' hb7 hg.2
          have hk7 := Lib.hid (hk6.out.step hb7 hg.2)
          have hown8 := Lib.hid hown7
          clear hb7 hown7
          go_wp2
          go_roundw
          case rel => exact ⟨k - 1, g2, cap2, us ++ [(cc, d, a, 0)], by congr 1; omega, by simp, by simp; omega, fun u hu => by
            rcases List.mem_append.1 hu with hu | hu
            · exact HUS.out u hu
            · simp at hu; subst hu; exact ⟨HC.out, HD.out, ⟨ha1, ha4⟩, by show 0 ≤ 6; omega⟩, by rw [usV_snoc, List.length_append]; exact hown8.out, hr7.mono (by simp; omega), hk7.out⟩
          case measure => (simp [intOf]; try omega)
        · go_wp2
          go_ret
          exact ⟨us, q, cap, rfl, by omega, HUS.out, hown, hr.mono (by omega), hk⟩
    · have b2 : ((f : Int) == 0) = false := by simp; exact hf0
      go_wp2
      go_loopw [3, 6, 7, 8] (fun v x _ _ wr => ∃ (k q cap : Nat) (us : List Usr), x = .int .i64 (k : Int) ∧ v = .slice (some ⟨q, 0, none⟩) us.length cap ∧ us.length + k ≤ 4 ∧ (∀ u ∈ us, UsrOK u) ∧ Own4 wr w.heap.size 45 q us.length cap (usV us) ∧ Rd wr B g (lim + 10 + 1000 * us.length) ∧ Keeps g w wr) (fun _ x _ _ _ => (intOf x).toNat)
      case atStart => exact ⟨N, w.heap.size, 0, [], rfl, rfl, by simpa using hN4, fun u hu => by simp at hu, H3.out, HR3.out.mono (by simp), HK3.out⟩
      case round =>
        clear H3 HR3 HK3 hN4
        obtain ⟨k, q, cap, us, rfl, rfl, hlen, hus, hown, hr, hk⟩ := hrel
        have HUS := Lib.hid hus
        clear hus
        by_cases hlt : 0 < k
        · have hql := hown.lt
          go_wp2_with fail
          refine (pick_any _ _ _ _ _ hr (by omega) (by omega) (by omega)).mono ?_
          rintro e v1 ⟨i, rfl, hi, hr1, hk1⟩
          have hi8 : i < 8 := by have := hi.1 (by omega); omega
          have hown1 := hown.keeps hk1 (by omega)
          have hkk1 := hk.trans hk1
          clear hi hr hk1 hown hk
          go_wp2_with fail
          refine (walsh_any 3 8 i _ rfl (by omega) (by omega)).mono ?_
          rintro e v2 ⟨rfl, k2⟩
          have hown2 := hown1.below k2 hown1.lt.2
          have hr2 := hr1.below k2
          have hk2 := hkk1.after k2 hg.2
          obtain ⟨cw, hcw⟩ : ∃ cw, cw = walshL 8 i := ⟨_, rfl⟩
          have hcw1 : 1 ≤ cw.length ∧ cw.length ≤ 8 ∧ ∀ c ∈ cw, bit c := by rw [hcw, walshL_len]; exact ⟨by omega, by omega, walshL_bit _ _⟩
          rw [← hcw]
          clear hcw k2 hown1 hr1 hkk1
          have fin : True := trivial
          go_wp2_with fail
          refine (user_any _ _ _ cw _ hr2 (by omega)).mono ?_
          rintro e u5 ⟨d, a, y, rfl, ⟨hd, ha1, ha4, hy6⟩, hr5, hk5⟩
          have hown5 := hown2.keeps hk5 (by omega)
          have hkk5 := hk2.trans hk5
          have hbV : Below u5.heap.size u5 (u5.alloc (.cells #[.string (str cw), .string (str d), .int .i64 (a : Int), .int .i64 (y : Int)] 45)) := (Below.refl _ _).alloc (Nat.le_refl _) _
          have hbV1 : Below u5.heap.size u5 (u5.alloc (.cells #[.string (str cw), .string (str d), .int .i64 (a : Int), .int .i64 0] 45)) := (Below.refl _ _).alloc (Nat.le_refl _) _
          have hown6 := Lib.hid (hown5.below hbV1 hown5.lt.2)
          have hr6 := Lib.hid (hr5.below hbV1)
          have hk6 := Lib.hid (hkk5.after hbV1 hg.2)
          have hu5 := hkk5.size
          have HD := Lib.hid hd
          have HC := Lib.hid hcw1
          clear hd hr5 hk5 hown5 hkk5 hbV hbV1 hown2 hr2 hk2 hcw1
          go_wp2_with (at_builtin; refine app4 (w0 := u5.alloc (.cells #[.string (str cw), .string (str d), .int .i64 (a : Int), .int .i64 0] 45)) 40 45 Try.underlying40 info_user rfl rfl _ _ rfl w.heap.size q us.length cap (usV us) (.string (str cw)) (.string (str d)) (.int .i64 (a : Int)) (.int .i64 0) rfl (u5.heap.size + 1) (by simp) rfl hown6.out (Below.refl _ _) hk6.out.size (by intro u hu; simp at hu; rcases hu with rfl | rfl | rfl | rfl <;> rfl) (by omega) (by unfold maxLen; omega) ?_; intro g2 cap2 w2 hown7 hb7)
          have hr7 := hr6.out.below' hb7 hg.2
          have hk7 := Lib.hid (hk6.out.step hb7 hg.2)
          have hown8 := Lib.hid hown7
          clear hb7 hown7
          go_wp2
          go_roundw
          case rel => exact ⟨k - 1, g2, cap2, us ++ [(cw, d, a, 0)], by congr 1; omega, by simp, by simp; omega, fun u hu => by
            rcases List.mem_append.1 hu with hu | hu
            · exact HUS.out u hu
            · simp at hu; subst hu; exact ⟨HC.out, HD.out, ⟨ha1, ha4⟩, by show 0 ≤ 6; omega⟩, by rw [usV_snoc, List.length_append]; exact hown8.out, hr7.mono (by simp; omega), hk7.out⟩
          case measure => (simp [intOf]; try omega)
        · go_wp2
          go_ret
          exact ⟨us, q, cap, rfl, by omega, HUS.out, hown, hr.mono (by omega), hk⟩
  · have b1 : ((sm : Int) == 0) = false := by simp; exact hs0
    by_cases hf0 : f = 0
    · have b2 : ((f : Int) == 0) = true := by simp [hf0]
      go_wp2
      go_loopw [3, 6, 7, 8] (fun v x _ _ wr => ∃ (k q cap : Nat) (us : List Usr), x = .int .i64 (k : Int) ∧ v = .slice (some ⟨q, 0, none⟩) us.length cap ∧ us.length + k ≤ 4 ∧ (∀ u ∈ us, UsrOK u) ∧ Own4 wr w.heap.size 45 q us.length cap (usV us) ∧ Rd wr B g (lim + 10 + 1000 * us.length) ∧ Keeps g w wr) (fun _ x _ _ _ => (intOf x).toNat)
      case atStart => exact ⟨N, w.heap.size, 0, [], rfl, rfl, by simpa using hN4, fun u hu => by simp at hu, H3.out, HR3.out.mono (by simp), HK3.out⟩
      case round =>
        clear H3 HR3 HK3 hN4
        obtain ⟨k, q, cap, us, rfl, rfl, hlen, hus, hown, hr, hk⟩ := hrel
        have HUS := Lib.hid hus
        clear hus
        by_cases hlt : 0 < k
        · have hql := hown.lt
          go_wp2_with fail
          refine (pick_any _ _ _ _ _ hr (by omega) (by omega) (by omega)).mono ?_
          rintro e v1 ⟨i, rfl, hi, hr1, hk1⟩
          have hi8 : i < 8 := by have := hi.1 (by omega); omega
          have hown1 := hown.keeps hk1 (by omega)
          have hkk1 := hk.trans hk1
          clear hi hr hk1 hown hk
          go_wp2_with fail
          refine (walsh_any 3 8 i _ rfl (by omega) (by omega)).mono ?_
          rintro e v2 ⟨rfl, k2⟩
          have hown2 := hown1.below k2 hown1.lt.2
          have hr2 := hr1.below k2
          have hk2 := hkk1.after k2 hg.2
          obtain ⟨cw, hcw⟩ : ∃ cw, cw = walshL 8 i := ⟨_, rfl⟩
          have hcw1 : 1 ≤ cw.length ∧ cw.length ≤ 8 ∧ ∀ c ∈ cw, bit c := by rw [hcw, walshL_len]; exact ⟨by omega, by omega, walshL_bit _ _⟩
          rw [← hcw]
          clear hcw k2 hown1 hr1 hkk1
          have fin : True := trivial
          go_wp2_with fail
          refine (pick_any _ _ _ _ _ hr2 (by omega) (by omega) (by omega)).mono ?_
          rintro e v3 ⟨i9, rfl, hi9, hr3, hk3⟩
          have hi99 : i9 < 9 := by have := hi9.1 (by omega); omega
          have hown3 := hown2.keeps hk3 (by omega)
          have hkk3 := hk2.trans hk3
          clear hi9 hr2 hk3 hown2 hk2 hcw1
          go_wp2_with fail
          refine (gold_any _ _ (by omega) (by omega)).mono ?_
          rintro e v4 ⟨tg, rfl, htg, htb, k4⟩
          have hown4 := hown3.below k4 hown3.lt.2
          have hr4 := hr3.below k4
          have hk4 := hkk3.after k4 hg.2
          obtain ⟨cc, hcc⟩ : ∃ cc, cc = tg.data.toList := ⟨_, rfl⟩
          have hte : tg = str cc := by rw [hcc]; exact str_back tg
          have hcc1 : 1 ≤ cc.length ∧ cc.length ≤ 8 ∧ ∀ c ∈ cc, bit c := by rw [hcc, data_length, htg]; exact ⟨by omega, by omega, htb⟩
          subst hte
          clear htg htb hcc k4 hown3 hr3 hkk3
          go_wp2_with fail
          refine (user_any _ _ _ cc _ hr4 (by omega)).mono ?_
          rintro e u5 ⟨d, a, y, rfl, ⟨hd, ha1, ha4, hy6⟩, hr5, hk5⟩
          have hown5 := hown4.keeps hk5 (by omega)
          have hkk5 := hk4.trans hk5
          have hbV : Below u5.heap.size u5 (u5.alloc (.cells #[.string (str cc), .string (str d), .int .i64 (a : Int), .int .i64 (y : Int)] 45)) := (Below.refl _ _).alloc (Nat.le_refl _) _
          have hown6 := Lib.hid (hown5.below hbV hown5.lt.2)
          have hr6 := Lib.hid (hr5.below hbV)
          have hk6 := Lib.hid (hkk5.after hbV hg.2)
          have hu5 := hkk5.size
          have HD := Lib.hid hd
          have HC := Lib.hid hcc1
          clear hd hr5 hk5 hown5 hkk5 hbV hown4 hr4 hk4 hcc1
          go_wp2_with (at_builtin; refine app4 (w0 := u5.alloc (.cells #[.string (str cc), .string (str d), .int .i64 (a : Int), .int .i64 (y : Int)] 45)) 40 45 Try.underlying40 info_user rfl rfl _ _ rfl w.heap.size q us.length cap (usV us) (.string (str cc)) (.string (str d)) (.int .i64 (a : Int)) (.int .i64 (y : Int)) rfl (u5.heap.size + 1) (by simp) rfl hown6.out (Below.refl _ _) hk6.out.size (by intro u hu; simp at hu; rcases hu with rfl | rfl | rfl | rfl <;> rfl) (by omega) (by unfold maxLen; omega) ?_; intro g2 cap2 w2 hown7 hb7)
          have hr7 := hr6.out.below' hb7 hg.2
          have hk7 := Lib.hid (hk6.out.step hb7 hg.2)
          have hown8 := Lib.hid hown7
          clear hb7 hown7
          go_wp2
          go_roundw
          case rel => exact ⟨k - 1, g2, cap2, us ++ [(cc, d, a, y)], by congr 1; omega, by simp, by simp; omega, fun u hu => by
            rcases List.mem_append.1 hu with hu | hu
            · exact HUS.out u hu
            · simp at hu; subst hu; exact ⟨HC.out, HD.out, ⟨ha1, ha4⟩, by show y ≤ 6; omega⟩, by rw [usV_snoc, List.length_append]; exact hown8.out, hr7.mono (by simp; omega), hk7.out⟩
          case measure => (simp [intOf]; try omega)
        · go_wp2
          go_ret
          exact ⟨us, q, cap, rfl, by omega, HUS.out, hown, hr.mono (by omega), hk⟩
    · have b2 : ((f : Int) == 0) = false := by simp; exact hf0
      go_wp2
      go_loopw [3, 6, 7, 8] (fun v x _ _ wr => ∃ (k q cap : Nat) (us : List Usr), x = .int .i64 (k : Int) ∧ v = .slice (some ⟨q, 0, none⟩) us.length cap ∧ us.length + k ≤ 4 ∧ (∀ u ∈ us, UsrOK u) ∧ Own4 wr w.heap.size 45 q us.length cap (usV us) ∧ Rd wr B g (lim + 10 + 1000 * us.length) ∧ Keeps g w wr) (fun _ x _ _ _ => (intOf x).toNat)
      case atStart => exact ⟨N, w.heap.size, 0, [], rfl, rfl, by simpa using hN4, fun u hu => by simp at hu, H3.out, HR3.out.mono (by simp), HK3.out⟩
      case round =>
        clear H3 HR3 HK3 hN4
        obtain ⟨k, q, cap, us, rfl, rfl, hlen, hus, hown, hr, hk⟩ := hrel
        have HUS := Lib.hid hus
        clear hus
        by_cases hlt : 0 < k
        · have hql := hown.lt
          go_wp2_with fail
          refine (pick_any _ _ _ _ _ hr (by omega) (by omega) (by omega)).mono ?_
          rintro e v1 ⟨i, rfl, hi, hr1, hk1⟩
          have hi8 : i < 8 := by have := hi.1 (by omega); omega
          have hown1 := hown.keeps hk1 (by omega)
          have hkk1 := hk.trans hk1
          clear hi hr hk1 hown hk
          go_wp2_with fail
          refine (walsh_any 3 8 i _ rfl (by omega) (by omega)).mono ?_
          rintro e v2 ⟨rfl, k2⟩
          have hown2 := hown1.below k2 hown1.lt.2
          have hr2 := hr1.below k2
          have hk2 := hkk1.after k2 hg.2
          obtain ⟨cw, hcw⟩ : ∃ cw, cw = walshL 8 i := ⟨_, rfl⟩
          have hcw1 : 1 ≤ cw.length ∧ cw.length ≤ 8 ∧ ∀ c ∈ cw, bit c := by rw [hcw, walshL_len]; exact ⟨by omega, by omega, walshL_bit _ _⟩
          rw [← hcw]
          clear hcw k2 hown1 hr1 hkk1
          have fin : True := trivial
          go_wp2_with fail
          refine (user_any _ _ _ cw _ hr2 (by omega)).mono ?_
          rintro e u5 ⟨d, a, y, rfl, ⟨hd, ha1, ha4, hy6⟩, hr5, hk5⟩
          have hown5 := hown2.keeps hk5 (by omega)
          have hkk5 := hk2.trans hk5
          have hbV : Below u5.heap.size u5 (u5.alloc (.cells #[.string (str cw), .string (str d), .int .i64 (a : Int), .int .i64 (y : Int)] 45)) := (Below.refl _ _).alloc (Nat.le_refl _) _
          have hown6 := Lib.hid (hown5.below hbV hown5.lt.2)
          have hr6 := Lib.hid (hr5.below hbV)
          have hk6 := Lib.hid (hkk5.after hbV hg.2)
          have hu5 := hkk5.size
          have HD := Lib.hid hd
          have HC := Lib.hid hcw1
          clear hd hr5 hk5 hown5 hkk5 hbV hown2 hr2 hk2 hcw1
          go_wp2_with (at_builtin; refine app4 (w0 := u5.alloc (.cells #[.string (str cw), .string (str d), .int .i64 (a : Int), .int .i64 (y : Int)] 45)) 40 45 Try.underlying40 info_user rfl rfl _ _ rfl w.heap.size q us.length cap (usV us) (.string (str cw)) (.string (str d)) (.int .i64 (a : Int)) (.int .i64 (y : Int)) rfl (u5.heap.size + 1) (by simp) rfl hown6.out (Below.refl _ _) hk6.out.size (by intro u hu; simp at hu; rcases hu with rfl | rfl | rfl | rfl <;> rfl) (by omega) (by unfold maxLen; omega) ?_; intro g2 cap2 w2 hown7 hb7)
          have hr7 := hr6.out.below' hb7 hg.2
          have hk7 := Lib.hid (hk6.out.step hb7 hg.2)
          have hown8 := Lib.hid hown7
          clear hb7 hown7
          go_wp2
          go_roundw
          case rel => exact ⟨k - 1, g2, cap2, us ++ [(cw, d, a, y)], by congr 1; omega, by simp, by simp; omega, fun u hu => by
            rcases List.mem_append.1 hu with hu | hu
            · exact HUS.out u hu
            · simp at hu; subst hu; exact ⟨HC.out, HD.out, ⟨ha1, ha4⟩, by show y ≤ 6; omega⟩, by rw [usV_snoc, List.length_append]; exact hown8.out, hr7.mono (by simp; omega), hk7.out⟩
          case measure => (simp [intOf]; try omega)
        · go_wp2
          go_ret
          exact ⟨us, q, cap, rfl, by omega, HUS.out, hown, hr.mono (by omega), hk⟩
end Go.Proofs.Ytiiiaeemblcniaa
