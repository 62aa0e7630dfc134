/- The walk of the law FnWholeCell: users whose codes belong to paths without conflict are all received with the full margin. -/
import Derived.Test.YtiiiaeemblcniaaCells
import Derived.Test.YtiiiaeemblcniaaSsI
import Derived.Deep.QuietTactic
import Derived.BigQuiet
namespace Go.Proofs.Ytiiiaeemblcniaa.fnWholeCell
set_option maxRecDepth 20000
open Go.ChangeShapes Go.WideShapes Go.ChangeAt Go.RowKit
set_option linter.unusedVariables false
set_option linter.unusedSimpArgs false

theorem sl_up4 {w u : World} {lo : Nat} {v : Value} {z : List Int} (h : Sl w lo w.heap.size v z) (hu : Below w.heap.size w u) : Sl u lo u.heap.size v z := (h.below hu (Nat.le_refl _)).up hu.size
theorem reads_up4 {w u : World} {A : Option Addr} {z : List Int} (h : Reads w w.heap.size A z) (hu : Below w.heap.size w u) : Reads u u.heap.size A z := (h.below hu (Nat.le_refl _)).more hu.size
theorem relB {P : Program} {f : FuncId} {args : Array Value} {W0 u : World} {v : Value} (hu : Below W0.heap.size W0 u) (h : Calls P f args u fun e u' => e = .returned v ∧ Below u.heap.size u u') :
    Calls P f args u fun e u' => e = .returned v ∧ Below W0.heap.size W0 u' := h.mono fun e u' ⟨a, b⟩ => ⟨a, below_next hu b⟩
/-- the four paths -/
def P4 (i : Nat) : List UInt8 := if i = 0 then [48, 48] else if i = 1 then [48, 49] else if i = 2 then [49, 48, 48] else [49, 49]
theorem P4_tree {i : Nat} (h : i < 4) : treeT (P4 i) (P4 i).length = C4 i ∧ bitsOK (P4 i) = true ∧ (P4 i).length ≤ 3 := by
  rcases four h with rfl | rfl | rfl | rfl
  · exact ⟨C4_tree.1, rfl, by decide⟩
  · exact ⟨C4_tree.2.1, rfl, by decide⟩
  · exact ⟨C4_tree.2.2.1, rfl, by decide⟩
  · exact ⟨C4_tree.2.2.2, rfl, by decide⟩
theorem P4_lit {i : Nat} (h : i < 4) : ∀ h' : i < ([Value.string ⟨#[48, 48]⟩, .string ⟨#[48, 49]⟩, .string ⟨#[49, 48, 48]⟩, .string ⟨#[49, 49]⟩] : List Value).length, ([Value.string ⟨#[48, 48]⟩, .string ⟨#[48, 49]⟩, .string ⟨#[49, 48, 48]⟩, .string ⟨#[49, 49]⟩] : List Value)[i] = .string (str (P4 i)) := by
  intro h'
  rcases four h with rfl | rfl | rfl | rfl <;> rfl
theorem P4_cell {i : Nat} (h : i < 4) (u : World) : (u.alloc (.cells #[.string ⟨#[48, 48]⟩, .string ⟨#[48, 49]⟩, .string ⟨#[49, 48, 48]⟩, .string ⟨#[49, 49]⟩] 9)).cell? ⟨u.heap.size, i, none⟩ = some (.string (str (P4 i))) := by
  rcases four h with rfl | rfl | rfl | rfl <;> simp [P4, str]
def dsOf (us : List UI) : List (List UInt8) := (us.take 4).map fun u => u.2.1
theorem ds_len (us : List UI) : (dsOf us).length = min 4 us.length := by simp [dsOf]
theorem ds_at {us : List UI} {k : Nat} {u : UI} (h : us[k]? = some u) (hk : k < 4) : (dsOf us)[k]? = some u.2.1 := by
  unfold dsOf
  rw [List.getElem?_map, List.getElem?_take, if_pos hk, h]; rfl
def gainOf (n : Nat) (i : Nat) : Int := ((1 + (n + i * i) % 7 : Nat) : Int)
theorem cell_of {us : List UI} (h : ∀ u ∈ us, uOK u = true ∧ u.2.1.length ≤ 9) (n : Nat) : CellOK (dsOf us) (gainOf n) where
  len := by rw [ds_len]; omega
  bits := fun d hd => by
    unfold dsOf at hd
    rw [List.mem_map] at hd
    obtain ⟨u, hu, rfl⟩ := hd
    obtain ⟨h1, h2⟩ := h u (List.mem_of_mem_take hu)
    exact ⟨(uOK_parts h1).2.1, by omega⟩
  gain := fun i _ => by unfold gainOf; omega

set_option maxHeartbeats 16000000 in
theorem walk (a0 : Option Addr) (len0 cap0 : Nat) (z0 : List Int) (a1 : Option Addr) (len1 cap1 : Nat) (z1 : List Int) (w : World) (hw0 : IsRow .u8 w a0 len0 cap0 z0) (hw1 : IsRow .u8 w a1 len1 cap1 z1) :
    Calls Try.prog 6 #[.slice a0 len0 cap0, .slice a1 len1 cap1] w fun e w' => e = .returned (.bool true) ∧ Below w.heap.size w w' := by
  by_cases hlen : len0 ≤ 1048576
  rotate_left
  · go_enter Try.func6, Try.ntmps6
    go_wp2
    go_ret
    exact ⟨rfl, Below.refl _ _⟩
  by_cases hlen1 : len1 ≤ 1048576
  rotate_left
  · go_enter Try.func6, Try.ntmps6
    go_wp2
    go_ret
    exact ⟨rfl, Below.refl _ _⟩
  clear hw1
  go_enter Try.func6, Try.ntmps6
  go_wp2_with fail
  refine (drawSend_any _ _ _ _ _ hw0).mono ?_
  rintro e w1 ⟨us, q, cap, rfl, ⟨hn9, hus⟩, hri, hb1⟩
  clear hw0
  have HRI := Lib.hid hri
  have HUS := Lib.hid hus
  have HB1 := Lib.hid hb1
  have hs1 := hb1.size
  have hq1 := hri.1
  have HUB : Hid (∀ u ∈ us, UIB u) := Lib.hid fun u hu => ⟨by have := hus u hu; unfold UIS at this; omega, by have := hus u hu; unfold UIS at this; omega⟩
  obtain ⟨ok, hok⟩ : ∃ ok, ok = usOK us := ⟨_, rfl⟩
  obtain ⟨L, hL⟩ : ∃ L, L = saL us := ⟨_, rfl⟩
  have hLl : L.length ≤ 1048576 := by
    rw [hL]; unfold saL; split
    · rename_i h
      have hall := (usOK_parts h).2
      have := sndL_len (us.map natU) (fun v hv => by
        rw [List.mem_map] at hv
        obtain ⟨x, hx, rfl⟩ := hv
        exact uOK_B (hall x hx)) [] (by simp)
      exact Nat.le_trans this (by omega)
    · simp
  have HSI : Hid (∀ u, Below w1.heap.size w1 u → Calls Try.prog 21 #[.slice (some ⟨q, 0, none⟩) us.length cap] u (RetLB L ok u)) := Lib.hid fun u hu => by rw [hL, hok]; exact sndI_any q cap us u (hri.below hu) (by omega) HUB.out
  have HSS : Hid (∀ u, Below w1.heap.size w1 u → Calls Try.prog 22 #[.slice (some ⟨q, 0, none⟩) us.length cap] u (RetLB L ok u)) := Lib.hid fun u hu => by rw [hL, hok]; exact sndS_any q cap us u (hri.below hu) (by omega) HUB.out
  have HOK := Lib.hid hok
  clear hri hus hb1 hok hL
  go_wp2_with fail
  refine (HSI.out _ (Below.refl _ _)).mono ?_
  rintro e w2 ⟨v2, rfl, hs2, k2⟩
  have HS2 := Lib.hid hs2
  have HB2 := Lib.hid k2
  have hS2 := Lib.hid (HSS.out w2 k2)
  have hsz2 := k2.size
  clear hs2 k2 HSI HSS
  go_wp2_with fail
  refine hS2.out.mono ?_
  rintro e w3 ⟨v3, rfl, hs3, k3⟩
  have HS3 := Lib.hid hs3
  have HL3 := Lib.hid (sl_up4 HS2.out k3)
  have hb3 := HB2.out.trans (k3.mono hsz2)
  have HB3 := Lib.hid hb3
  have hsz3 := hb3.size
  have HSSI : Hid (∀ u : World, Below w3.heap.size w3 u → Calls Try.prog 23 #[v2, v3] u fun e w' => e = .returned (.bool true) ∧ Below u.heap.size u w') := Lib.hid fun u hu => ssIntsS_any (sl_up4 HL3.out hu) (sl_up4 HS3.out hu) (Nat.le_refl _) (Nat.le_refl _) hLl
  clear hs3 k3 hb3 HS2 HB2 hS2 HS3 HL3
  go_wp2_with fail
  refine (HSSI.out _ (Below.refl _ _)).mono ?_
  rintro e w4 ⟨rfl, k4⟩
  cases ok with
  | false =>
    go_wp2_with fail
    refine (HSSI.out _ k4).mono ?_
    rintro e w5 ⟨rfl, k5⟩
    go_wp2
    go_ret
    exact ⟨rfl, HB1.out.trans ((HB3.out.trans ((k4.trans (k5.mono k4.size)).mono hsz3)).mono hs1)⟩
  | true =>
    by_cases hn0 : us.length = 0
    · have b0 : ((us.length : Int) == 0) = true := by simp; exact List.eq_nil_of_length_eq_zero hn0
      go_wp2_with fail
      refine (HSSI.out _ k4).mono ?_
      rintro e w5 ⟨rfl, k5⟩
      go_wp2
      go_ret
      exact ⟨rfl, HB1.out.trans ((HB3.out.trans ((k4.trans (k5.mono k4.size)).mono hsz3)).mono hs1)⟩
    have b0 : ((us.length : Int) == 0) = false := by simp; exact List.ne_nil_of_length_pos (by omega)
    have hall := (usOK_parts HOK.out.symm).2
    have hb4 := HB3.out.trans (k4.mono hsz3)
    have HB4 := Lib.hid (HB1.out.trans (hb4.mono hs1))
    have HRI4 := Lib.hid (HRI.out.below hb4)
    have hq4 : q < w4.heap.size := Nat.lt_of_lt_of_le hq1 hb4.size
    have HCO := Lib.hid (cell_of (fun u hu => ⟨hall u hu, (HUS.out u hu).2⟩) len1)
    have hws := HB4.out.size
    obtain ⟨K, hK⟩ : ∃ K, K = (dsOf us).length := ⟨_, rfl⟩
    have hKm : K = min 4 us.length := by rw [hK, ds_len]
    obtain ⟨ds, hds⟩ : ∃ ds, ds = dsOf us := ⟨_, rfl⟩
    obtain ⟨G, hG⟩ : ∃ G, G = gainOf len1 := ⟨_, rfl⟩
    have HDS : Hid (∀ (k : Nat) (u : UI), us[k]? = some u → k < 4 → ds[k]? = some u.2.1) := Lib.hid fun k u hu hk => by rw [hds]; exact ds_at hu hk
    have HGE : Hid (∀ k : Nat, G k = ((1 + (len1 + k * k) % 7 : Nat) : Int)) := Lib.hid fun k => by rw [hG]; rfl
    rw [← hds, ← hG] at HCO
    rw [← hds] at hK
    have HKD := Lib.hid hK
    have hK4 : K ≤ 4 := by omega
    have hK9 : K ≤ us.length := by omega
    have HKM := Lib.hid hKm
    have HON := Lib.hid (Own4.nil (w := w4) (B := w4.heap.size) 45 (Nat.le_refl _))
    have HC0 : Hid (uiV (cellU (ds.take 0) G) = []) := Lib.hid rfl
    clear hall hb4 k4 HSSI HB3 hK hKm hds hG HOK
    go_wp2
    go_loopw [10, 11, 12] (fun v i _ wr => ∃ (k q2 cap2 : Nat), k ≤ K ∧ i = .int .i64 (k : Int) ∧ v = .slice (some ⟨q2, 0, none⟩) k cap2 ∧ Own4 wr w4.heap.size 45 q2 k cap2 (uiV (cellU (ds.take k) G)) ∧ Below w4.heap.size w4 wr) (fun _ i _ _ => K - (intOf i).toNat)
    case atStart => exact ⟨0, w4.heap.size, 0, Nat.zero_le _, rfl, rfl, by rw [HC0.out]; exact HON.out, (Below.refl _ _).alloc (Nat.le_refl _) _⟩
    case round =>
      clear HON HC0
      obtain ⟨k, q2, cap2, hk, rfl, rfl, hown, hb⟩ := hrel
      have HOW := Lib.hid hown
      have hq2 := hown.lt
      have HB5 := Lib.hid hb
      have hs5 := hb.size
      have HRI5 := Lib.hid (HRI4.out.below hb)
      clear hown hb
      by_cases hlt : k < K
      · have hku : k < us.length := by omega
        have hk4 : k < 4 := by omega
        obtain ⟨c, d, a, y, hu, c0, c1, c2, c3⟩ := HRI5.out.2 k hku
        have hd9 : d.length ≤ 9 := (HUS.out _ (List.mem_of_getElem? hu)).2
        have HTK := Lib.hid (cellU_take G (HDS.out k _ hu hk4))
        obtain ⟨V, hV⟩ : ∃ V, V = wr.alloc (.cells #[.string (str c), .string (str d), .int .i64 a, .int .i64 y] 45) := ⟨_, rfl⟩
        have hbV : Below wr.heap.size wr V := by rw [hV]; exact (Below.refl _ _).alloc (Nat.le_refl _) _
        have hQV : Quad V wr.heap.size (.string (str c)) (.string (str d)) (.int .i64 a) (.int .i64 y) := by rw [hV]; exact Quad.box _ _ _ _ _
        have HP4 := Lib.hid (P4_lit hk4)
        obtain ⟨t1, t2, t3⟩ := P4_tree hk4
        have HTC : Hid (∀ u : World, Calls Try.prog 24 #[.string (str (P4 k))] u fun e w' => e = .returned (.tuple #[.string (str (C4 k)), .bool true]) ∧ Below u.heap.size u w') := Lib.hid fun u => by
          have := tree_yes (P4 k) u t2 (by omega)
          rw [t1] at this
          exact this
        have hbV2 := hbV.alloc hbV.size (.cells #[.string ⟨#[48, 48]⟩, .string ⟨#[48, 49]⟩, .string ⟨#[49, 48, 48]⟩, .string ⟨#[49, 49]⟩] 9)
        have HBV2 := Lib.hid hbV2
        have HQV := Lib.hid hQV
        have HVB := Lib.hid ((Below.refl V.heap.size V).alloc (Nat.le_refl _) (.cells #[.string ⟨#[48, 48]⟩, .string ⟨#[48, 49]⟩, .string ⟨#[49, 48, 48]⟩, .string ⟨#[49, 49]⟩] 9))
        have hsV := hbV.size
        obtain ⟨Q, hQ⟩ : ∃ Q, Q = P4 k := ⟨_, rfl⟩
        obtain ⟨C, hC⟩ : ∃ C, C = C4 k := ⟨_, rfl⟩
        rw [← hQ] at HP4 HTC
        rw [← hC] at HTC HTK
        have hlV : wr.heap.size < V.heap.size := by rw [hV]; simp
        clear hu t1 t2 t3 hbV hbV2 hQV hQ hC
        go_wp2_with fail
        rw [← hV]
        clear hV c0 c1 c2 c3
        rw [HP4.out]
        refine (HTC.out _).mono ?_
        rintro e u4 ⟨rfl, k4⟩
        have hVu4 := HVB.out.trans (k4.mono HVB.out.size)
        have hwu4 := HBV2.out.trans (k4.mono HBV2.out.size)
        obtain ⟨d0, d1, d2, d3, df, dl⟩ := HQV.out.block (hVu4.block wr.heap.size hlV) hVu4.size
        have HU4 := Lib.hid hwu4
        have hsu4 := hwu4.size
        clear k4 hVu4 hwu4 HQV HVB HBV2 HP4 HTC
        obtain ⟨s, hs, hs9⟩ : ∃ s : Nat, s = k * k ∧ s ≤ 9 := ⟨_, rfl, by have := Nat.mul_le_mul (show k ≤ 3 by omega) (show k ≤ 3 by omega); omega⟩
        have eq1 : (k : Int) * (k : Int) = (s : Int) := by rw [hs]; simp
        obtain ⟨g, hg, hg1, hg7⟩ : ∃ g : Nat, g = (len1 + s) % 7 ∧ 0 ≤ g ∧ g ≤ 6 := ⟨_, rfl, by omega, by omega⟩
        have eq2 : ((len1 : Int) + (s : Int)) % 7 = (g : Int) := by rw [hg]; simp
        have hGk : Hid (G k = 1 + (g : Int)) := Lib.hid (by rw [HGE.out, ← hs, ← hg]; simp)
        clear hs hg
        have hown4 := Lib.hid (HOW.out.below HU4.out hq2.2)
        obtain ⟨W5, hW5⟩ : ∃ W5, W5 = ((u4.setCell ⟨wr.heap.size, 0, none⟩ (.string (str C))).setCell ⟨wr.heap.size, 3, none⟩ (.int .i64 0)).setCell ⟨wr.heap.size, 2, none⟩ (.int .i64 (1 + (g : Int))) := ⟨_, rfl⟩
        have hb5 : Below wr.heap.size wr W5 := by
          rw [hW5]
          exact (((HU4.out.setCell (p := ⟨wr.heap.size, 0, none⟩) (Nat.le_refl _) _).setCell (p := ⟨wr.heap.size, 3, none⟩) (Nat.le_refl _) _).setCell (p := ⟨wr.heap.size, 2, none⟩) (Nat.le_refl _) _)
        have HOW5 := Lib.hid (HOW.out.below hb5 hq2.2)
        have HB55 := Lib.hid (hb5.mono hs5)
        rw [hW5] at HOW5 HB55
        clear hW5 hb5
        go_wp2_with (at_builtin; refine app4 (w0 := wr) 40 45 Try.underlying40 info_user rfl rfl _ _ rfl w4.heap.size q2 k cap2 (uiV (cellU (ds.take k) G)) (.string (str C)) (.string (str d)) (.int .i64 (1 + (g : Int))) (.int .i64 0) rfl u4.heap.size (by simp) rfl HOW5.out HB55.out hs5 (by intro u hu; simp at hu; rcases hu with rfl | rfl | rfl | rfl <;> rfl) (by omega) (by unfold maxLen; omega) ?_; intro g2 cap3 w6 hown7 hb7)
        have HO7 := Lib.hid hown7
        have hb8 := HB5.out.trans hb7
        clear hown7 hb7 HOW5 HB55
        go_wp2
        go_roundw
        case rel => exact ⟨k + 1, g2, cap3, by omega, by go_num, rfl, by rw [HTK.out, uiV_snoc, hGk.out]; exact HO7.out, hb8⟩
        case measure => (simp [intOf]; try omega)
      · obtain rfl : k = K := by omega
        have hcl : (cellU ds G).length = k := by rw [cellU_len, ← HKD.out]
        have HRU : Hid (RI wr q2 (cellU ds G)) := Lib.hid (by
          have h := HOW.out
          rw [show ds.take k = ds by rw [HKD.out, List.take_length]] at h
          exact RI.of_own (by rw [hcl]; exact h))
        have HUB2 : Hid (∀ u ∈ cellU ds G, UIB u) := Lib.hid fun u hu => by
          obtain ⟨j, hj, he⟩ := List.getElem_of_mem hu
          have h1 := cellU_at ds G j
          rw [List.getElem?_eq_getElem hj, he] at h1
          obtain ⟨d', hd', e'⟩ := Option.map_eq_some_iff.1 h1.symm
          obtain ⟨hj4, _, hdl⟩ := cell_k HCO.out hd'
          have hc8 : (C4 j).length ≤ 8 := by rcases C4_len hj4 with ⟨_, h⟩ | ⟨_, h⟩ <;> omega
          rw [← e']
          exact ⟨by show (C4 j).length ≤ 100000; omega, by show d'.length ≤ 100000; omega⟩
        have hSA := sndI_any q2 cap2 (cellU ds G) wr HRU.out (by omega) HUB2.out
        rw [cell_ok HCO.out, hcl] at hSA
        have HSA := Lib.hid hSA
        have HSG := Lib.hid (cell_sig HCO.out)
        have HRC : Hid (∀ (j : Nat) (d : List UInt8), ds[j]? = some d → rcvO (saL (cellU ds G)) (str (C4 j)) 0 (d.length : Int) = some d) := Lib.hid fun j d hd => cell_rcv HCO.out hd
        have HMG : Hid (∀ (j : Nat) (d : List UInt8), ds[j]? = some d → mgO (saL (cellU ds G)) (str (C4 j)) 0 (str d) = if 1 ≤ d.length then some (G j * ((C4 j).length : Int)) else none) := Lib.hid fun j d hd => cell_mg HCO.out hd
        have HAT : Hid (∀ j, (cellU ds G)[j]? = (ds[j]?).map fun d => (C4 j, d, G j, 0)) := Lib.hid fun j => cellU_at ds G j
        have HKK : Hid (∀ (j : Nat) (d : List UInt8), ds[j]? = some d → j < 4 ∧ bitsOK d = true ∧ d.length ≤ 100) := Lib.hid fun j d hd => cell_k HCO.out hd
        obtain ⟨S, hS⟩ : ∃ S, S = saL (cellU ds G) := ⟨_, rfl⟩
        obtain ⟨vs, hvs⟩ : ∃ vs, vs = cellU ds G := ⟨_, rfl⟩
        rw [← hS] at HSA HSG HRC HMG
        rw [← hvs] at HRU HAT hcl
        have HVL := Lib.hid hcl
        have hS3 : S.length ≤ 3000 := sig_len HSG.out
        have hcase : (¬ k < us.length) ∨ (k < us.length ∧ ¬ k < 4) := by have := HKM.out; omega
        clear hSA hS hvs hcl HUB2 HOW HCO HRI5
        rcases hcase with hc1 | ⟨hc1, hc2⟩
        all_goals
          go_wp2_with fail
          refine HSA.out.mono ?_
          rintro e w5 ⟨v5, rfl, hs5', k5⟩
          obtain ⟨A5, c5, rfl, hr5, _⟩ := hs5'.reads
          have HR5 := Lib.hid hr5
          have HRU5 := Lib.hid (HRU.out.below k5)
          have hb5 := HB5.out.trans (k5.mono hs5)
          have HBW := Lib.hid (HB4.out.trans (hb5.mono hws))
          have hsw5 := HBW.out.size
          clear hs5' hr5 k5 hb5 HSA HRU HB5
          go_wp2
          go_loopw [15, 16, 17, 18] (fun i _ _ _ u => ∃ j : Nat, j ≤ k ∧ i = .int .i64 (j : Int) ∧ Below w5.heap.size w5 u) (fun i _ _ _ _ => k - (intOf i).toNat)
          case atStart => exact ⟨0, Nat.zero_le _, rfl, Below.refl _ _⟩
          case round =>
            obtain ⟨j, hj, rfl, hb⟩ := hrel
            obtain ⟨u, rfl⟩ : ∃ u, u = wr := ⟨_, rfl⟩
            by_cases hlt2 : j < k
            · obtain ⟨c, d, a, y, hu, c0, c1, c2, c3⟩ := (HRU5.out.below hb).2 j (by rw [HVL.out]; exact hlt2)
              rw [HAT.out] at hu
              obtain ⟨d', hd', e'⟩ := Option.map_eq_some_iff.1 hu
              simp only [Prod.mk.injEq] at e'
              obtain ⟨rfl, rfl, rfl, rfl⟩ := e'
              obtain ⟨hj4, hbd, hdl⟩ := HKK.out j _ hd'
              have hrc := HRC.out j _ hd'
              have hmg := HMG.out j _ hd'
              obtain ⟨g, hg, hg7⟩ : ∃ g : Nat, G j = (g : Int) ∧ g ≤ 7 := ⟨_, HGE.out j, by omega⟩
              rw [hg] at c2 hmg
              have hcl : (C4 j).length ≤ 8 := by rcases C4_len hj4 with ⟨_, h⟩ | ⟨_, h⟩ <;> omega
              have zc := str_size (C4 j)
              have zd := str_size d'
              obtain ⟨C, hC⟩ : ∃ C, C = C4 j := ⟨_, rfl⟩
              rw [← hC] at c0 hrc hmg hcl zc
              obtain ⟨n, hn⟩ : ∃ n, n = C.length := ⟨_, rfl⟩
              rw [← hn] at hmg hcl zc
              obtain ⟨p, hp, hp56⟩ : ∃ p : Nat, p = g * n ∧ p ≤ 56 := ⟨_, rfl, by have := Nat.mul_le_mul hg7 hcl; omega⟩
              have eq1 : (g : Int) * (n : Int) = (p : Int) := by rw [hp]; simp
              rw [eq1] at hmg
              have HSU : Hid (∀ x, Below w5.heap.size w5 x → Calls Try.prog 15 #[.slice A5 S.length c5, .string (str C), .int .i64 0, .int .i64 (d'.length : Int)] x fun e w' => e = .returned (.string (str d')) ∧ Below x.heap.size x w') := Lib.hid fun x hx => ssUser_yes A5 c5 S (str C) 0 (d'.length : Int) d' x (reads_up4 HR5.out hx) (by omega) (by rw [zc]; unfold maxLen; omega) hrc
              have HMI : Hid (∀ x, Below w5.heap.size w5 x → Calls Try.prog 17 #[.slice A5 S.length c5, .string (str C), .int .i64 0, .string (str d')] x fun e w' => e = .returned (intRes (if 1 ≤ d'.length then some (p : Int) else none)) ∧ Below x.heap.size x w') := Lib.hid fun x hx => by
                have := mgI_any A5 c5 S (str C) 0 (str d') x (reads_up4 HR5.out hx) (by omega) (by rw [zc]; unfold maxLen; omega) (by rw [zd]; unfold maxLen; omega)
                rw [hmg] at this
                exact this
              obtain ⟨V, hV⟩ : ∃ V, V = u.alloc (.cells #[.string (str C), .string (str d'), .int .i64 (g : Int), .int .i64 0] 45) := ⟨_, rfl⟩
              have hbV : Below u.heap.size u V := by rw [hV]; exact (Below.refl _ _).alloc (Nat.le_refl _) _
              have hVs : u.heap.size < V.heap.size := by rw [hV]; simp
              have HX : Hid (∀ x, Below V.heap.size V x → x.cell? ⟨u.heap.size, 0, none⟩ = some (.string (str C)) ∧ x.cell? ⟨u.heap.size, 1, none⟩ = some (.string (str d')) ∧ x.cell? ⟨u.heap.size, 2, none⟩ = some (.int .i64 (g : Int)) ∧ x.cell? ⟨u.heap.size, 3, none⟩ = some (.int .i64 0)) := Lib.hid fun x hx => by
                have hh : ∀ i, x.cell? ⟨u.heap.size, i, none⟩ = V.cell? ⟨u.heap.size, i, none⟩ := fun i => hx.cell hVs
                rw [hh, hh, hh, hh, hV]
                exact ⟨by simp, by simp, by simp, by simp⟩
              have hb5V := hb.trans (hbV.mono hb.size)
              have HBV := Lib.hid hb5V
              have hsV := hb5V.size
              have HSU2 : Hid (∀ x, Below V.heap.size V x → Calls Try.prog 15 #[.slice A5 S.length c5, .string (str C), .int .i64 0, .int .i64 (d'.length : Int)] x fun e w' => e = .returned (.string (str d')) ∧ Below x.heap.size x w') := Lib.hid fun x hx => HSU.out x (HBV.out.trans (hx.mono hsV))
              have HMI2 : Hid (∀ x, Below V.heap.size V x → Calls Try.prog 17 #[.slice A5 S.length c5, .string (str C), .int .i64 0, .string (str d')] x fun e w' => e = .returned (intRes (if 1 ≤ d'.length then some (p : Int) else none)) ∧ Below x.heap.size x w') := Lib.hid fun x hx => HMI.out x (HBV.out.trans (hx.mono hsV))
              have hVb := Below.refl V.heap.size V
              clear hu hd' hbd hrc hmg hg hC hn hp hbV hb5V HSU HMI hb
              go_wp2
              rw [← hV]
              clear hV c0 c1 c2 c3
              refine wp_region_held_drew (S := (fun x => x.cell? ⟨u.heap.size, 0, none⟩ = some (.string (str C)) ∧ x.cell? ⟨u.heap.size, 1, none⟩ = some (.string (str d')) ∧ x.cell? ⟨u.heap.size, 2, none⟩ = some (.int .i64 (g : Int)) ∧ x.cell? ⟨u.heap.size, 3, none⟩ = some (.int .i64 0))) (by kernel_rfl) ?_ (fun hHeld => ?_)
              · (try dsimp only)
                exact HX.out _ (by first | assumption | exact Below.drew (by assumption))
              first
                | (refine wpAnyH_take (i := 0) (oi := ⟨(some 118), _, _, _, _, _⟩) (v := ?_) rfl (by kernel_rfl) (by kernel_rfl) (by kernel_rfl) (fun _ _ _ h => h) (Or.inl ⟨by rfl, ?_⟩) (by assumption) ?_; rotate_left; (focus (intro ww hSw; (try dsimp only at hSw); go_simp; (try with_reducible rfl))))
                | (refine wpAnyH_take (i := 0) (oi := ⟨(some 118), _, _, _, _, _⟩) (v := undef) rfl (by kernel_rfl) (by kernel_rfl) (by kernel_rfl) (fun _ _ _ h => h) (Or.inr ⟨by rfl, rfl⟩) (by assumption) ?_)
              (try simp only [Act.put, List.setIfInBounds_toArray, List.set_cons_zero, List.set_cons_succ])
              first
                | (refine wpAnyH_take (i := 1) (oi := ⟨(some 119), _, _, _, _, _⟩) (v := ?_) rfl (by kernel_rfl) (by kernel_rfl) (by kernel_rfl) (fun _ _ _ h => h) (Or.inl ⟨by rfl, ?_⟩) (by assumption) ?_; rotate_left; (focus (intro ww hSw; (try dsimp only at hSw); go_simp; (try with_reducible rfl))))
                | (refine wpAnyH_take (i := 1) (oi := ⟨(some 119), _, _, _, _, _⟩) (v := undef) rfl (by kernel_rfl) (by kernel_rfl) (by kernel_rfl) (fun _ _ _ h => h) (Or.inr ⟨by rfl, rfl⟩) (by assumption) ?_)
              (try simp only [Act.put, List.setIfInBounds_toArray, List.set_cons_zero, List.set_cons_succ])
              first
                | (refine wpAnyH_take (i := 2) (oi := ⟨(some 120), _, _, _, _, _⟩) (v := ?_) rfl (by kernel_rfl) (by kernel_rfl) (by kernel_rfl) (fun _ _ _ h => h) (Or.inl ⟨by rfl, ?_⟩) (by assumption) ?_; rotate_left; (focus (intro ww hSw; (try dsimp only at hSw); go_simp; (try with_reducible rfl))))
                | (refine wpAnyH_take (i := 2) (oi := ⟨(some 120), _, _, _, _, _⟩) (v := undef) rfl (by kernel_rfl) (by kernel_rfl) (by kernel_rfl) (fun _ _ _ h => h) (Or.inr ⟨by rfl, rfl⟩) (by assumption) ?_)
              (try simp only [Act.put, List.setIfInBounds_toArray, List.set_cons_zero, List.set_cons_succ])
              first
                | (refine wpAnyH_take (i := 3) (oi := ⟨(some 121), _, _, _, _, _⟩) (v := ?_) rfl (by kernel_rfl) (by kernel_rfl) (by kernel_rfl) (fun _ _ _ h => h) (Or.inl ⟨by rfl, ?_⟩) (by assumption) ?_; rotate_left; (focus (intro ww hSw; (try dsimp only at hSw); go_simp; (try with_reducible rfl))))
                | (refine wpAnyH_take (i := 3) (oi := ⟨(some 121), _, _, _, _, _⟩) (v := undef) rfl (by kernel_rfl) (by kernel_rfl) (by kernel_rfl) (fun _ _ _ h => h) (Or.inr ⟨by rfl, rfl⟩) (by assumption) ?_)
              (try simp only [Act.put, List.setIfInBounds_toArray, List.set_cons_zero, List.set_cons_succ])
              first
                | (refine wpAnyH_take (i := 4) (oi := ⟨(some 122), _, _, _, _, _⟩) (v := ?_) rfl (by kernel_rfl) (by kernel_rfl) (by kernel_rfl) (fun _ _ _ h => h) (Or.inl ⟨by rfl, ?_⟩) (by assumption) ?_; rotate_left; (focus (intro ww hSw; (try dsimp only at hSw); go_simp; (try with_reducible rfl))))
                | (refine wpAnyH_take (i := 4) (oi := ⟨(some 122), _, _, _, _, _⟩) (v := undef) rfl (by kernel_rfl) (by kernel_rfl) (by kernel_rfl) (fun _ _ _ h => h) (Or.inr ⟨by rfl, rfl⟩) (by assumption) ?_)
              (try simp only [Act.put, List.setIfInBounds_toArray, List.set_cons_zero, List.set_cons_succ])
              first
                | (refine wpAnyH_take (i := 5) (oi := ⟨(some 123), _, _, _, _, _⟩) (v := ?_) rfl (by kernel_rfl) (by kernel_rfl) (by kernel_rfl) (fun _ _ _ h => h) (Or.inl ⟨by rfl, ?_⟩) (by assumption) ?_; rotate_left; (focus (intro ww hSw; (try dsimp only at hSw); go_simp; (try with_reducible rfl))))
                | (refine wpAnyH_take (i := 5) (oi := ⟨(some 123), _, _, _, _, _⟩) (v := undef) rfl (by kernel_rfl) (by kernel_rfl) (by kernel_rfl) (fun _ _ _ h => h) (Or.inr ⟨by rfl, rfl⟩) (by assumption) ?_)
              (try simp only [Act.put, List.setIfInBounds_toArray, List.set_cons_zero, List.set_cons_succ])
              first
                | (refine wpAnyH_take (i := 7) (oi := ⟨(some 125), _, _, _, _, _⟩) (v := ?_) rfl (by kernel_rfl) (by kernel_rfl) (by kernel_rfl) (fun _ _ _ h => h) (Or.inl ⟨by rfl, ?_⟩) (by assumption) ?_; rotate_left; (focus (intro ww hSw; (try dsimp only at hSw); go_simp; (try with_reducible rfl))))
                | (refine wpAnyH_take (i := 7) (oi := ⟨(some 125), _, _, _, _, _⟩) (v := undef) rfl (by kernel_rfl) (by kernel_rfl) (by kernel_rfl) (fun _ _ _ h => h) (Or.inr ⟨by rfl, rfl⟩) (by assumption) ?_)
              (try simp only [Act.put, List.setIfInBounds_toArray, List.set_cons_zero, List.set_cons_succ])
              first
                | (refine wpAnyH_take (i := 8) (oi := ⟨(some 126), _, _, _, _, _⟩) (v := ?_) rfl (by kernel_rfl) (by kernel_rfl) (by kernel_rfl) (fun _ _ _ h => h) (Or.inl ⟨by rfl, ?_⟩) (by assumption) ?_; rotate_left; (focus (intro ww hSw; (try dsimp only at hSw); go_simp; (try with_reducible rfl))))
                | (refine wpAnyH_take (i := 8) (oi := ⟨(some 126), _, _, _, _, _⟩) (v := undef) rfl (by kernel_rfl) (by kernel_rfl) (by kernel_rfl) (fun _ _ _ h => h) (Or.inr ⟨by rfl, rfl⟩) (by assumption) ?_)
              (try simp only [Act.put, List.setIfInBounds_toArray, List.set_cons_zero, List.set_cons_succ])
              refine wpAnyH_ready (rs := [6]) (by kernel_rfl) (by simp) ?_
              refine AllReadyH.cons (o := ⟨(some 124), _, _, _, _, _⟩) rfl (fun K hK => ?_) AllReadyH.nil
              go_simp
              refine (relB (W0 := V) (by first | assumption | exact Below.drew (by assumption)) (HSU2.out _ (by first | assumption | exact Below.drew (by assumption)))).mono ?_
              rintro e q1 ⟨rfl, hq1⟩
              clear hVb
              go_wp2_with fail
              refine hK.out _ _ ?_ (fun hHeld => ?_)
              · (try dsimp only)
                exact HX.out _ (by first | assumption | exact Below.drew (by assumption))
              clear hK K
              (try simp only [Act.put, List.setIfInBounds_toArray, List.set_cons_zero, List.set_cons_succ])
              first
                | (refine wpAnyH_take (i := 9) (oi := ⟨(some 127), _, _, _, _, _⟩) (v := ?_) rfl (by kernel_rfl) (by kernel_rfl) (by kernel_rfl) (fun _ _ _ h => h) (Or.inl ⟨by rfl, ?_⟩) (by assumption) ?_; rotate_left; (focus (intro ww hSw; (try dsimp only at hSw); go_simp; (try with_reducible rfl))))
                | (refine wpAnyH_take (i := 9) (oi := ⟨(some 127), _, _, _, _, _⟩) (v := undef) rfl (by kernel_rfl) (by kernel_rfl) (by kernel_rfl) (fun _ _ _ h => h) (Or.inr ⟨by rfl, rfl⟩) (by assumption) ?_)
              (try simp only [Act.put, List.setIfInBounds_toArray, List.set_cons_zero, List.set_cons_succ])
              refine wpAnyH_done (by kernel_rfl) ?_ _
              skip
              obtain ⟨e0, e1, e2, e3⟩ := HX.out q1 hq1
              have hMI := Lib.hid (HMI2.out q1 hq1)
              by_cases hd1 : 1 ≤ d'.length
              · rw [if_pos hd1] at hMI
                change Hid (Calls _ _ _ _ fun e w' => e = .returned (.tuple #[.int .i64 (p : Int), .bool true]) ∧ _) at hMI
                go_wp2_with fail
                refine hMI.out.mono ?_
                rintro e x2 ⟨rfl, k2⟩
                have hx2 := hq1.trans (k2.mono hq1.size)
                have HF := Lib.hid (HBV.out.trans (hx2.mono hsV))
                clear e0 e1 e2 e3 k2 hMI
                obtain ⟨e0, e1, e2, e3⟩ := HX.out x2 hx2
                go_wp2
                go_roundw
                case rel => exact ⟨j + 1, by omega, by go_num, HF.out⟩
                case measure => (simp [intOf]; try omega)
              · rw [if_neg hd1] at hMI
                change Hid (Calls _ _ _ _ fun e w' => e = .returned (.tuple #[.int .i64 0, .bool false]) ∧ _) at hMI
                go_wp2_with fail
                refine hMI.out.mono ?_
                rintro e x2 ⟨rfl, k2⟩
                have hx2 := hq1.trans (k2.mono hq1.size)
                have HF := Lib.hid (HBV.out.trans (hx2.mono hsV))
                clear e0 e1 e2 e3 k2 hMI
                go_wp2
                go_roundw
                case rel => exact ⟨j + 1, by omega, by go_num, HF.out⟩
                case measure => (simp [intOf]; try omega)
            · obtain rfl : j = k := by omega
              go_wp2
              go_ret
              exact ⟨rfl, HBW.out.trans (hb.mono hsw5)⟩
end Go.Proofs.Ytiiiaeemblcniaa.fnWholeCell
