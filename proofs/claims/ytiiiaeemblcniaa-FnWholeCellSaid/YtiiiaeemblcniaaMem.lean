/- Plain facts on memory: rows that a call owns and grows by append, and slices of numbers that are read. No function of the program is in sight here. -/
import Derived.Test.YtiiiaeemblcniaaPlain3
import Derived.Deep.AppendLies
import Derived.Deep.Draws
import Derived.Laws.MakeOwn
namespace Go.Proofs.Ytiiiaeemblcniaa
set_option maxRecDepth 20000
open Go.RowKit
set_option linter.unusedVariables false
set_option linter.unusedSimpArgs false

/-- a slice that the call made: block g, from B on, n elements of one cell each, room for cap -/
def Own (w : World) (B : Nat) (e : TypeId) (g n cap : Nat) (xs : List Value) : Prop := w.ownsRow B e 1 (.slice (some ⟨g, 0, none⟩) n cap) n xs
theorem Own.len {w : World} {B : Nat} {e : TypeId} {g n cap : Nat} {xs : List Value} (h : Own w B e g n cap xs) : xs.length = n := by have := h.1; omega
theorem Own.lt {w : World} {B : Nat} {e : TypeId} {g n cap : Nat} {xs : List Value} (h : Own w B e g n cap xs) : B ≤ g ∧ g < w.heap.size := World.ownsRow.lt h g rfl
theorem Own.cap {w : World} {B : Nat} {e : TypeId} {g n cap : Nat} {xs : List Value} (h : Own w B e g n cap xs) : n ≤ cap ∧ cap ≤ maxLen := by
  rcases h.2 with ⟨h', _⟩ | ⟨g', cap', cur, h', _, _, h1, h2, _⟩
  · cases h'
  · simp only [Value.slice.injEq, Option.some.injEq, Addr.mk.injEq, and_true, true_and] at h'
    obtain ⟨rfl, rfl⟩ := h'
    exact ⟨h1, h2⟩
theorem Own.cell {w : World} {B : Nat} {e : TypeId} {g n cap : Nat} {xs : List Value} (h : Own w B e g n cap xs) {j : Nat} (hj : j < n) : w.cell? ⟨g, j, none⟩ = xs[j]? := World.ownsRow.cellAt h j (by omega)
theorem Own.frozen {w : World} {B : Nat} {e : TypeId} {g n cap : Nat} {xs : List Value} (h : Own w B e g n cap xs) (j : Nat) : w.frozen? ⟨g, j, none⟩ = false := World.ownsRow.frozenAt h j
theorem Own.set {w : World} {B : Nat} {e : TypeId} {g n cap : Nat} {xs : List Value} (h : Own w B e g n cap xs) (j : Nat) (u : Value) : Own (w.setCell ⟨g, j, none⟩ u) B e g n cap (xs.set j u) := (World.ownsRow.stored h j u).1
theorem Own.setOther {w : World} {B : Nat} {e : TypeId} {g n cap : Nat} {xs : List Value} (h : Own w B e g n cap xs) {p : Addr} (hp : g ≠ p.block) (u : Value) : Own (w.setCell p u) B e g n cap xs := by
  obtain ⟨h1, h2⟩ := h
  refine ⟨h1, ?_⟩
  rcases h2 with h2 | ⟨g', c', cur, h', hB, hh, r⟩
  · exact .inl h2
  · have : g' = g := by simp only [Value.slice.injEq, Option.some.injEq, Addr.mk.injEq, and_true, true_and] at h'; omega
    subst this
    exact .inr ⟨g', c', cur, h', hB, (Below.heap_setCell _ _ _ _ hp).trans hh, r⟩
theorem Own.alloc {w : World} {B : Nat} {e : TypeId} {g n cap : Nat} {xs : List Value} (h : Own w B e g n cap xs) (o : Obj) : Own (w.alloc o) B e g n cap xs := World.ownsRow.alloc h o
theorem Own.drew {w : World} {B : Nat} {e : TypeId} {g n cap : Nat} {xs : List Value} (h : Own w B e g n cap xs) : Own w.drew B e g n cap xs := h
theorem Own.below {w w' : World} {B B' : Nat} {e : TypeId} {g n cap : Nat} {xs : List Value} (h : Own w B e g n cap xs) (hb : Below B' w w') (hg : g < B') : Own w' B e g n cap xs := by
  obtain ⟨h1, h2⟩ := h
  refine ⟨h1, ?_⟩
  rcases h2 with h2 | ⟨g', c', cur, h', hB, hh, r⟩
  · exact .inl h2
  · have : g' = g := by simp only [Value.slice.injEq, Option.some.injEq, Addr.mk.injEq, and_true, true_and] at h'; omega
    subst this
    exact .inr ⟨g', c', cur, h', hB, (hb.block g' hg).trans hh, r⟩
theorem Own.mono {w : World} {B B' : Nat} {e : TypeId} {g n cap : Nat} {xs : List Value} (h : Own w B e g n cap xs) (hB : B' ≤ B) : Own w B' e g n cap xs := by
  obtain ⟨h1, h2⟩ := h
  refine ⟨h1, ?_⟩
  rcases h2 with h2 | ⟨g', c', cur, h', hB', r⟩
  · exact .inl h2
  · exact .inr ⟨g', c', cur, h', by omega, r⟩
/-- a literal slice -/
theorem Own.lit {w : World} {B : Nat} (e : TypeId) (cs : Array Value) (n : Nat) (hB : B ≤ w.heap.size) (hn : n ≤ maxLen) (hs : cs.size = n) : Own (w.alloc (.cells cs e)) B e w.heap.size n n cs.toList :=
  World.ownsRow_lit w cs n hB hn (by omega)
/-- 'make([]T, 0, cap)' -/
theorem Own.made {w : World} {B : Nat} (e : TypeId) (cs : Array Value) (cap : Nat) (hB : B ≤ w.heap.size) (hn : cap ≤ maxLen) (hs : cs.size = cap) : Own (w.alloc (.cells cs e)) B e w.heap.size 0 cap [] :=
  World.ownsRow_made w cs cap hB hn (by omega)
/-- a row that is known cell by cell is owned -/
theorem Own.of_row {w : World} {B : Nat} {e : TypeId} {g n : Nat} {f : Nat → Value} (h : w.rowIs g e n f) (hB : B ≤ g) (hn : n ≤ maxLen) : Own w B e g n n ((List.range n).map f) := by
  obtain ⟨cs, h1, h2, h3⟩ := h
  refine ⟨by simp, .inr ⟨g, n, cs, rfl, hB, h1, Nat.le_refl _, hn, by omega, ?_⟩⟩
  apply List.ext_getElem?
  intro i
  by_cases hi : i < n
  · rw [List.getElem?_take, if_pos (by omega), Array.getElem?_toList, h3 i hi]
    simp [hi]
  · rw [List.getElem?_eq_none (by simp; omega), List.getElem?_eq_none (by simp; omega)]

/-- 'append(out, x)' at a plain region's list: the element lies in a block of its own that was made just before -/
theorem app1 {P : Program} (T E : TypeId) {zv : Value} {bytes : Nat} (hT : P.underlying T = some (.slice E)) (hE : (P.info? E).map (fun i => (i.zero, i.size, i.bytes)) = some (some zv, 1, bytes)) (hz1 : zv.cells.size = 1)
    {w0 w : World} {ops : Array Oper} {rest : List Oper} {o : Oper} {a : Act} {Q : Exit → Act → World → Prop} (hgd : o.guard = none) (s x : Operand)
    (ho : o.op = .call { callee := .builtin .append, args := #[s, x], argTypes := #[T, T] }) (B g n cap : Nat) (xs : List Value) (v : Value)
    (hs : a.eval s = .slice (some ⟨g, 0, none⟩) n cap) (hx : a.eval x = .slice (some ⟨w.heap.size, 0, none⟩) 1 1)
    (hown : Own w B E g n cap xs) (hb : Below B w0 w) (hB : B ≤ w0.heap.size) (hv : v.oneCell' = true) (hn : (n + 1) * bytes ≤ 140737488355328) (hm : n + 1 ≤ maxLen)
    (h : ∀ g' cap' w', Own w' B E g' (n + 1) cap' (xs ++ [v]) → Below B w0 w' → wpList P ops Q rest (a.put o.dst (.slice (some ⟨g', 0, none⟩) (n + 1) cap')) w') :
    wpList P ops Q (o :: rest) a (w.alloc (.cells #[v] E)) := by
  obtain ⟨i, hi, hz, hsz, hby⟩ := info_parts hE
  have hBw : B ≤ w.heap.size := Nat.le_trans hB hb.size
  refine wpList_append_lies (w.alloc (.cells #[v] E)) hgd s x T ho B E i zv 1 bytes hT hi hz hsz hby hz1 (by omega) (.slice (some ⟨g, 0, none⟩) n cap) n xs hs (World.ownsRow.alloc hown _) ⟨w.heap.size, 0, none⟩ 1 1 [v] hx rfl ?_ ?_ (by omega) hm hn (by simp; omega) _ rfl ?_
  · intro j u hj
    match j, hj with
    | 0, hj => simp at hj; subst hj; simp [Addr.add]
  · intro u hu; simp at hu; subst hu; exact hv
  · intro g' cap' w' h1 h2 h3 h4
    refine h g' cap' w' h1 ((hb.alloc hBw _).grown h2 (by simp; omega) ?_)
    intro k hk
    simp [Value.ownBlock] at hk
    subst hk
    exact hown.lt.1
def byteV (c : UInt8) : Value := .int .u8 (c.toNat : Int)
def intV (n : Int) : Value := .int .i64 n
theorem byteV_at (l : List UInt8) (j : Nat) (h : j < l.length) : (l.map byteV)[j]? = some (.int .u8 ((l.getD j 0).toNat : Int)) := by
  rw [List.getElem?_map, List.getElem?_eq_getElem h, List.getD_eq_getElem?_getD, List.getElem?_eq_getElem h]; rfl
theorem intV_at (l : List Int) (j : Nat) (h : j < l.length) : (l.map intV)[j]? = some (.int .i64 (l.getD j 0)) := by
  rw [List.getElem?_map, List.getElem?_eq_getElem h, List.getD_eq_getElem?_getD, List.getElem?_eq_getElem h]; rfl
/-- 'string(b)' of bytes that the call owns -/
theorem conv_own {P : Program} {wr : World} {B g n cap : Nat} {src dst e : TypeId} (l : List UInt8) (hl : l.length = n) (hown : Own wr B e g n cap (l.map byteV))
    (hs : P.underlying src = some (.slice e)) (he : P.underlying e = some (.int .u8)) (hd : P.underlying dst = some .string) :
    (convert src dst (.slice (some ⟨g, 0, none⟩) n cap)).run P wr = .ok (.string ⟨l.toArray⟩) wr := by
  subst hl
  refine run_convert_bytes_back (P := P) wr src dst e ⟨g, 0, none⟩ cap l hs he hd (fun j hj => ?_)
  rw [add_zero_off, hown.cell hj, byteV_at l j hj, List.getD_eq_getElem?_getD, List.getElem?_eq_getElem hj]
  rfl

/-- a slice of numbers that is read: nil or not, it lies below block B and holds l -/
def Reads (w : World) (B : Nat) (A : Option Addr) (l : List Int) : Prop := 0 < l.length → ∃ ad, A = some ad ∧ ad.block < B ∧ ∀ j, j < l.length → w.cell? (ad.add j) = some (.int .i64 (l.getD j 0))
theorem Reads.keep {w w' : World} {B : Nat} {A : Option Addr} {l : List Int} (h : Reads w B A l) (hk : ∀ p : Addr, p.block < B → w'.cell? p = w.cell? p) : Reads w' B A l := fun hn => by
  obtain ⟨ad, e, hb, hc⟩ := h hn
  exact ⟨ad, e, hb, fun j hj => (hk _ (by unfold Addr.add; split <;> exact hb)).trans (hc j hj)⟩
theorem Reads.more {w : World} {B B' : Nat} {A : Option Addr} {l : List Int} (h : Reads w B A l) (hB : B ≤ B') : Reads w B' A l := fun hn => by
  obtain ⟨ad, e, hb, hc⟩ := h hn
  exact ⟨ad, e, by omega, hc⟩
theorem Reads.below {w w' : World} {B B' : Nat} {A : Option Addr} {l : List Int} (h : Reads w B A l) (hb : Below B' w w') (hB : B ≤ B') : Reads w' B A l := h.keep fun _ hp => hb.cell (by omega)
theorem Reads.drew {w : World} {B : Nat} {A : Option Addr} {l : List Int} (h : Reads w B A l) : Reads w.drew B A l := h
theorem Reads.drewN {w : World} {B : Nat} {A : Option Addr} {l : List Int} (h : Reads w B A l) (k : Nat) : Reads (w.drewN k) B A l := h
theorem Reads.alloc {w : World} {B : Nat} {A : Option Addr} {l : List Int} (h : Reads w B A l) (hB : B ≤ w.heap.size) (o : Obj) : Reads (w.alloc o) B A l := h.keep fun p hp => World.cell?_alloc_lt w o p (by omega)
theorem Reads.setCell {w : World} {B : Nat} {A : Option Addr} {l : List Int} (h : Reads w B A l) {p : Addr} (hB : B ≤ p.block) (u : Value) : Reads (w.setCell p u) B A l :=
  h.keep fun q hq => World.cell?_setCell_other w p q u (fun e => by subst e; omega)
theorem Reads.at_ {w : World} {B k : Nat} {A : Option Addr} {l : List Int} (h : Reads w B A l) (hk : k < l.length) : ∃ ad, A = some ad ∧ ad.block < B ∧ w.cell? (ad.add k) = some (.int .i64 (l.getD k 0)) := by
  obtain ⟨ad, e, hb, hc⟩ := h (by omega)
  exact ⟨ad, e, hb, hc k hk⟩
theorem Reads.of_own {w : World} {B0 B : Nat} {e : TypeId} {g n cap : Nat} {l : List Int} (h : Own w B0 e g n cap (l.map intV)) (hB : g < B) : Reads w B (some ⟨g, 0, none⟩) l := fun _ =>
  ⟨_, rfl, hB, fun j hj => by rw [add_zero_off, h.cell (by have := h.len; simp at this; omega), intV_at l j hj]⟩
theorem add_of_add (a : Addr) (i j : Nat) : (a.add i).add j = a.add (i + j) := by
  unfold Addr.add
  by_cases hi : i = 0 <;> by_cases hj : j = 0 <;> simp [hi, hj, Nat.add_assoc]
/-- 's[k:]' -/
theorem Reads.cut {w : World} {B : Nat} {A : Option Addr} {l : List Int} (h : Reads w B A l) {k cap : Nat} (hk : k ≤ l.length) (hc : l.length ≤ cap) :
    Reads w B (if cap = k then A else A.map (·.add k)) (l.drop k) := fun hn => by
  rw [List.length_drop] at hn
  obtain ⟨ad, rfl, hb, hcell⟩ := h (by omega)
  rw [if_neg (by omega)]
  refine ⟨ad.add k, rfl, by unfold Addr.add; split <;> exact hb, fun j hj => ?_⟩
  rw [List.length_drop] at hj
  rw [add_of_add, hcell _ (by omega)]
  simp [List.getD_eq_getElem?_getD]
/-- 's[:k]' -/
theorem Reads.take {w : World} {B : Nat} {A : Option Addr} {l : List Int} (h : Reads w B A l) (k : Nat) : Reads w B A (l.take k) := fun hn => by
  rw [List.length_take] at hn
  obtain ⟨ad, rfl, hb, hcell⟩ := h (by omega)
  refine ⟨ad, rfl, hb, fun j hj => ?_⟩
  rw [List.length_take] at hj
  rw [hcell _ (by omega)]
  simp [List.getD_eq_getElem?_getD, List.getElem?_take, show j < k by omega]
/-- 'make([]T, 0, n)' -/
theorem run_make0 {P : Program} {T E : TypeId} {z : Value} {bytes : Nat} (hT : P.underlying T = some (.slice E)) (hE : (P.info? E).map (fun i => (i.zero, i.size, i.bytes)) = some (some z, 1, bytes)) (hz1 : z.cells = #[z])
    (n : Nat) (hb : bytes * n ≤ 281474976710656) (hn : n ≤ 9223372036854775807) (w : World) :
    (Instr.makeSlice T (.int .i64 0) (.int .i64 (n : Int))).run P w = .ok (.slice (some ⟨w.heap.size, 0, none⟩) 0 n) (w.alloc (.cells (madeCells #[z] n) E)) := by
  obtain ⟨i, hi, hz, hsz, hby⟩ := info_parts hE
  have h2 : (i.bytes : Int) * (n : Int) ≤ 281474976710656 := by
    rw [hby]
    have h : ((bytes * n : Nat) : Int) ≤ 281474976710656 := by omega
    rwa [Int.natCast_mul] at h
  have hr := run_make (P := P) w T E i z hT hi hz .i64 .i64 (0 : Nat) n (by omega) (by omega) h2 (by omega)
  simp only [Int.toNat_natCast, hsz, hz1, Nat.mul_one] at hr
  exact hr
/-- a call that leaves the world alone leaves what is below alone -/
theorem bel_of_same {P : Program} {f : FuncId} {args : Array Value} {w : World} {v : Value} (h : Calls P f args w fun e w' => e = .returned v ∧ w = w') : Calls P f args w fun e w' => e = .returned v ∧ Below w.heap.size w w' :=
  h.mono fun e w' ⟨a, b⟩ => ⟨a, by subst b; exact Below.refl _ _⟩
theorem Below.drewN {B : Nat} {a w : World} (h : Below B a w) (n : Nat) : Below B a (w.drewN n) := ⟨h.os, h.tape, h.output, h.size, h.block⟩
/-- a string of a list of bytes -/
def str (l : List UInt8) : ByteArray := ⟨l.toArray⟩
theorem str_size (l : List UInt8) : (str l).size = l.length := by simp [str, ByteArray.size]
theorem str_list (l : List UInt8) : (str l).data.toList = l := by simp [str]
theorem str_of (s : ByteArray) : str s.data.toList = s := by simp [str]
theorem str_add (a b : List UInt8) : str a ++ str b = str (a ++ b) := by
  have h : (str a ++ str b).data.toList = a ++ b := by simp [str]
  rw [← h, str_of]
theorem str_ex (l : List UInt8) (i j : Nat) : (str l).extract i j = str ((l.take j).drop i) := by
  rw [← str_of ((str l).extract i j), ex_list, str_list]
theorem str_get (l : List UInt8) (k : Nat) (h : k < (str l).size) : (str l)[k] = l.getD k 0 := by
  rw [← getD_at _ k h, str_list]
theorem ex_one (s : ByteArray) (k : Nat) (h : k < s.size) : s.extract k (k + 1) = str [s[k]] := by
  rw [← str_of (s.extract k (k + 1)), ex_list]
  congr 1
  rw [take_snoc s k h, List.drop_append, List.drop_of_length_le (by simp; omega), List.length_take, data_length, Nat.min_eq_left (by omega), Nat.sub_self]
  rfl
end Go.Proofs.Ytiiiaeemblcniaa
