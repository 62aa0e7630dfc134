/- Plain facts on '[]byte(s)': rows that a conversion made; and an append of several elements. No function of the program is in sight here. -/
import Derived.Test.YtiiiaeemblcniaaMem
namespace Go.Proofs.Ytiiiaeemblcniaa
set_option maxRecDepth 20000
open Go.RowKit
set_option linter.unusedVariables false
set_option linter.unusedSimpArgs false

/-- the first n cells of block g hold f, and may be written -/
def bRow (w : World) (g : Nat) (e : TypeId) (n : Nat) (f : Nat → Value) : Prop := ∃ C p q, w.heap[g]? = some (.cells C e (p, q)) ∧ n ≤ p ∧ n ≤ C.size ∧ ∀ i, i < n → C[i]? = some (f i)
section
variable {w w' : World} {g n : Nat} {e : TypeId} {f : Nat → Value}
theorem bRow.cell (h : bRow w g e n f) {i : Nat} (hi : i < n) : w.cell? ⟨g, i, none⟩ = some (f i) := by
  obtain ⟨C, p, q, hb, _, _, hc⟩ := h
  simp [World.cell?, hb, hc i hi]
theorem bRow.frozen (h : bRow w g e n f) {i : Nat} (hi : i < n) : w.frozen? ⟨g, i, none⟩ = false := by
  obtain ⟨C, p, q, hb, hp, _, _⟩ := h
  simp [World.frozen?, hb]
  intro h; omega
theorem bRow.lt (h : bRow w g e n f) : g < w.heap.size := by
  obtain ⟨C, p, q, hb, _⟩ := h
  rcases Nat.lt_or_ge g w.heap.size with hlt | hge
  · exact hlt
  · rw [Array.getElem?_eq_none hge] at hb; cases hb
theorem bRow.of_block (h : bRow w g e n f) (hb : w'.heap[g]? = w.heap[g]?) : bRow w' g e n f := by
  obtain ⟨C, p, q, h1, r⟩ := h
  exact ⟨C, p, q, hb.trans h1, r⟩
theorem bRow.drew (h : bRow w g e n f) : bRow w.drew g e n f := h
theorem bRow.alloc (h : bRow w g e n f) (o : Obj) : bRow (w.alloc o) g e n f := h.of_block (Below.heap_alloc _ _ _ h.lt)
theorem bRow.below {B : Nat} (h : bRow w g e n f) (hb : Below B w w') (hg : g < B) : bRow w' g e n f := h.of_block (hb.block g hg)
theorem bRow.congr {f' : Nat → Value} (h : bRow w g e n f) (he : ∀ i, i < n → f i = f' i) : bRow w g e n f' := by
  obtain ⟨C, p, q, h1, h2, h3, h4⟩ := h
  exact ⟨C, p, q, h1, h2, h3, fun i hi => by rw [h4 i hi, he i hi]⟩
theorem bRow.set (h : bRow w g e n f) (i : Nat) (v : Value) : bRow (w.setCell ⟨g, i, none⟩ v) g e n (fun j => if j = i then v else f j) := by
  obtain ⟨c, p, q, hb, hp, hn, hc⟩ := h
  refine ⟨c.setIfInBounds i v, p, q, ?_, hp, by simpa using hn, fun j hj => ?_⟩
  · simp [World.setCell, Array.getElem?_modify, hb]
  · rw [Array.getElem?_setIfInBounds]
    by_cases e : j = i
    · subst e
      simp [show j < c.size by omega]
    · rw [if_neg (fun h => e h.symm)]
      show c[j]? = some (if j = i then v else f j)
      rw [if_neg e]
      exact hc j hj
end
theorem bytesRow_at (s : ByteArray) (cap i : Nat) (h : i < s.size) : (bytesRow s cap)[i]? = some (byteV (s.data.toList.getD i 0)) := by
  unfold bytesRow
  rw [Array.getElem?_append_left (by simpa using h), Array.getElem?_map, getD_at s i h]
  have : s.data[i]? = some s[i] := Array.getElem?_eq_getElem (by simpa using h)
  rw [this]
  rfl
theorem bytesRow_size (s : ByteArray) (cap : Nat) : s.size ≤ (bytesRow s cap).size := by
  unfold bytesRow
  rw [Array.size_append, Array.size_map]
  exact Nat.le_add_right _ _
/-- '[]byte(s)' at a plain region's list -/
theorem wpList_bytes {P : Program} {w : World} {ops : Array Oper} {rest : List Oper} {o : Oper} {a : Act} {Q : Exit → Act → World → Prop} (hgd : o.guard = none) (src dst e : TypeId) (x : Operand) (hop : o.op = Op.convert src dst x)
    (s : ByteArray) (hx : a.eval x = .string s) (hs : P.underlying src = some .string) (hd : P.underlying dst = some (.slice e)) (he : P.underlying e = some (.int .u8))
    (h : ∀ cap w', bRow w' w.heap.size e s.size (fun j => byteV (s.data.toList.getD j 0)) → Below w.heap.size w w' → wpList P ops Q rest (a.put o.dst (.slice (some ⟨w.heap.size, 0, none⟩) s.size cap)) w') : wpList P ops Q (o :: rest) a w := by
  refine wpList_plain hgd fun K hK => ?_
  have hr := run_bytes_of_string (P := P) w src dst e s hs hd he
  unfold Oper.wp
  simp only [execOp, hop, hx, Sem.run_bind, Sem.run_pure, hr, Result.andThen_ok]
  refine hK _ _ (h _ _ ?_ ?_)
  · refine ⟨_, _, _, heap_alloc_new _ _, ?_, bytesRow_size _ _, fun i hi => bytesRow_at _ _ _ hi⟩
    exact bytesRow_size _ _
  · exact ((Below.refl _ _).drew).alloc (Nat.le_refl _) _
/-- 'string(b)' of such a row -/
theorem conv_bRow {P : Program} {wr : World} {g n cap : Nat} {src dst e : TypeId} {f : Nat → Value} (l : List UInt8) (hl : l.length = n) (hrow : bRow wr g e n f)
    (hf : ∀ j, j < n → f j = byteV (l.getD j 0)) (hs : P.underlying src = some (.slice e)) (he : P.underlying e = some (.int .u8)) (hd : P.underlying dst = some .string) :
    (convert src dst (.slice (some ⟨g, 0, none⟩) n cap)).run P wr = .ok (.string (str l)) wr := by
  subst hl
  refine run_convert_bytes_back (P := P) wr src dst e ⟨g, 0, none⟩ cap l hs he hd (fun j hj => ?_)
  rw [add_zero_off, hrow.cell hj, hf j hj, List.getD_eq_getElem?_getD, List.getElem?_eq_getElem hj]
  rfl
/-- 'append(out, x, y, ..)': the elements lie in a block of their own that was made just before -/
theorem appN {P : Program} (T E : TypeId) {zv : Value} {bytes : Nat} (hT : P.underlying T = some (.slice E)) (hE : (P.info? E).map (fun i => (i.zero, i.size, i.bytes)) = some (some zv, 1, bytes)) (hz1 : zv.cells.size = 1)
    {w0 w : World} {ops : Array Oper} {rest : List Oper} {o : Oper} {a : Act} {Q : Exit → Act → World → Prop} (hgd : o.guard = none) (s x : Operand)
    (ho : o.op = .call { callee := .builtin .append, args := #[s, x], argTypes := #[T, T] }) (B g n cap m : Nat) (xs : List Value) (vs : Array Value)
    (hs : a.eval s = .slice (some ⟨g, 0, none⟩) n cap) (hx : a.eval x = .slice (some ⟨w.heap.size, 0, none⟩) m m) (hvs : vs.size = m) (hm0 : 0 < m)
    (hown : Own w B E g n cap xs) (hb : Below B w0 w) (hB : B ≤ w0.heap.size) (hv : ∀ v ∈ vs.toList, v.oneCell' = true) (hn : (n + m) * bytes ≤ 140737488355328) (hm : n + m ≤ maxLen)
    (h : ∀ g' cap' w', Own w' B E g' (n + m) cap' (xs ++ vs.toList) → Below B w0 w' → wpList P ops Q rest (a.put o.dst (.slice (some ⟨g', 0, none⟩) (n + m) cap')) w') :
    wpList P ops Q (o :: rest) a (w.alloc (.cells vs E)) := by
  obtain ⟨i, hi, hz, hsz, hby⟩ := info_parts hE
  have hBw : B ≤ w.heap.size := Nat.le_trans hB hb.size
  refine wpList_append_lies (w.alloc (.cells vs E)) hgd s x T ho B E i zv 1 bytes hT hi hz hsz hby hz1 (by omega) (.slice (some ⟨g, 0, none⟩) n cap) n xs hs (World.ownsRow.alloc hown _) ⟨w.heap.size, 0, none⟩ m m vs.toList hx (by simp; omega) ?_ hv hm0 hm hn (by simp; omega) _ rfl ?_
  · intro j u hj
    rw [add_zero_off, cell_of_row _ _ _ _ _ _ (heap_alloc_new w _)]
    rw [Array.getElem?_toList] at hj
    exact hj
  · intro g' cap' w' h1 h2 h3 h4
    refine h g' cap' w' h1 ((hb.alloc hBw _).grown h2 (by simp; omega) ?_)
    intro k hk
    simp [Value.ownBlock] at hk
    subst hk
    exact hown.lt.1
theorem cells4 {u : World} {g : Nat} {e : TypeId} {b : List UInt8} (h : bRow u g e 7 (fun j => byteV (b.getD j 0))) : u.cell? ⟨g, 2, none⟩ = some (.int .u8 ((b.getD 2 0).toNat : Int)) ∧ u.cell? ⟨g, 4, none⟩ = some (.int .u8 ((b.getD 4 0).toNat : Int)) ∧ u.cell? ⟨g, 5, none⟩ = some (.int .u8 ((b.getD 5 0).toNat : Int)) ∧ u.cell? ⟨g, 6, none⟩ = some (.int .u8 ((b.getD 6 0).toNat : Int)) :=
  ⟨h.cell (by omega), h.cell (by omega), h.cell (by omega), h.cell (by omega)⟩
/-- 'append(out, x, y, ..)' at a step of a region that draws, in whatever world: the elements lie in block b -/
theorem stepN {P : Program} (T E : TypeId) {zv : Value} {bytes : Nat} (hT : P.underlying T = some (.slice E)) (hE : (P.info? E).map (fun i => (i.zero, i.size, i.bytes)) = some (some zv, 1, bytes)) (hz1 : zv.cells.size = 1)
    {w0 w : World} {ops : Array Oper} {o : Oper} {a : Act} {K : Act → World → Prop} {Q : Exit → Act → World → Prop} {E0 : Prop} (hgd : o.guard = none) (s x : Operand)
    (ho : o.op = .call { callee := .builtin .append, args := #[s, x], argTypes := #[T, T] }) (B g n cap m b : Nat) (xs : List Value) (vs : Array Value)
    (hs : a.eval s = .slice (some ⟨g, 0, none⟩) n cap) (hx : a.eval x = .slice (some ⟨b, 0, none⟩) m m) (hblk : w.heap[b]? = some (.cells vs E (0, 0))) (hvs : vs.size = m) (hm0 : 0 < m)
    (hown : Own w B E g n cap xs) (hb : Below B w0 w) (hB : B ≤ w0.heap.size) (hv : ∀ v ∈ vs.toList, v.oneCell' = true) (hn : (n + m) * bytes ≤ 140737488355328) (hm : n + m ≤ maxLen)
    (h : ∀ g' cap' w', Own w' B E g' (n + m) cap' (xs ++ vs.toList) → Below B w0 w' → w.grownBy w' (some g) → K (a.put o.dst (.slice (some ⟨g', 0, none⟩) (n + m) cap')) w') :
    if Region.wanted o (yielded ops a.tmps) = true then Oper.wp P o a w K Q else E0 := by
  obtain ⟨i, hi, hz, hsz, hby⟩ := info_parts hE
  have hBw : B ≤ w.heap.size := Nat.le_trans hB hb.size
  refine step_append_lies w hgd s x T ho B E i zv 1 bytes hT hi hz hsz hby hz1 (by omega) (.slice (some ⟨g, 0, none⟩) n cap) n xs hs hown ⟨b, 0, none⟩ m m vs.toList hx (by simp; omega) ?_ hv hm0 hm hn hBw _ rfl ?_
  · intro j u hj
    rw [add_zero_off, cell_of_row _ _ _ _ _ _ hblk]
    rw [Array.getElem?_toList] at hj
    exact hj
  · intro g' cap' w' h1 h2 h3 h4
    refine h g' cap' w' h1 (hb.grown h2 hBw ?_) h2
    intro k hk
    simp [Value.ownBlock] at hk
    subst hk
    exact hown.lt.1
end Go.Proofs.Ytiiiaeemblcniaa
