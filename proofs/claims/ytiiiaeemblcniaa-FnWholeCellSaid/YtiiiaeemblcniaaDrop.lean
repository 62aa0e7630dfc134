/- Contracts of DropSample and RepeatSample. -/
import Derived.Test.YtiiiaeemblcniaaTable
import Derived.Laws.AppendOwnNone
namespace Go.Proofs.Ytiiiaeemblcniaa
set_option maxRecDepth 20000
open Go.ChangeShapes Go.WideShapes Go.ChangeAt Go.RowKit
set_option linter.unusedVariables false
set_option linter.unusedSimpArgs false

theorem add_blk (a : Addr) (j : Nat) : (a.add j).block = a.block := by unfold Addr.add; split <;> rfl
/-- 'append(out, s..)' at a plain region's list, in terms of the lists -/
theorem appSl {w0 w : World} {ops : Array Oper} {rest : List Oper} {o : Oper} {a : Act} {Q : Exit → Act → World → Prop} (hgd : o.guard = none) (s x : Operand)
    (ho : o.op = .call { callee := .builtin .append, args := #[s, x], argTypes := #[23, 23] }) (lo : Nat) (v : Value) (l z : List Int) (A' : Option Addr) (n c : Nat)
    (hs : a.eval s = v) (hx : a.eval x = .slice A' n c) (hn : z.length = n) (hsl : Sl w lo w.heap.size v l) (hA : ∃ ad, A' = some ad ∧ ∀ j, j < z.length → w.cell? (ad.add j) = some (.int .i64 (z.getD j 0)))
    (hb : Below lo w0 w) (hlo : lo ≤ w0.heap.size) (hlen : l.length + z.length ≤ 1000000)
    (h : ∀ v' w', Sl w' lo w'.heap.size v' (l ++ z) → Below lo w0 w' → wpList Try.prog ops Q rest (a.put o.dst v') w') : wpList Try.prog ops Q (o :: rest) a w := by
  obtain ⟨ad, rfl, hcells⟩ := hA
  obtain ⟨i, hi, hz, hsz, hby⟩ := info_parts info_int
  refine wpList_append_own w hgd s x 23 ho lo 3 i (.int .i64 0) 1 8 Try.underlying23 hi hz hsz hby rfl (by omega) v l.length (l.map intV) hs hsl.1 ad n c (z.map intV) hx (by simp [hn]) ?_ ?_ (by unfold maxLen; omega) (by omega) (Nat.le_trans hlo hb.size) ?_
  · intro j u hj
    by_cases hlt : j < z.length
    · rw [intV_at z j hlt] at hj
      rw [hcells j hlt, ← hj]
    · rw [List.getElem?_eq_none (by simp; omega)] at hj; cases hj
  · intro u hu
    simp only [List.mem_map] at hu
    obtain ⟨q, _, rfl⟩ := hu
    rfl
  · intro v' w' h1 h2 _
    subst hn
    refine h v' w' ⟨by simpa using h1, fun g hg => (World.ownsRow.lt h1 g hg).2⟩ (hb.grown h2 (Nat.le_trans hlo hb.size) (fun k hk => (World.ownsRow.lt hsl.1 k hk).1))
/-- the same at a step of a region that draws its order -/
theorem stepSl {w0 w : World} {ops : Array Oper} {o : Oper} {a : Act} {K : Act → World → Prop} {Q : Exit → Act → World → Prop} {E : Prop} (hgd : o.guard = none) (s x : Operand)
    (ho : o.op = .call { callee := .builtin .append, args := #[s, x], argTypes := #[23, 23] }) (lo : Nat) (v : Value) (l z : List Int) (A' : Option Addr) (n c : Nat)
    (hs : a.eval s = v) (hx : a.eval x = .slice A' n c) (hn : z.length = n) (hsl : Sl w lo w.heap.size v l) (hA : ∃ ad, A' = some ad ∧ ∀ j, j < z.length → w.cell? (ad.add j) = some (.int .i64 (z.getD j 0)))
    (hb : Below lo w0 w) (hlo : lo ≤ w0.heap.size) (hlen : l.length + z.length ≤ 1000000)
    (h : ∀ v' w', Sl w' lo w'.heap.size v' (l ++ z) → Below lo w0 w' → K (a.put o.dst v') w') : if Region.wanted o (yielded ops a.tmps) = true then Oper.wp Try.prog o a w K Q else E := by
  obtain ⟨ad, rfl, hcells⟩ := hA
  obtain ⟨i, hi, hz, hsz, hby⟩ := info_parts info_int
  have hw : Region.wanted o (yielded ops a.tmps) = true := by simp [Region.wanted, hgd]
  rw [if_pos hw]
  refine wp_append_own w s x 23 ho lo 3 i (.int .i64 0) 1 8 Try.underlying23 hi hz hsz hby rfl (by omega) v l.length (l.map intV) hs hsl.1 ad n c (z.map intV) hx (by simp [hn]) ?_ ?_ (by unfold maxLen; omega) (by omega) (Nat.le_trans hlo hb.size) ?_
  · intro j u hj
    by_cases hlt : j < z.length
    · rw [intV_at z j hlt] at hj
      rw [hcells j hlt, ← hj]
    · rw [List.getElem?_eq_none (by simp; omega)] at hj; cases hj
  · intro u hu
    simp only [List.mem_map] at hu
    obtain ⟨q, _, rfl⟩ := hu
    rfl
  · intro v' w' h1 h2 _
    subst hn
    refine h v' w' ⟨by simpa using h1, fun g hg => (World.ownsRow.lt h1 g hg).2⟩ (hb.grown h2 (Nat.le_trans hlo hb.size) (fun k hk => (World.ownsRow.lt hsl.1 k hk).1))
/-- c copies of the sample at an index in place of this sample -/
def copyL (z : List Int) (k c : Nat) : List Int := z.take k ++ List.replicate c (z.getD k 0) ++ z.drop (k + 1)
def wcOK (z : List Int) (x : Int) (c : Nat) : Bool := sigOK z && decide (0 ≤ x) && decide (x < z.length) && sigOK (copyL z x.toNat c)
def wcL (z : List Int) (x : Int) (c : Nat) : List Int := if wcOK z x c then copyL z x.toNat c else []
theorem copy_len {z : List Int} {k c : Nat} (h : k < z.length) : (copyL z k c).length = z.length - 1 + c := by simp [copyL]; omega
theorem wc_no {z : List Int} {x : Int} {c : Nat} (h : wcOK z x c = false) : wcL z x c = [] := if_neg (by simp [h])
theorem wc_yes {z : List Int} {x : Int} {c : Nat} (h : wcOK z x c = true) : wcL z x c = copyL z x.toNat c := if_pos h
theorem wcL_len (z : List Int) (x : Int) (c : Nat) : (wcL z x c).length ≤ 1048576 := by
  unfold wcL
  split
  · rename_i h
    simp only [wcOK, Bool.and_eq_true] at h
    have := sig_len h.2
    omega
  · simp
theorem drop_sig {z : List Int} {k : Nat} (h : sigOK z = true) : sigOK (copyL z k 0) = true := by
  unfold sigOK at h ⊢
  simp only [Bool.and_eq_true, decide_eq_true_eq, List.all_eq_true] at h ⊢
  refine ⟨by simp [copyL]; omega, fun x hx => h.2 x ?_⟩
  simp only [copyL, List.replicate_zero, List.append_nil, List.mem_append] at hx
  rcases hx with hx | hx
  · exact List.mem_of_mem_take hx
  · exact List.mem_of_mem_drop hx
theorem rep_split {z : List Int} {k : Nat} (h : k < z.length) : z.take (k + 1) ++ z.drop k = copyL z k 2 := by
  have h1 : z.take (k + 1) = z.take k ++ [z.getD k 0] := take_next h
  have h2 : z.drop k = z.getD k 0 :: z.drop (k + 1) := by rw [List.drop_eq_getElem_cons h, List.getD_eq_getElem?_getD, List.getElem?_eq_getElem h]; rfl
  unfold copyL
  rw [h1, h2]
  simp only [List.replicate, List.append_assoc, List.cons_append, List.nil_append]
end Go.Proofs.Ytiiiaeemblcniaa
