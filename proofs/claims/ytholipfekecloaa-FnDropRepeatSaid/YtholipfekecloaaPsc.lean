/- The signal of a pilot is a signal, and its scores are correlations of offsets. -/
import Derived.Test.YtholipfekecloaaCorr
import Derived.Test.YtholipfekecloaaTable
namespace Go.Proofs.Ytholipfekecloaa
set_option maxRecDepth 20000
open Go.ChangeShapes Go.WideShapes Go.ChangeAt Go.RowKit
set_option linter.unusedVariables false
set_option linter.unusedSimpArgs false

theorem ps_at {s : ByteArray} {m off K : Nat} {g : Int} (h : psOK s (m : Int) (off : Int) (K : Int) g = true) {j : Nat} (hj : j < K) : (psL s (m : Int) (off : Int) (K : Int) g).getD j 0 = g * pchip s.data.toList m off j := by
  rw [ps_yes h]; simp [List.getD_eq_getElem?_getD, hj]
theorem ps_length {s : ByteArray} {m off K : Nat} {g : Int} (h : psOK s (m : Int) (off : Int) (K : Int) g = true) : (psL s (m : Int) (off : Int) (K : Int) g).length = K := by rw [ps_yes h]; simp
theorem ps_sig {s : ByteArray} {m off K : Nat} {g : Int} (h : psOK s (m : Int) (off : Int) (K : Int) g = true) : sigOK (psL s (m : Int) (off : Int) (K : Int) g) = true := by
  obtain ⟨_, _, h3, h4, h5⟩ := ps_parts h
  unfold sigOK
  rw [ps_length h, decide_eq_true (by omega), Bool.true_and, List.all_eq_true]
  intro x hx
  rw [ps_yes h, List.mem_map] at hx
  obtain ⟨j, _, rfl⟩ := hx
  unfold inSam
  rcases pchip_two s.data.toList m off j with e | e <;> rw [e] <;> exact inB_yes (by omega) (by omega)
theorem ps_score {s : ByteArray} {m a K : Nat} {g : Int} (h : psOK s (m : Int) (a : Int) (K : Int) g = true) (hK : s.size * m ≤ K) (b : Nat) : score (psL s (m : Int) (a : Int) (K : Int) g) s.data.toList m b 0 = g * corr s.data.toList m a b :=
  score_corr (fun j hj => ps_at h (by rw [data_length] at hj; omega)) b
end Go.Proofs.Ytholipfekecloaa
