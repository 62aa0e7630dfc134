/- Plain facts on the next frame. No program is in sight here. -/
import Derived.Test.YtmfblphnedoejaaFind
namespace Go.Proofs.Ytmfblphnedoejaa
set_option maxRecDepth 20000
set_option linter.unusedVariables false
set_option linter.unusedSimpArgs false

theorem findN_spec (l : List UInt8) : ∀ f a, (findN l f a = -1 ∧ ∀ i, a ≤ i → i < a + f → parseL l i = none) ∨ ∃ m : Nat, findN l f a = (m : Int) ∧ a ≤ m ∧ m < a + f ∧ ∀ i, a ≤ i → i < m → parseL l i = none
  | 0, a => .inl ⟨rfl, fun i h1 h2 => by omega⟩
  | f + 1, a => by
    cases hp : parseL l a with
    | some x => exact .inr ⟨a, findN_here (by omega) hp, Nat.le_refl _, by omega, fun i h1 h2 => by omega⟩
    | none =>
      have e := findN_next (l := l) (f := f + 1) (a := a) (by omega) hp
      rw [e, Nat.add_sub_cancel]
      rcases findN_spec l f (a + 1) with ⟨h1, h2⟩ | ⟨m, h1, h2, h3, h4⟩
      · refine .inl ⟨h1, fun i h3 h4 => ?_⟩
        by_cases e : i = a
        · rw [e]; exact hp
        · exact h2 i (by omega) (by omega)
      · refine .inr ⟨m, h1, by omega, by omega, fun i h5 h6 => ?_⟩
        by_cases e : i = a
        · rw [e]; exact hp
        · exact h4 i (by omega) h6
/-- what FindFrame says of the places up to the end at which it looks -/
theorem find_spec (l : List UInt8) (f : Nat) : (find l f = -1 ∧ ∀ i, f ≤ i → i < l.length → parse l (i : Int) = none) ∨ ∃ m : Nat, find l f = (m : Int) ∧ f ≤ m ∧ m < l.length ∧ ∀ i, f ≤ i → i < m → parse l (i : Int) = none := by
  cases hb : bitsOK l with
  | false => exact .inl ⟨find_no (by rw [hb]; simp), fun i _ _ => parse_no (by rw [hb]; simp)⟩
  | true =>
    rw [find_yes f hb]
    rcases findN_spec l (l.length - f) f with ⟨h1, h2⟩ | ⟨m, h1, h2, h3, h4⟩
    · exact .inl ⟨h1, fun i h3 h4 => by rw [parse_yes i hb (by omega)]; exact h2 i h3 (by omega)⟩
    · exact .inr ⟨m, h1, h2, by omega, fun i h5 h6 => by rw [parse_yes i hb (by omega)]; exact h4 i h5 h6⟩
end Go.Proofs.Ytmfblphnedoejaa
