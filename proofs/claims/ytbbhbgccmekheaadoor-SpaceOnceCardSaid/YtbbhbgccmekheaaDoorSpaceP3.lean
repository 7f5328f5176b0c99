/- The runs of free sectors: the plain law. -/
import Derived.Test.YtbbhbgccmekheaaDoorSpaceP2
namespace Bst
open Go
set_option linter.unusedVariables false
set_option linter.unusedSimpArgs false

/-- Runs from a place on, and where the last one ends. -/
def Chain (T : List Bool) : Int → List (Int × Int) → Int → Prop
  | a, [], e => a = e
  | a, r :: R, e => a ≤ r.1 ∧ 1 ≤ r.2 ∧ ¬ (0 < a ∧ r.1 = a) ∧ (∀ j : Nat, a ≤ j → j < r.1 → T.getD j false = true) ∧ (∀ j : Nat, r.1 ≤ j → j < r.1 + r.2 → T.getD j false = false) ∧ Chain T (r.1 + r.2) R e
theorem Chain.snoc {T : List Bool} {a e : Int} {R : List (Int × Int)} {r : Int × Int} (h : Chain T a R e) (h1 : e ≤ r.1) (h2 : 1 ≤ r.2) (h3 : ¬ (0 < e ∧ r.1 = e)) (h4 : ∀ j : Nat, e ≤ j → j < r.1 → T.getD j false = true)
    (h5 : ∀ j : Nat, r.1 ≤ j → j < r.1 + r.2 → T.getD j false = false) : Chain T a (R ++ [r]) (r.1 + r.2) := by
  induction R generalizing a with
  | nil => rw [show a = e from h]; exact ⟨h1, h2, h3, h4, h5, rfl⟩
  | cons x R ih => obtain ⟨b1, b2, b3, b4, b5, b6⟩ := h; exact ⟨b1, b2, b3, b4, b5, ih b6⟩
theorem Chain.last {T : List Bool} {a e : Int} {R : List (Int × Int)} {r : Int × Int} (h : Chain T a (R ++ [r]) e) : e = r.1 + r.2 := by
  induction R generalizing a with
  | nil => obtain ⟨_, _, _, _, _, h⟩ := h; exact h.symm
  | cons x R ih => obtain ⟨_, _, _, _, _, h⟩ := h; exact ih h
theorem Chain.grow {T : List Bool} {a e : Int} {R : List (Int × Int)} {r : Int × Int} (h : Chain T a (R ++ [r]) e) (hf : ∀ j : Nat, (j : Int) = r.1 + r.2 → T.getD j false = false) : Chain T a (R ++ [(r.1, r.2 + 1)]) (r.1 + r.2 + 1) := by
  induction R generalizing a with
  | nil =>
    obtain ⟨b1, b2, b3, b4, b5, b6⟩ := h
    refine ⟨b1, by show 1 ≤ r.2 + 1; omega, b3, b4, fun j h1 h2 => ?_, by show r.1 + (r.2 + 1) = _; omega⟩
    simp only at h1 h2
    by_cases e1 : (j : Int) = r.1 + r.2
    · exact hf j e1
    · exact b5 j h1 (by omega)
  | cons x R ih => obtain ⟨b1, b2, b3, b4, b5, b6⟩ := h; exact ⟨b1, b2, b3, b4, b5, ih b6⟩
theorem runs_chain (T : List Bool) (n : Nat) : ∃ e : Int, 0 ≤ e ∧ e ≤ n ∧ Chain T 0 (runsS T n) e ∧ ∀ j : Nat, e ≤ j → j < n → T.getD j false = true := by
  induction n with
  | zero => exact ⟨0, by omega, by omega, rfl, fun j _ h => by omega⟩
  | succ n ih =>
    obtain ⟨e, h0, h1, h2, h3⟩ := ih
    unfold runsS
    cases hb : T.getD n false
    · simp only [Bool.false_eq_true, if_false]
      rcases hl : (runsS T n).getLast? with _ | r
      · have hnil : runsS T n = [] := List.getLast?_eq_none_iff.1 hl
        rw [hnil] at h2
        have h2' : (0 : Int) = e := h2
        subst h2'
        refine ⟨(n : Int) + 1, by omega, by omega, ⟨by simp, by simp, by simp, fun j _ hj => h3 j (by omega) (by simpa using hj), fun j hj1 hj2 => ?_, rfl⟩, fun j hj1 hj2 => by omega⟩
        simp only at hj1 hj2
        rw [show j = n by omega]; exact hb
      · have hsplit : runsS T n = (runsS T n).dropLast ++ [r] := by
          have hne : runsS T n ≠ [] := by intro h; rw [h] at hl; simp at hl
          have e1 := List.getLast?_eq_some_getLast hne
          rw [hl] at e1
          injection e1 with e1
          rw [e1]; exact (List.dropLast_concat_getLast hne).symm
        simp only
        split
        · rename_i he
          rw [hsplit] at h2
          have hg := h2.grow (fun j hj => by rw [show j = n by omega]; exact hb)
          refine ⟨r.1 + r.2 + 1, by omega, by omega, hg, fun j hj1 hj2 => by omega⟩
        · rename_i he
          have hel : e = r.1 + r.2 := by rw [hsplit] at h2; exact h2.last
          have hs := h2.snoc (r := ((n : Int), 1)) (by simpa using h1) (by simp) (by simp; omega) (fun j hj1 hj2 => h3 j hj1 (by simpa using hj2)) (fun j hj1 hj2 => by simp only at hj1 hj2; rw [show j = n by omega]; exact hb)
          exact ⟨(n : Int) + 1, by omega, by omega, hs, fun j hj1 hj2 => by omega⟩
    · simp only [if_true]
      exact ⟨e, h0, by omega, h2, fun j hj1 hj2 => by
        by_cases ej : j = n
        · subst ej; exact hb
        · exact h3 j hj1 (by omega)⟩
theorem Chain.le {T : List Bool} {a e : Int} {R : List (Int × Int)} (h : Chain T a R e) : a ≤ e := by
  induction R generalizing a with
  | nil => rw [show a = e from h]; omega
  | cons x R ih => obtain ⟨b1, b2, _, _, _, b6⟩ := h; have := ih b6; omega
theorem topUpto_succ (T : List Bool) (n : Nat) : topUpto T (n + 1) = if T.getD n false then (n : Int) else topUpto T n := rfl
end Bst
