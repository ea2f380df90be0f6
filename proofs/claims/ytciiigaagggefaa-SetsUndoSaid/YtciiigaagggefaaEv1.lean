/- A deterministic evaluator over an abstract memory for the program's code, and its soundness against the model. Part 1: the evaluator. -/
import Derived.Calls
namespace Go.Lg
open Go

/-- a map from numbers, by their bits -/
inductive T (α : Type) where
  | nil
  | node (v : Option α) (l r : T α)

namespace T
variable {α : Type}
def get : T α → Nat → Option α
  | .nil, _ => none
  | .node v l r, k => cond (Nat.beq k 0) v (cond (Nat.beq (k % 2) 1) (l.get (k / 2)) (r.get (k / 2 - 1)))
def setF : Nat → T α → Nat → Option α → T α
  | 0, t, _, _ => t
  | n + 1, t, k, x =>
    match t with
    | .nil => cond (Nat.beq k 0) (.node x .nil .nil) (cond (Nat.beq (k % 2) 1) (.node none (setF n .nil (k / 2) x) .nil) (.node none .nil (setF n .nil (k / 2 - 1) x)))
    | .node v l r => cond (Nat.beq k 0) (.node x l r) (cond (Nat.beq (k % 2) 1) (.node v (setF n l (k / 2) x) r) (.node v l (setF n r (k / 2 - 1) x)))
def set (t : T α) (k : Nat) (x : Option α) : T α := setF (k + 1) t k x

theorem get_nil (k : Nat) : (T.nil : T α).get k = none := rfl
theorem get_setF (x : Option α) : ∀ (n : Nat) (t : T α) (k j : Nat), k < n → (setF n t k x).get j = if j = k then x else t.get j := by
  intro n
  induction n with
  | zero => intro t k j h; omega
  | succ n ih =>
    intro t k j hk
    have aux : ∀ (j k : Nat), Nat.beq j k = decide (j = k) := fun j k => by
      rw [Bool.eq_iff_iff]; simp
    cases t with
    | nil =>
      simp only [setF, aux]
      by_cases k0 : k = 0
      · subst k0
        simp only [decide_true, cond_true, get, aux]
        by_cases j0 : j = 0
        · simp [j0]
        · simp [j0]
      · simp only [k0, decide_false, cond_false]
        by_cases ko : k % 2 = 1
        · simp only [ko, decide_true, cond_true, get, aux]
          by_cases j0 : j = 0
          · subst j0; simp [Ne.symm k0]
          · simp only [j0, decide_false, cond_false]
            by_cases jo : j % 2 = 1
            · simp only [jo, decide_true, cond_true, ih _ _ _ (show k / 2 < n by omega), get]
              have : j / 2 = k / 2 ↔ j = k := by omega
              simp [this]
            · have : j ≠ k := by omega
              simp [jo, this]
        · simp only [ko, decide_false, cond_false, get, aux]
          by_cases j0 : j = 0
          · subst j0; simp [Ne.symm k0]
          · simp only [j0, decide_false, cond_false]
            by_cases jo : j % 2 = 1
            · have : j ≠ k := by omega
              simp [jo, this]
            · simp only [jo, decide_false, cond_false, ih _ _ _ (show k / 2 - 1 < n by omega), get]
              have : j / 2 - 1 = k / 2 - 1 ↔ j = k := by omega
              simp [this]
    | node v l r =>
      simp only [setF, aux]
      by_cases k0 : k = 0
      · subst k0
        simp only [decide_true, cond_true, get, aux]
        by_cases j0 : j = 0
        · simp [j0]
        · simp [j0]
      · simp only [k0, decide_false, cond_false]
        by_cases ko : k % 2 = 1
        · simp only [ko, decide_true, cond_true, get, aux]
          by_cases j0 : j = 0
          · subst j0; simp [Ne.symm k0]
          · simp only [j0, decide_false, cond_false]
            by_cases jo : j % 2 = 1
            · simp only [jo, decide_true, cond_true, ih _ _ _ (show k / 2 < n by omega)]
              have : j / 2 = k / 2 ↔ j = k := by omega
              simp [this]
            · have : j ≠ k := by omega
              simp [jo, this]
        · simp only [ko, decide_false, cond_false, get, aux]
          by_cases j0 : j = 0
          · subst j0; simp [Ne.symm k0]
          · simp only [j0, decide_false, cond_false]
            by_cases jo : j % 2 = 1
            · have : j ≠ k := by omega
              simp [jo, this]
            · simp only [jo, decide_false, cond_false, ih _ _ _ (show k / 2 - 1 < n by omega)]
              have : j / 2 - 1 = k / 2 - 1 ↔ j = k := by omega
              simp [this]
theorem get_set (t : T α) (k : Nat) (x : Option α) (j : Nat) : (t.set k x).get j = if j = k then x else t.get j := get_setF x _ t k j (Nat.lt_succ_self k)
theorem get_set_eq (t : T α) (k : Nat) (x : Option α) : (t.set k x).get k = x := by rw [get_set, if_pos rfl]
theorem get_set_ne (t : T α) {k j : Nat} (x : Option α) (h : j ≠ k) : (t.set k x).get j = t.get j := by rw [get_set, if_neg h]
end T
end Go.Lg
