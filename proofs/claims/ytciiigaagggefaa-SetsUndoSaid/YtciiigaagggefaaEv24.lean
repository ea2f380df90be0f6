/- Soundness of the evaluator. Part 24: equal values. -/
import Derived.Test.YtciiigaagggefaaEv23
namespace Go.Lg
open Go

theorem seqB_true {a b : ByteArray} (h : seqB a b = true) : a = b := by
  apply ByteArray.ext
  apply Array.ext'
  exact beqL_iff.1 h
theorem veq1_true {a b : Value} (h : veq1 a b = true) : a = b := by
  unfold veq1 at h
  split at h
  · rw [eq_of_beq h]
  · simp only [Bool.and_eq_true, decide_eq_true_eq] at h
    rw [eq_of_beq h.1, h.2]
  · rw [seqB_true h]
  · rw [of_decide_eq_true h]
  · simp only [Bool.and_eq_true, decide_eq_true_eq] at h
    rw [h.1.1, Nat.eq_of_beq_eq_true h.1.2, Nat.eq_of_beq_eq_true h.2]
  · rw [of_decide_eq_true h]
  · rfl
  · rfl
  · cases h
theorem veqL_true : ∀ {a b : List Value}, veqL a b = true → a = b
  | [], [], _ => rfl
  | a :: l, b :: m, h => by
    simp only [veqL, Bool.and_eq_true] at h
    rw [veq1_true h.1, veqL_true h.2]
  | [], _ :: _, h => by simp [veqL] at h
  | _ :: _, [], h => by simp [veqL] at h
theorem veq2_true {a b : Value} (h : veq2 a b = true) : a = b := by
  unfold veq2 at h
  split at h
  · congr 1; apply Array.ext'; exact veqL_true h
  · simp only [Bool.and_eq_true] at h
    rw [Nat.eq_of_beq_eq_true h.1, veq1_true h.2]
  · simp only [Bool.and_eq_true] at h
    rw [Nat.eq_of_beq_eq_true h.1.1]
    congr 1
    · apply Array.ext'; exact veqL_true h.1.2
    · apply Array.ext'; exact veqL_true h.2
  · exact veq1_true h
theorem veqL2_true : ∀ {a b : List Value}, veqL2 a b = true → a = b
  | [], [], _ => rfl
  | a :: l, b :: m, h => by
    simp only [veqL2, Bool.and_eq_true] at h
    rw [veq2_true h.1, veqL2_true h.2]
  | [], _ :: _, h => by simp [veqL2] at h
  | _ :: _, [], h => by simp [veqL2] at h
theorem veq_true {a b : Value} (h : veq a b = true) : a = b := by
  unfold veq at h
  split at h
  · congr 1; apply Array.ext'; exact veqL2_true h
  · exact veq2_true h
theorem veqO_true {a b : Option Value} (h : veqO a b = true) : a = b := by
  unfold veqO at h
  split at h
  · rw [veq_true h]
  · rfl
  · cases h


end Go.Lg
