/- What kit's Pick tells. -/
import Derived.Test.YtciiigaagggefaaFkit
import Derived.Test.YtciiigaagggefaaEv38
namespace Go.Lg.Try
set_option linter.unusedVariables false
open Go Go.Proofs
def pickM (x n : Int) : Int := if x.tmod n < 0 then x.tmod n + n else x.tmod n
theorem tmod_bd (x n : Int) (hn : 0 < n) : -n < x.tmod n ∧ x.tmod n < n := by
  rcases Int.le_total 0 x with h | h
  · rw [Int.tmod_eq_emod_of_nonneg h]
    have := Int.emod_nonneg x (show n ≠ 0 by omega)
    have := Int.emod_lt_of_pos x hn
    omega
  · obtain ⟨y, rfl⟩ : ∃ y, x = -y := ⟨-x, by omega⟩
    rw [Int.neg_tmod, Int.tmod_eq_emod_of_nonneg (by omega)]
    have := Int.emod_nonneg y (show n ≠ 0 by omega)
    have := Int.emod_lt_of_pos y hn
    omega
theorem pickM_bd (x n : Int) (hn : 0 < n) : 0 ≤ pickM x n ∧ pickM x n < n := by
  have := tmod_bd x n hn
  unfold pickM; split <;> omega
theorem pickM_id (x n : Int) (h0 : 0 ≤ x) (h1 : x < n) : pickM x n = x := by
  unfold pickM
  rw [Int.tmod_eq_emod_of_nonneg h0, Int.emod_eq_of_lt h0 h1, if_neg (by omega)]
theorem pick_eq (x n : Int) (hn : 0 < n) (hb : n < 1000000) (h : AH) : C k_kit_Pick [.int .i64 x, .int .i64 n] h = some (.int .i64 (pickM x n), h) := by
  refine kit_Pick_le _ ?_
  unfold F_kit_Pick pickM
  rw [dec_f (show ¬n < 1 by omega), cond_f]
  refine kit_Pick_j2_le _ ?_
  have := tmod_bd x n hn
  rw [dec_f (show ¬n = 0 by omega), Bool.not_false, cond_t]
  by_cases c : x.tmod n < 0
  · rw [dec_t c, cond_t, if_pos c]
    refine kit_Pick_j1_le _ ?_
    rw [wrap64 (by omega) (by omega)]
  · rw [dec_f c, cond_f, if_neg c]
    exact kit_Pick_j1_le _ rfl
end Go.Lg.Try
