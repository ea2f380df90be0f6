/- What SameInts tells. -/
import Derived.Test.YtodbjmagcelfjaaGreatFkit
import Derived.Test.YtodbjmagcelfjaaGreatEv38
set_option linter.unusedVariables false
set_option linter.unusedSimpArgs false
namespace Go.Lg.Tryz
set_option linter.unusedVariables false
set_option linter.unusedSimpArgs false
open Go Go.Proofs
theorem rd_int {h : AH} {a : Option Addr} {l : List Int} (hr : Rd h a (l.flatMap encI)) {i : Nat} {x : Int} (hx : l[i]? = some x) : ∃ ad, a = some ad ∧ h.ldI .i64 ad.block (ad.off + i * 1) = some x := by
  obtain ⟨ad, rfl, hrd⟩ := hr.some (by
    intro he
    have := congrArg List.length he
    rw [flat_len encI_len] at this
    have h2 := (List.getElem?_eq_some_iff.mp hx).1
    simp only [List.length_nil] at this
    omega)
  refine ⟨ad, rfl, ?_⟩
  have := (hrd (i * 1)).1 .i64 x (by have := flat_get_some encI_len (j := 0) (by omega) hx; simpa [encI] using this)
  exact this
theorem sameInts_loop {h : AH} {a1 a4 : Option Addr} {l1 l2 : List Int} (c3 c6 : Nat) (h1 : Rd h a1 (l1.flatMap encI)) (h2 : Rd h a4 (l2.flatMap encI)) (he : l1.length = l2.length) (hb : l1.length < 4611686018427387904) :
    ∀ (n i : Nat), l1.length - i = n → i ≤ l1.length → l1.take i = l2.take i → kit_SameInts_L1 l1.length a1 a4 l2.length c6 c3 i h = some (.bool (decide (l1 = l2)), h) := by
  intro n
  induction n with
  | zero =>
    intro i hn hi ht
    obtain rfl : i = l1.length := by omega
    refine kit_SameInts_L1_le _ ?_
    rw [dec_f (by omega), cond_f]
    refine kit_SameInts_j1_le _ ?_
    rw [List.take_of_length_le (Nat.le_refl _), List.take_of_length_le (by omega)] at ht
    rw [dec_t ht]
  | succ n ih =>
    intro i hn hi ht
    have hil : i < l1.length := by omega
    refine kit_SameInts_L1_le _ ?_
    rw [dec_t (by omega), cond_t]
    refine kit_SameInts_j3_le _ ?_
    have x1 : l1[i]? = some (l1[i]'hil) := List.getElem?_eq_getElem hil
    have x2 : l2[i]? = some (l2[i]'(by omega)) := List.getElem?_eq_getElem (by omega)
    generalize l1[i]'hil = x at x1
    generalize l2[i]'(by omega) = y at x2
    obtain ⟨ad1, rfl, e1⟩ := rd_int h1 x1
    obtain ⟨ad2, rfl, e2⟩ := rd_int h2 x2
    simp only [Option.bind_some, inB_t (show (0 : Int) ≤ (i : Int) by omega) (show (i : Int) < (l1.length : Nat) by omega), inB_t (show (0 : Int) ≤ (i : Int) by omega) (show (i : Int) < (l2.length : Nat) by omega), cond_t, Int.toNat_natCast, e1, e2]
    by_cases hxy : x = y
    · rw [dec_t hxy, Bool.not_true, cond_f]
      refine kit_SameInts_j2_le _ ?_
      rw [wrap64 (by omega) (by omega)]
      exact ih (i + 1) (by omega) (by omega) (by rw [List.take_add_one, List.take_add_one, ht, x1, x2, hxy])
    · rw [dec_f hxy, Bool.not_false, cond_t]
      have : l1 ≠ l2 := fun e => by rw [e, x2] at x1; exact hxy (Option.some.inj x1).symm
      rw [dec_f this]
theorem sameInts_eq {h : AH} {a1 a4 : Option Addr} {l1 l2 : List Int} {n1 n2 : Nat} (c3 c6 : Nat) (h1 : Rd h a1 (l1.flatMap encI)) (h2 : Rd h a4 (l2.flatMap encI)) (e1 : n1 = l1.length) (e2 : n2 = l2.length) (hb : l1.length < 4611686018427387904) :
    C k_kit_SameInts [.slice a1 n1 c3, .slice a4 n2 c6] h = some (.bool (decide (l1 = l2)), h) := by
  subst e1 e2
  refine kit_SameInts_le _ ?_
  unfold F_kit_SameInts
  by_cases he : (l1.length : Int) = (l2.length : Int)
  · rw [dec_t he, Bool.not_true, cond_f]
    refine kit_SameInts_j4_le _ ?_
    exact sameInts_loop c3 c6 h1 h2 (by omega) hb _ 0 rfl (by omega) rfl
  · rw [dec_f he, Bool.not_false, cond_t]
    have : l1 ≠ l2 := fun e => he (by rw [e])
    rw [dec_f this]
end Go.Lg.Tryz

namespace Go.Lg.Tryz
set_option linter.unusedVariables false
open Go Go.Proofs
def pickM (x n : Int) : Int := if x.tmod n < 0 then x.tmod n + n else x.tmod n
theorem tmod_bd (x n : Int) (hn : 0 < n) : -n < x.tmod n ∧ x.tmod n < n := by
  rcases Int.le_total 0 x with h | h
  · rw [Int.tmod_eq_emod_of_nonneg h]
    have := Int.emod_nonneg x (show n ≠ 0 by omega)
    have := Int.emod_lt_of_pos x hn
    omega
  · obtain ⟨y, rfl⟩ : ∃ y, x = -y := ⟨-x, by omega⟩
    rw [Int.neg_tmod, Int.tmod_eq_emod_of_nonneg (by omega)]
    have := Int.emod_nonneg y (show n ≠ 0 by omega)
    have := Int.emod_lt_of_pos y hn
    omega
theorem pickM_bd (x n : Int) (hn : 0 < n) : 0 ≤ pickM x n ∧ pickM x n < n := by
  have := tmod_bd x n hn
  unfold pickM; split <;> omega
theorem pick_eq (x n : Int) (hn : 0 < n) (hb : n < 1000000) (h : AH) : C k_kit_Pick [.int .i64 x, .int .i64 n] h = some (.int .i64 (pickM x n), h) := by
  refine kit_Pick_le _ ?_
  unfold F_kit_Pick pickM
  rw [dec_f (show ¬n < 1 by omega), cond_f]
  refine kit_Pick_j2_le _ ?_
  have := tmod_bd x n hn
  rw [dec_f (show ¬n = 0 by omega), Bool.not_false, cond_t]
  by_cases c : x.tmod n < 0
  · rw [dec_t c, cond_t, if_pos c]
    refine kit_Pick_j1_le _ ?_
    rw [wrap64 (by omega) (by omega)]
  · rw [dec_f c, cond_f, if_neg c]
    exact kit_Pick_j1_le _ rfl
end Go.Lg.Tryz
