/- Tables: a new one; the calls that only read. -/
import Derived.Test.YtciiigaagggefaaFlaw20
import Derived.Test.YtciiigaagggefaaPtabF
namespace Go.Lg.Try
set_option linter.unusedVariables false
set_option linter.unusedSimpArgs false
open Go Go.Proofs
namespace Tab
abbrev memC (q N : Nat) : List Value := [.slice (some ⟨q, 0, none⟩) N N, .int .i64 0]
theorem new_ok {N : Nat} (h1 : 1 ≤ N) (h2 : N ≤ 1024) (h : AH) : C k_cell_New_table_Entry [.int .i64 (N : Int)] h = some (.tuple #[ptr (h.n + 1), .int .i64 0], (h.push (.cells (repL zc N) false false 5)).push (.cells (memC h.n N) false false 2)) := by
  refine cell_New_table_Entry_le _ ?_
  unfold F_cell_New_table_Entry
  rw [dec_f (show ¬ (N : Int) < 1 by omega), cond_f, dec_f (show ¬ (1024 : Int) < N by omega), cond_f]
  refine cell_New_table_Entry_j1_le _ ?_
  simp only [dec_t (show (0 : Int) ≤ N by omega), dec_t (show (N : Int) ≤ N by omega), dec_t (show (N : Int) * 56 ≤ 281474976710656 by omega), dec_t (show (N : Int) ≤ 281474976710656 by omega), Bool.and_self, cond_t, Int.toNat_natCast]
  rfl
section
variable {h : AH} {p q N : Nat}
theorem mRight0 (hp : h.get p = some (.cells (memC q N) false false 2)) (hN : 0 < N) : C k_cell_Memory_table_Entry_right [ptr p] h = some (.bool true, h) := by
  refine cell_Memory_table_Entry_right_le _ ?_
  simp only [F_cell_Memory_table_Entry_right, Option.isNone_some, Bool.not_false, cond_t, Option.bind_some, AH.ldS_of hp (o := 0 + 0) rfl, dec_t (show (0 : Int) < (N : Int) by omega)]
theorem mSize0 (hp : h.get p = some (.cells (memC q N) false false 2)) (hN : 0 < N) : C k_cell_Memory_table_Entry_Size [ptr p] h = some (.int .i64 (N : Int), h) := by
  refine cell_Memory_table_Entry_Size_le _ ?_
  simp only [F_cell_Memory_table_Entry_Size, mRight0 hp hN, Option.bind_some, asB_b, Bool.not_true, cond_f]
  refine cell_Memory_table_Entry_Size_j1_le _ ?_
  simp only [Option.bind_some, AH.ldS_of hp (o := 0 + 0) rfl]
theorem mClock0 (hp : h.get p = some (.cells (memC q N) false false 2)) (hN : 0 < N) : C k_cell_Memory_table_Entry_Clock [ptr p] h = some (.int .i64 0, h) := by
  refine cell_Memory_table_Entry_Clock_le _ ?_
  simp only [F_cell_Memory_table_Entry_Clock, mRight0 hp hN, Option.bind_some, asB_b, Bool.not_true, cond_f]
  refine cell_Memory_table_Entry_Clock_j1_le _ ?_
  simp only [Option.bind_some, AH.ldI_of hp (o := 0 + 1) rfl]
end
theorem setsNew {h : AH} {F : List Asr} (w : H h F) : ∃ s r v h', C k_sets_New_table_Entry [] h = some (ptr s, h') ∧ H h' (Cs s [.map (some r), .map (some v), .slice none 0 0, .slice none 0 0] 4 :: Mg.aM vI r [] :: Mg.aM vE v [] :: F) := by
  have w1 : H _ (Mg.aM vI h.n [] :: F) := Mg.m_new (ev := vI) w
  have w2 : H _ (Mg.aM vE (h.push (.map [] 0)).n [] :: Mg.aM vI h.n [] :: F) := Mg.m_new (ev := vE) w1
  have w3 := w2.push (.cells [.map (some h.n), .map (some (h.push (.map [] 0)).n), .slice none 0 0, .slice none 0 0] false false 4)
  exact ⟨_, _, _, _, sets_New_table_Entry_le _ rfl, w3.pm [0, 2, 1]⟩
theorem begin_ok {h : AH} {F : List Asr} {p q N : Nat} (hN : 0 < N) (w : H h (Cs p (memC q N) 2 :: Cs q (repL zc N) 5 :: F)) : Ok (C k_tl2_Begin_table_Entry [ptr p, .int .i64 1] h) fun v h' =>
    ∃ (t : Nat) (σ : TS), v = .tuple #[ptr t, .int .i64 0] ∧ σ.R = [] ∧ σ.W = [] ∧ H h' (tabP t N σ 1 ++ F) := by
  refine Ok.le ?_ tl2_Begin_table_Entry_le
  simp only [F_tl2_Begin_table_Entry, mSize0 w.get hN, Option.bind_some, asI_i64, dec_f (show ¬ (N : Int) = 0 by omega), cond_f, dec_f (show ¬ (1 : Int) < 1 by decide)]
  refine Ok.le ?_ tl2_Begin_table_Entry_j1_le
  obtain ⟨s, r, v, h2, e, w2⟩ := setsNew w
  simp only [mClock0 w.get hN, Option.bind_some, asI_i64, e, asP_p]
  have w3 := w2.push (.cells (tC ⟨p, q, s, r, v, [], []⟩ 1) false false 8)
  exact Ok.some ⟨h2.n, ⟨p, q, s, r, v, [], []⟩, rfl, rfl, rfl, w3⟩
theorem of_ok {h : AH} {F : List Asr} {t N : Nat} {σ : TS} (hN : 0 < N) (hN1 : N ≤ 1024) (base n : Int) (w : H h (tabP t N σ 1 ++ F)) : Ok (C k_table_Of [ptr t, .int .i64 base, .int .i64 n] h) fun v h' =>
    if 1 ≤ n ∧ n ≤ 200 ∧ 0 ≤ base ∧ base + n ≤ N then ∃ x, v = .tuple #[ptr x, .int .i64 0] ∧ H h' (Cs x [.pointer (some ⟨t, 0, none⟩), .int .i64 base, .int .i64 n] 3 :: (tabP t N σ 1 ++ F)) else v = .tuple #[.pointer none, .int .i64 2] ∧ H h' (tabP t N σ 1 ++ F) := by
  have f := TF.of w
  refine Ok.le ?_ table_Of_le
  simp only [F_table_Of, tStatus f, Option.bind_some, asI_u8, dec_f (show ¬ (1 : Int) = 0 by decide), cond_f]
  have bad : ¬ (1 ≤ n ∧ n ≤ 200 ∧ 0 ≤ base ∧ base + n ≤ N) → Ok (table_Of_j2 (some ⟨t, 0, none⟩) base n true h) fun v h' =>
    if 1 ≤ n ∧ n ≤ 200 ∧ 0 ≤ base ∧ base + n ≤ N then ∃ x, v = .tuple #[ptr x, .int .i64 0] ∧ H h' (Cs x [.pointer (some ⟨t, 0, none⟩), .int .i64 base, .int .i64 n] 3 :: (tabP t N σ 1 ++ F)) else v = .tuple #[.pointer none, .int .i64 2] ∧ H h' (tabP t N σ 1 ++ F) := fun hb => by
    refine Ok.le ?_ table_Of_j2_le
    rw [cond_t]
    exact Ok.some (by rw [if_neg hb]; exact ⟨rfl, w⟩)
  by_cases c1 : n < 1
  · rw [dec_t c1, cond_t]; exact bad (by omega)
  · rw [dec_f c1, cond_f]
    by_cases c2 : 200 < n
    · rw [dec_t c2, cond_t]; exact bad (by omega)
    · rw [dec_f c2, cond_f]
      by_cases c3 : base < 0
      · rw [dec_t c3, cond_t]; exact bad (by omega)
      · rw [dec_f c3, cond_f]
        simp only [tCells f hN, Option.bind_some, asI_i64, wrap64 (show -9223372036854775808 ≤ (N : Int) - n by omega) (show (N : Int) - n < 9223372036854775808 by omega)]
        by_cases c4 : (N : Int) - n < base
        · rw [dec_t c4]; exact bad (by omega)
        · rw [dec_f c4]
          refine Ok.le ?_ table_Of_j2_le
          rw [cond_f]
          refine Ok.le ?_ table_Of_j1_le
          have w1 := w.push (.cells [.pointer (some ⟨t, 0, none⟩), .int .i64 base, .int .i64 n] false false 3)
          exact Ok.some (by rw [if_pos (by omega)]; exact ⟨_, rfl, w1⟩)
theorem begun_ok {h : AH} {F : List Asr} {N : Nat} (hN : 0 < N) (hN1 : N ≤ 1024) (base n : Int) (w : H h F) : Ok (C k_law20_begun [.int .i64 (N : Int), .int .i64 base, .int .i64 n] h) fun v h' =>
    if 1 ≤ n ∧ n ≤ 200 ∧ 0 ≤ base ∧ base + n ≤ N then ∃ t x, v = .tuple #[ptr t, ptr x, .int .i64 0] ∧ H h' (aX x t base.toNat n.toNat :: aTab t N base.toNat n.toNat (List.replicate n.toNat E0) :: F) else ∃ t, v = .tuple #[ptr t, .pointer none, .int .i64 2] ∧ H h' F := by
  refine Ok.le ?_ law20_begun_le
  simp only [F_law20_begun, new_ok (show 1 ≤ N by omega) hN1 h, Option.bind_some, asTu_t, hdO_c, asP_p, asI_i64, List.isEmpty_nil, cond_t, decide_true, Bool.not_true, cond_f]
  have w2 : H _ (Cs (h.n + 1) (memC h.n N) 2 :: Cs h.n (repL zc N) 5 :: F) := (w.push (.cells (repL zc N) false false 5)).push (.cells (memC h.n N) false false 2)
  refine Ok.le ?_ law20_begun_j2_le
  refine Ok.bind (begin_ok hN w2) ?_
  rintro _ h3 ⟨t, σ, rfl, hR, hW, w3⟩
  simp only [Option.bind_some, asTu_t, hdO_c, asP_p, asI_i64, List.isEmpty_nil, cond_t, decide_true, Bool.not_true, cond_f]
  refine Ok.le ?_ law20_begun_j1_le
  refine Ok.bind (of_ok hN hN1 base n w3) ?_
  rintro v h4 hv
  by_cases hc : 1 ≤ n ∧ n ≤ 200 ∧ 0 ≤ base ∧ base + n ≤ N
  · rw [if_pos hc] at hv
    obtain ⟨x, rfl, w4⟩ := hv
    simp only [Option.bind_some, asTu_t, hdO_c, asP_p, asI_i64, List.isEmpty_nil, cond_t]
    refine Ok.some ?_
    rw [if_pos hc]
    refine ⟨t, x, rfl, ?_⟩
    obtain ⟨B, rfl⟩ : ∃ B : Nat, base = B := ⟨base.toNat, by omega⟩
    obtain ⟨M, rfl⟩ : ∃ M : Nat, n = M := ⟨n.toNat, by omega⟩
    simp only [Int.toNat_natCast]
    have w5 : H h4 (tabP t N σ 1 ++ (aX x t B M :: F)) := w4.pm [1, 2, 3, 4, 5, 6, 0]
    have hI : TI B M N σ (List.replicate M E0) := by
      refine ⟨by simp, ?_, by rw [hR]; simp, fun i => by rw [hR]; rfl, by rw [hW]; simp, by omega, hN1, by omega⟩
      intro i x hx
      rw [List.getElem?_replicate] at hx
      split at hx
      · rw [hW]; exact Option.some.inj hx
      · cases hx
    exact (tab_cl w5 hI).u1
  · rw [if_neg hc] at hv
    obtain ⟨rfl, w4⟩ := hv
    simp only [Option.bind_some, asTu_t, hdO_c, asP_p, asI_i64, List.isEmpty_nil, cond_t]
    refine Ok.some ?_
    rw [if_neg hc]
    exact ⟨t, rfl, ((((((w4.rm 0 rfl).rm 0 rfl).rm 0 rfl).rm 0 rfl).rm 0 rfl).rm 0 rfl)⟩
end Tab
end Go.Lg.Try
