/- Tables: List, Next; a transaction that is over. -/
import Derived.Test.YtciiigaagggefaaPtabN
namespace Go.Lg.Try
set_option linter.unusedVariables false
set_option linter.unusedSimpArgs false
open Go Go.Proofs
namespace Tab
section
variable {h : AH} {x t N base n b : Nat} {L l : List En} {F : List Asr} {σ : TS} {st : Int}
theorem ls_rd (w : H h (aLs b n l :: F)) : Rd h (some ⟨b, 0, none⟩) (l.flatMap cE) := by
  obtain ⟨rest, w⟩ := w.ex
  obtain ⟨_, w⟩ := w.pu
  exact .inr ⟨_, _, _, _, _, rfl, w.get, w.lt, fun k v hv => by
    rw [Nat.zero_add, List.getElem?_append_left (List.getElem?_eq_some_iff.mp hv).1]; exact hv⟩
theorem list_ok (hn : 0 < n) (w : H h (aX x t base n :: aTab t N base n L :: F)) : Ok (C k_table_Table_List [ptr x] h) (LoadQ x t N base n L F) := by
  refine Ok.le ?_ table_Table_List_le
  refine Ok.bind (load_ok hn w) ?_
  rintro v h' (⟨hR, b, rfl, w'⟩ | ⟨hR, rfl, w'⟩)
  · simp only [asTu_t, Option.bind_some, hdO_c, asS_s, asI_i64, List.isEmpty_nil, cond_t]
    exact Ok.some (.inl ⟨hR, b, rfl, w'⟩)
  · simp only [asTu_t, Option.bind_some, hdO_c, asS_s, asI_i64, List.isEmpty_nil, cond_t]
    exact Ok.some (.inr ⟨hR, rfl, w'⟩)
def nextV (l : List En) (e : Int) (j : Nat) : Value := match l[j]? with
  | some y => .tuple #[vE y, .bool true, .int .i64 0]
  | none => .tuple #[vE E0, .bool false, .int .i64 e]
theorem next_j {a : Option Addr} {c : Nat} {j p : Nat} (e : Int) (hl : l.length < 1000000) (hr : Rd h a (l.flatMap cE)) (w : H h (Cs p (cE E0) 3 :: F)) : Ok (table_Table_Next_j2 e (some ⟨p, 0, none⟩) a l.length c (j : Int) h) fun v h' => v = nextV l e j ∧ H h' F := by
  refine Ok.le ?_ table_Table_Next_j2_le
  by_cases hj : j < l.length
  · obtain ⟨y, hy⟩ : ∃ y, l[j]? = some y := ⟨_, List.getElem?_eq_getElem hj⟩
    obtain ⟨ad, rfl, e1, e2, e3⟩ := rd3 hr hy
    rw [dec_t (by omega), Bool.not_true, cond_f]
    refine Ok.le ?_ table_Table_Next_j1_le
    simp only [Option.bind_some, inB_t (show (0 : Int) ≤ (j : Int) by omega) (show (j : Int) < ((l.length : Nat) : Int) by omega), cond_t, Int.toNat_natCast, e1, e2, e3]
    obtain ⟨h2, k1, w2, k2⟩ := w.st (o := 0) (cE y) (by simp)
    have w2' : H h2 (Cs p (cE y) 3 :: F) := w2
    simp only [k1, Option.bind_some, AH.ldB_of w2'.get (o := 0) rfl, AH.ldStr_of w2'.get (o := 0 + 1) rfl, AH.ldStr_of w2'.get (o := 0 + 2) rfl]
    exact Ok.some ⟨by unfold nextV; rw [hy], w2'.drop⟩
  · rw [dec_f (by omega), Bool.not_false, cond_t]
    obtain ⟨h2, k1, w2, k2⟩ := w.st (o := 0) (cE E0) (by simp)
    have w2' : H h2 (Cs p (cE E0) 3 :: F) := w2
    simp only [k1, Option.bind_some, AH.ldB_of w2'.get (o := 0) rfl, AH.ldStr_of w2'.get (o := 0 + 1) rfl, AH.ldStr_of w2'.get (o := 0 + 2) rfl]
    exact Ok.some ⟨by unfold nextV; rw [List.getElem?_eq_none (by omega)], w2'.drop⟩
theorem used_le (L : List En) : (used L).length ≤ L.length := List.length_filter_le _ _
theorem next_ok (hn : 0 < n) (key : ByteArray) (w : H h (aX x t base n :: aTab t N base n L :: F)) : Ok (C k_table_Table_Next [ptr x, .string key] h) fun v h' =>
    (rightB L = true ∧ ∃ i, BS (used L) key i ∧ v = nextV (used L) 0 (if hitB (used L) key i then i + 1 else i) ∧ H h' (aX x t base n :: aTab t N base n L :: F)) ∨
    (rightB L = false ∧ v = .tuple #[vE E0, .bool false, .int .i64 241] ∧ H h' (aX x t base n :: aTab t N base n L :: F)) := by
  obtain ⟨_, _, hb3, hb4⟩ := tab_le w.u1
  refine Ok.le ?_ table_Table_Next_le
  have w1 := w.push (.cells [.bool false, .string (ByteArray.mk #[]), .string (ByteArray.mk #[])] false false 3)
  have w2 : H _ (aX x t base n :: aTab t N base n L :: Cs h.n (cE E0) 3 :: F) := w1.pm [1, 2, 0]
  refine Ok.bind (load_ok hn w2) ?_
  rintro v h3 (⟨hR, b, rfl, w3⟩ | ⟨hR, rfl, w3⟩)
  · simp only [asTu_t, Option.bind_some, hdO_c, asS_s, asI_i64, List.isEmpty_nil, cond_t]
    have hul : (used L).length < 1000000 := by have := used_le L; omega
    refine Ok.bind (find_ok hul (ls_rd w3)) ?_
    rintro _ h4 ⟨i, q1, rfl, f4⟩
    have w4 := w3.fr f4
    have hr4 := ls_rd w4
    simp only [asTu_t, Option.bind_some, hdO_c, asB_b, asI_i64, List.isEmpty_nil, cond_t]
    have w5 : H h4 (Cs h.n (cE E0) 3 :: aX x t base n :: aTab t N base n L :: F) := w4.drop.pm [2, 0, 1]
    have hle := q1.le
    cases hq : hitB (used L) key i with
    | true =>
      rw [cond_t, show IntKind.wrap .i64 ((i : Int) + 1) = ((i + 1 : Nat) : Int) by rw [wrap64 (by omega) (by omega)]; omega]
      refine Ok.mono (next_j 0 hul hr4 w5) ?_
      rintro v h6 ⟨rfl, w6⟩
      exact .inl ⟨hR, i, q1, by rw [hq]; rfl, w6⟩
    | false =>
      rw [cond_f]
      refine Ok.mono (next_j 0 hul hr4 w5) ?_
      rintro v h6 ⟨rfl, w6⟩
      exact .inl ⟨hR, i, q1, by rw [hq]; rfl, w6⟩
  · simp only [asTu_t, Option.bind_some, hdO_c, asS_s, asI_i64, List.isEmpty_nil, cond_t]
    refine Ok.bind (find_ok (l := []) (a := none) (c := 0) (by decide) (Rd.nil _ _)) ?_
    rintro _ h4 ⟨i, q1, rfl, f4⟩
    have w4 := w3.fr f4
    obtain rfl : i = 0 := Nat.le_zero.mp q1.le
    simp only [asTu_t, Option.bind_some, hdO_c, asB_b, asI_i64, List.isEmpty_nil, cond_t, show hitB [] key 0 = false from rfl, cond_f]
    have w5 : H h4 (Cs h.n (cE E0) 3 :: aX x t base n :: aTab t N base n L :: F) := w4.pm [2, 0, 1]
    refine Ok.mono (next_j (l := []) (a := none) (c := 0) (j := 0) 241 (by decide) (Rd.nil _ _) w5) ?_
    rintro v h6 ⟨rfl, w6⟩
    exact .inr ⟨hR, rfl, w6⟩
/-! a transaction ends in vain -/
theorem owned_loop (f : TF h t N σ st) (hN : N ≤ 1024) : ∀ (k i : Nat), N - i = k → i ≤ N → Ok (cell_Memory_table_Entry_Owned_L1 (some ⟨σ.p, 0, none⟩) 1 none 0 0 (N : Int) (i : Int) h) fun v h' => v = .slice none 0 0 ∧ h' = h := by
  intro k
  induction k with
  | zero =>
    intro i hk hi
    refine Ok.le ?_ cell_Memory_table_Entry_Owned_L1_le
    refine Ok.le ?_ cell_Memory_table_Entry_Owned_j4_le
    rw [dec_f (by omega), cond_f]
    refine Ok.le ?_ cell_Memory_table_Entry_Owned_j1_le
    exact Ok.some ⟨rfl, rfl⟩
  | succ k ih =>
    intro i hk hi
    refine Ok.le ?_ cell_Memory_table_Entry_Owned_L1_le
    refine Ok.le ?_ cell_Memory_table_Entry_Owned_j4_le
    rw [dec_t (by omega), cond_t]
    refine Ok.le ?_ cell_Memory_table_Entry_Owned_j3_le
    have q4 : h.ldI .i64 σ.q (0 + i * 5 + 4) = some 0 := AH.ldI_of f.q (by rw [Nat.zero_add, zget (by omega) (by omega)]; rfl)
    simp only [Option.bind_some, AH.ldS_of f.p (o := 0 + 0) rfl, inB_t (show (0 : Int) ≤ (i : Int) by omega) (show (i : Int) < ((N : Nat) : Int) by omega), cond_t, Int.toNat_natCast, q4, dec_f (show ¬ (0 : Int) = 1 by decide), cond_f]
    refine Ok.le ?_ cell_Memory_table_Entry_Owned_j2_le
    rw [show IntKind.wrap .i64 (((i : Nat) : Int) + 1) = ((i + 1 : Nat) : Int) by rw [wrap64 (by omega) (by omega)]; omega]
    exact ih (i + 1) (by omega) (by omega)
theorem owned_ok (f : TF h t N σ st) (hN0 : 0 < N) (hN : N ≤ 1024) : Ok (C k_cell_Memory_table_Entry_Owned [ptr σ.p, .int .i64 1] h) fun v h' => v = .slice none 0 0 ∧ h' = h := by
  refine Ok.le ?_ cell_Memory_table_Entry_Owned_le
  simp only [F_cell_Memory_table_Entry_Owned, mMay f (i := 0) (by omega) (by omega), Option.bind_some, asI_i64, decide_true, Bool.not_true, cond_f]
  refine Ok.le ?_ cell_Memory_table_Entry_Owned_j5_le
  simp only [Option.bind_some, AH.ldS_of f.p (o := 0 + 0) rfl]
  exact owned_loop f hN N 0 (by omega) (by omega)
theorem fail_ok (hN0 : 0 < N) (hN : N ≤ 1024) (w : H h (tabP t N σ 1 ++ F)) : Ok (C k_tl2_Tx_table_Entry_fail [ptr t] h) fun v h' => v = .tuple #[] ∧ H h' (tabP t N σ 4 ++ F) := by
  have f := TF.of w
  refine Ok.le ?_ tl2_Tx_table_Entry_fail_le
  simp only [F_tl2_Tx_table_Entry_fail, Option.bind_some, AH.ldP_of f.t (o := 0 + 0) rfl, AH.ldI_of f.t (o := 0 + 1) rfl]
  refine Ok.bind (owned_ok f hN0 hN) ?_
  rintro _ h' ⟨rfl, rfl⟩
  simp only [asS_s, Option.bind_some]
  refine Ok.le ?_ tl2_Tx_table_Entry_fail_L1_le
  refine Ok.le ?_ tl2_Tx_table_Entry_fail_j4_le
  rw [dec_f (by decide), cond_f]
  refine Ok.le ?_ tl2_Tx_table_Entry_fail_j1_le
  obtain ⟨h1, e1, w1, _⟩ := (w.mv 0 rfl).st (o := 0 + 4) [.int .u8 4] (by simp)
  obtain ⟨h2, e2, w2, _⟩ := w1.st (o := 0 + 7) [.int .i64 0] (by simp [AH.setL])
  obtain ⟨h3, e3, w3, _⟩ := w2.st (o := 0 + 5) [.slice none 0 0] (by simp [AH.setL])
  simp only [Option.bind_some, e1, e2, e3]
  exact Ok.some ⟨rfl, w3⟩
theorem abort_ok (hN0 : 0 < N) (hN : N ≤ 1024) (w : H h (tabP t N σ 1 ++ F)) : Ok (C k_tl2_Tx_table_Entry_Abort [ptr t] h) fun v h' => v = .int .i64 0 ∧ H h' (tabP t N σ 4 ++ F) := by
  have f := TF.of w
  refine Ok.le ?_ tl2_Tx_table_Entry_Abort_le
  simp only [F_tl2_Tx_table_Entry_Abort, tRight f, Option.bind_some, asB_b, Bool.not_true, cond_f, AH.ldI_of f.t (o := 0 + 4) rfl, dec_f (show ¬ (1 : Int) = 3 by decide), dec_f (show ¬ (1 : Int) = 4 by decide), AH.ldB_of f.t (o := 0 + 6) rfl]
  refine Ok.le ?_ tl2_Tx_table_Entry_Abort_j1_le
  refine Ok.bind (fail_ok hN0 hN w) ?_
  rintro _ h' ⟨rfl, w'⟩
  rw [show asTu (.tuple #[]) = some [] from rfl]
  simp only [Option.bind_some, List.isEmpty_nil, cond_t]
  exact Ok.some ⟨rfl, w'⟩
theorem read_over (hst : st ≠ 1) (i : Int) (w : H h (tabP t N σ st ++ F)) : Ok (C k_tl2_Tx_table_Entry_Read [ptr t, .int .i64 i] h) fun v h' => v = .tuple #[vE E0, .int .i64 132] ∧ H h' (tabP t N σ st ++ F) := by
  refine Ok.le ?_ tl2_Tx_table_Entry_Read_le
  have w1 := w.push (.cells [.bool false, .string (ByteArray.mk #[]), .string (ByteArray.mk #[])] false false 3)
  have w2 := w1.push (.cells [.bool false, .string (ByteArray.mk #[]), .string (ByteArray.mk #[])] false false 3)
  have f2 := TF.of w2.drop.drop
  simp only [F_tl2_Tx_table_Entry_Read, tOver f2 hst i, Option.bind_some, asI_i64, dec_f (show ¬ (132 : Int) = 0 by decide), Bool.not_false, cond_t, AH.ldB_of w2.get (o := 0) rfl, AH.ldStr_of w2.get (o := 0 + 1) rfl, AH.ldStr_of w2.get (o := 0 + 2) rfl]
  obtain ⟨h3, k1, w3, k2⟩ := w2.u1.st (o := 0) (cE E0) (by simp)
  have w3' : H h3 (Cs h.n (cE E0) 3 :: Cs _ (cE E0) 3 :: (tabP t N σ st ++ F)) := w3
  simp only [k1, Option.bind_some, AH.ldB_of w3'.get (o := 0) rfl, AH.ldStr_of w3'.get (o := 0 + 1) rfl, AH.ldStr_of w3'.get (o := 0 + 2) rfl]
  exact Ok.some ⟨rfl, w3'.drop.drop⟩
theorem load_over (hst : st ≠ 1) (hn : 0 < n) (hb : base + n ≤ 1024) (w : H h (aX x t base n :: (tabP t N σ st ++ F))) : Ok (C k_table_Table_load [ptr x] h) fun v h' => v = .tuple #[.slice none 0 0, .int .i64 132] := by
  refine Ok.le ?_ table_Table_load_le
  have gx := w.get
  simp only [F_table_Table_load, Option.isNone_some, cond_f, Option.bind_some, AH.ldP_of gx (o := 0 + 0) rfl]
  refine Ok.le ?_ table_Table_load_j7_le
  simp only [Option.bind_some, AH.ldI_of gx (o := 0 + 2) rfl]
  refine Ok.le ?_ table_Table_load_L1_le
  refine Ok.le ?_ table_Table_load_j6_le
  rw [dec_t (by omega), cond_t]
  refine Ok.le ?_ table_Table_load_j5_le
  have hw : IntKind.wrap .i64 (((base : Nat) : Int) + 0) = ((base : Nat) : Int) := by rw [wrap64 (by omega) (by omega)]; omega
  simp only [Option.bind_some, AH.ldP_of gx (o := 0 + 0) rfl, AH.ldI_of gx (o := 0 + 1) rfl, hw]
  have w0 : H h (tabP t N σ st ++ (aX x t base n :: F)) := w.pm [1, 2, 3, 4, 5, 6, 0]
  refine Ok.bind (read_over hst _ w0) ?_
  rintro _ h2 ⟨rfl, w2⟩
  simp only [asTu_t, Option.bind_some, hdO_c, asAg_t, asB_b, asStr_s, asI_i64, List.isEmpty_nil, cond_t]
  have w3 := w2.push (.cells [.bool false, .string (ByteArray.mk #[]), .string (ByteArray.mk #[])] false false 3)
  have gx3 := w3.g 7 rfl
  obtain ⟨h4, k1, w4, k2⟩ := w2.var [.bool false, .string (ByteArray.mk #[]), .string (ByteArray.mk #[])] (cE E0) 3 rfl
  simp only [AH.ldP_of gx3 (o := 0 + 0) rfl, AH.ldI_of gx3 (o := 0 + 1) rfl, Option.bind_some, veqO_int, veqO_ptr, cond_t, k1, dec_f (show ¬ (132 : Int) = 0 by decide), Bool.not_false]
  exact Ok.some rfl
theorem remove_over (hst : st ≠ 1) (hn : 0 < n) (hb : base + n ≤ 1024) (key : ByteArray) (w : H h (aX x t base n :: (tabP t N σ st ++ F))) : Ok (C k_table_Table_Remove [ptr x, .string key] h) fun v h' => v = .tuple #[.bool false, .int .i64 132] := by
  refine Ok.le ?_ table_Table_Remove_le
  refine Ok.bind (load_over hst hn hb w) ?_
  rintro _ h2 rfl
  simp only [asTu_t, Option.bind_some, hdO_c, asS_s, asI_i64, List.isEmpty_nil, cond_t]
  refine Ok.bind (find_ok (l := []) (a := none) (c := 0) (by decide) (Rd.nil _ _)) ?_
  rintro _ h4 ⟨i, q1, rfl, f4⟩
  have hi : hitB [] key i = false := by unfold hitB; rw [List.getElem?_nil]
  simp only [asTu_t, Option.bind_some, hdO_c, asB_b, asI_i64, List.isEmpty_nil, cond_t, hi, Bool.not_false]
  exact Ok.some rfl
end
end Tab
end Go.Lg.Try
