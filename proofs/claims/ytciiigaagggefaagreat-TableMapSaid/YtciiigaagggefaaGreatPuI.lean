/- Tables: an entry put into a list, one taken out. -/
import Derived.Test.YtciiigaagggefaaGreatPuS
namespace Go.Lg.Tryz
set_option linter.unusedVariables false
set_option linter.unusedSimpArgs false
open Go Go.Proofs
namespace Tab
theorem drop_past (D R : List Value) (m : Nat) : (D ++ R).drop (m + D.length) = R.drop m := by rw [Nat.add_comm, ← List.drop_drop, List.drop_left]
section
variable {h : AH} {b n p : Nat} {L : List En} {F : List Asr}
theorem fl_len (L : List En) : (L.flatMap cE).length = L.length * 3 := flat_len cE_len L
theorem fl_split (L : List En) (i : Nat) : L.flatMap cE = (L.take i).flatMap cE ++ (L.drop i).flatMap cE := by rw [← List.flatMap_append, List.take_append_drop]
theorem ls_op (w : H h (aLs b n L :: F)) : ∃ rest, (L.flatMap cE ++ rest).length = n * 3 ∧ H h (Pt b (.cells (L.flatMap cE ++ rest) true false 3) :: F) := by
  obtain ⟨rest, w⟩ := w.ex
  obtain ⟨e, w⟩ := w.pu
  exact ⟨rest, e, w⟩
theorem ls_cl {rest : List Value} (e : (L.flatMap cE ++ rest).length = n * 3) (w : H h (Pt b (.cells (L.flatMap cE ++ rest) true false 3) :: F)) : H h (aLs b n L :: F) := w.imp fun m hm => ⟨rest, e, hm⟩
/-- the value of an entry -/
theorem ls_set (w : H h (aLs b n L :: F)) {i : Nat} {e : En} (he : L[i]? = some e) (v : ByteArray) : ∃ h', h.st b (0 + i * 3 + 2) [.string v] = some h' ∧ H h' (aLs b n (L.set i ⟨e.u, e.k, v⟩) :: F) := by
  obtain ⟨rest, hr, w⟩ := ls_op w
  have hi := (List.getElem?_eq_some_iff.mp he).1
  obtain ⟨h', k1, w1, _⟩ := w.st (o := 0 + i * 3 + 2) [.string v] (by rw [List.length_append, fl_len]; simp; omega)
  refine ⟨h', k1, ?_⟩
  have hsp : L.flatMap cE ++ rest = ((L.take i).flatMap cE ++ [Value.bool e.u, Value.string e.k]) ++ (.string e.v :: ((L.drop (i + 1)).flatMap cE ++ rest)) := by
    rw [fl_split L i, List.drop_eq_getElem_cons hi, (List.getElem?_eq_some_iff.mp he).2]
    simp
  have hlen : ((L.take i).flatMap cE ++ [Value.bool e.u, Value.string e.k]).length = 0 + i * 3 + 2 := by rw [List.length_append, fl_len, List.length_take, Nat.min_eq_left (by omega)]; simp
  rw [hsp, ← hlen, setL_app (by simp)] at w1
  have hfin : ((L.take i).flatMap cE ++ [Value.bool e.u, Value.string e.k]) ++ [.string v] ++ (Value.string e.v :: ((L.drop (i + 1)).flatMap cE ++ rest)).drop [Value.string v].length = (L.set i ⟨e.u, e.k, v⟩).flatMap cE ++ rest := by
    rw [List.set_eq_take_append_cons_drop, if_pos hi]
    simp
  rw [hfin] at w1
  refine ls_cl ?_ w1
  rw [List.length_append, fl_len, List.length_set]
  rw [List.length_append, fl_len] at hr
  exact hr
theorem app42 (a : Option Addr) (m c : Nat) (a' : Option Addr) (m' c' : Nat) (h : AH) : aapp Tryz.prog 42 42 (.slice a m c) (.slice a' m' c') h = appE 3 40 (.slice a m c) (.slice a' m' c') h := by kernel_rfl
/-- Insert -/
theorem ls_ins {i : Nat} {y : En} (hi : i ≤ L.length) (hn : L.length < n) (hb : n ≤ 200) (w : H h (aLs b n L :: Cs p (cE y) 3 :: F)) : ∃ h',
    C k_slices_Insert_table_Entry_table_Entry [.slice (some ⟨b, 0, none⟩) L.length opn, .int .i64 (i : Int), .slice (some ⟨p, 0, none⟩) 1 1] h = some (.slice (some ⟨b, 0, none⟩) (L.length + 1) opn, h') ∧ H h' (aLs b n (L.take i ++ y :: L.drop i) :: Cs p (cE y) 3 :: F) := by
  obtain ⟨rest, hr, w⟩ := ls_op w
  have hlib : ∀ r, insF Tryz.prog 42 3 [.slice (some ⟨b, 0, none⟩) L.length opn, .int .i64 (i : Int), .slice (some ⟨p, 0, none⟩) 1 1] h = some r →
      C k_slices_Insert_table_Entry_table_Entry [.slice (some ⟨b, 0, none⟩) L.length opn, .int .i64 (i : Int), .slice (some ⟨p, 0, none⟩) 1 1] h = some r := fun r hr => C_lib rfl hr
  have hg := w.get
  have hgp := w.g 1 rfl
  have hne : b ≠ p := w.ne
  have hL : (L.flatMap cE).length = L.length * 3 := fl_len L
  have hrl : rest.length = n * 3 - L.length * 3 := by rw [List.length_append, hL] at hr; omega
  have hA : ((L.take i).flatMap cE).length = i * 3 := by rw [fl_len, List.length_take, Nat.min_eq_left hi]
  have hD : ((L.drop i).flatMap cE).length = (L.length - i) * 3 := by rw [fl_len, List.length_drop]
  have hxs : ldRow h p 0 3 = some (cE y) := by simp only [ldRow, hgp]; rfl
  have hsp : L.flatMap cE ++ rest = (L.take i).flatMap cE ++ ((L.drop i).flatMap cE ++ rest) := by rw [← List.append_assoc, ← fl_split]
  obtain ⟨h', k1, w1, _⟩ := w.st (o := i * 3) (cE y ++ (L.drop i).flatMap cE) (by rw [List.length_append, List.length_append, hD, hL, hrl]; simp; omega)
  rw [hsp, ← hA, setL_app (by rw [List.length_append, List.length_append, hD, hrl]; simp; omega)] at w1
  have hfin : (L.take i).flatMap cE ++ (cE y ++ (L.drop i).flatMap cE) ++ ((L.drop i).flatMap cE ++ rest).drop (cE y ++ (L.drop i).flatMap cE).length = (L.take i ++ y :: L.drop i).flatMap cE ++ rest.drop 3 := by
    rw [List.length_append, cE_len, drop_past]
    simp
  rw [hfin] at w1
  refine ⟨h', hlib _ ?_, ls_cl ?_ w1⟩
  · show insF Tryz.prog 42 3 _ h = _
    unfold insF
    simp only [Nat.beq_refl, cond_t]
    by_cases hil : i = L.length
    · subst hil
      have hop : Nat.ble L.length opn = true := Nat.ble_eq_true_of_le (by unfold opn; omega)
      simp only [decide_true, cond_t, hop, Bool.and_self, show Nat.ble opn opn = true from Nat.ble_eq_true_of_le (Nat.le_refl _), app42]
      have hnw : newCells h 3 (.slice (some ⟨p, 0, none⟩) 1 1) = some (1, cE y) := newCells_one hgp rfl
      rw [List.drop_eq_nil_of_le (Nat.le_refl _), List.flatMap_nil, List.append_nil] at k1
      simp only [appE, hnw, Option.bind_some, roomOk_t (show (L.length + 1) * 40 ≤ 1099511627776 by omega) (show L.length + 1 ≤ 1099511627776 by omega), Bool.true_and, show Nat.beq (cE y).length (1 * 3) = true from rfl, cond_t, show Nat.blt opn opn = false from blt_opn, cond_f, hg, Nat.beq_refl,
        Nat.ble_eq_true_of_le (show (L.length + 1) * 3 ≤ (L.flatMap cE ++ rest).length by rw [hr]; omega), Nat.zero_add, k1]
    · rw [dec_f (show ¬ (i : Int) = (L.length : Nat) by omega), cond_f]
      have hcs : ldRow h b 0 (L.length * 3) = some (L.flatMap cE) := by
        simp only [ldRow, hg, Nat.ble_eq_true_of_le (show 0 + L.length * 3 ≤ (L.flatMap cE ++ rest).length by rw [hr]; omega), cond_t, List.drop_zero]
        rw [← hL, List.take_left']
        rfl
      have hdr : (L.flatMap cE).drop (i * 3) = (L.drop i).flatMap cE := by rw [fl_split L i, ← hA, List.drop_left']; rfl
      have hnb : Nat.beq b p = false := by
        cases hq : Nat.beq b p with
        | false => rfl
        | true => exact absurd (Nat.eq_of_beq_eq_true hq) hne
      simp only [dec_t (show (0 : Int) ≤ (i : Int) by omega), dec_t (show (i : Int) < ((L.length : Nat) : Int) by omega), Nat.beq_refl, Bool.and_self, show Nat.ble 1 1000000 = true from rfl, cond_t, hg, hgp, show Nat.blt 0 3 = true from rfl, Bool.true_and,
        Nat.ble_eq_true_of_le (show (L.length + 1) * 3 ≤ (L.flatMap cE ++ rest).length by rw [hr]; omega), hnb, Bool.not_false, Nat.ble_eq_true_of_le (show L.length ≤ 1000000000 by omega), hxs, hcs, Option.bind_some, hdr, Nat.zero_add, Int.toNat_natCast, k1]
  · simp only [List.length_append, fl_len, List.length_cons, List.length_drop, List.length_take, hrl]; omega
/-- Delete -/
theorem ls_del {i : Nat} (hi : i < L.length) (hn : L.length ≤ n) (hb : n ≤ 200) (w : H h (aLs b n L :: F)) : ∃ h',
    C k_slices_Delete_table_Entry_table_Entry [.slice (some ⟨b, 0, none⟩) L.length opn, .int .i64 (i : Int), .int .i64 ((i + 1 : Nat) : Int)] h = some (.slice (some ⟨b, 0, none⟩) (L.length - 1) opn, h') ∧ H h' (aLs b n (L.eraseIdx i) :: F) := by
  obtain ⟨rest, hr, w⟩ := ls_op w
  have hg := w.get
  have hL : (L.flatMap cE).length = L.length * 3 := fl_len L
  have hrl : rest.length = n * 3 - L.length * 3 := by rw [List.length_append, hL] at hr; omega
  have hA : ((L.take i).flatMap cE).length = i * 3 := by rw [fl_len, List.length_take, Nat.min_eq_left (by omega)]
  have hD : ((L.drop (i + 1)).flatMap cE).length = (L.length - (i + 1)) * 3 := by rw [fl_len, List.length_drop]
  obtain ⟨y, hy⟩ : ∃ y, L[i]? = some y := ⟨_, List.getElem?_eq_getElem hi⟩
  have hsp : L.flatMap cE ++ rest = (L.take i).flatMap cE ++ (cE y ++ (L.drop (i + 1)).flatMap cE ++ rest) := by
    rw [fl_split L i, List.drop_eq_getElem_cons hi, (List.getElem?_eq_some_iff.mp hy).2]
    simp
  have htop : ((L.flatMap cE ++ rest).length - 0) / 3 = n := by rw [hr]; omega
  have q0 : slcE 3 (some ⟨b, 0, none⟩) L.length opn (some (.int .i64 (i : Int))) (some (.int .i64 ((i + 1 : Nat) : Int))) (some (.int .i64 ((L.length : Nat) : Int))) h = some (.slice (some ⟨b, 0 + cond (Nat.beq i L.length) 0 (i * 3), none⟩) (i + 1 - i) (L.length - i), h) := by
    simp only [slcE, blt_opn, cond_f, show Nat.beq 3 0 = false from rfl, hg, Nat.beq_refl, cond_t, htop, Option.isSome_some]
    rw [bnd (k := L.length) rfl (by omega), blt_small (by omega), cond_t, bnd (k := i + 1) rfl (by omega), bnd (k := i) rfl (by omega)]
  have q1 : slcE 3 (some ⟨b, 0, none⟩) L.length opn none (some (.int .i64 (i : Int))) none h = some (.slice (some ⟨b, 0, none⟩) i opn, h) := by
    simp only [slcE, blt_opn, cond_f, show Nat.beq 3 0 = false from rfl, hg, Nat.beq_refl, cond_t, htop]
    rw [bnd (k := i) rfl (by omega), bnd0, Nat.zero_mul, Nat.sub_zero]
  have q2 : slcE 3 (some ⟨b, 0, none⟩) L.length opn (some (.int .i64 ((i + 1 : Nat) : Int))) none none h = some (.slice (some ⟨b, 0 + (i + 1) * 3, none⟩) (L.length - (i + 1)) opn, h) := by
    simp only [slcE, blt_opn, cond_f, show Nat.beq 3 0 = false from rfl, hg, Nat.beq_refl, cond_t, htop]
    rw [bnd0, bnd (k := i + 1) rfl (by omega)]
  have hrow : ldRow h b (0 + (i + 1) * 3) ((L.length - (i + 1)) * 3) = some ((L.drop (i + 1)).flatMap cE) := by
    simp only [ldRow, hg, Nat.ble_eq_true_of_le (show 0 + (i + 1) * 3 + (L.length - (i + 1)) * 3 ≤ (L.flatMap cE ++ rest).length by rw [hr]; omega), cond_t]
    have h1 : L.flatMap cE ++ rest = ((L.take (i + 1)).flatMap cE) ++ ((L.drop (i + 1)).flatMap cE ++ rest) := by rw [← List.append_assoc, ← fl_split]
    have h2 : ((L.take (i + 1)).flatMap cE).length = 0 + (i + 1) * 3 := by rw [fl_len, List.length_take, Nat.min_eq_left (by omega)]; omega
    rw [h1, ← h2, List.drop_left', ← hD, List.take_left'] <;> rfl
  have hnw : newCells h 3 (.slice (some ⟨b, 0 + (i + 1) * 3, none⟩) (L.length - (i + 1)) opn) = some (L.length - (i + 1), (L.drop (i + 1)).flatMap cE) := by
    simp only [newCells, hrow, Option.bind_some]
  obtain ⟨h1, k1, w1, _⟩ := w.st (o := i * 3) ((L.drop (i + 1)).flatMap cE) (by rw [hr, hD]; omega)
  rw [hsp, ← hA, setL_app (by rw [List.length_append, List.length_append, hD]; simp; omega)] at w1
  have q3 : appE 3 40 (.slice (some ⟨b, 0, none⟩) i opn) (.slice (some ⟨b, 0 + (i + 1) * 3, none⟩) (L.length - (i + 1)) opn) h = some (.slice (some ⟨b, 0, none⟩) (L.length - 1) opn, h1) := by
    have hnw' := hnw
    rw [Nat.zero_add ((i + 1) * 3)] at hnw'
    simp only [appE, hnw', Nat.zero_add, Option.bind_some, roomOk_t (show (i + (L.length - (i + 1))) * 40 ≤ 1099511627776 by omega) (show i + (L.length - (i + 1)) ≤ 1099511627776 by omega), Bool.true_and, hD, Nat.beq_refl, cond_t, show Nat.blt opn opn = false from blt_opn, cond_f, hg,
      Nat.ble_eq_true_of_le (show (i + (L.length - (i + 1))) * 3 ≤ (L.flatMap cE ++ rest).length by rw [hr]; omega), Nat.zero_add, k1]
    rw [show i + (L.length - (i + 1)) = L.length - 1 by omega]
  have hE : L.eraseIdx i = L.take i ++ L.drop (i + 1) := List.eraseIdx_eq_take_drop_succ _ _
  obtain ⟨R, hR⟩ : ∃ R, R = (cE y ++ (L.drop (i + 1)).flatMap cE ++ rest).drop ((L.drop (i + 1)).flatMap cE).length := ⟨_, rfl⟩
  have hRl : R.length = 3 + rest.length := by rw [hR, List.length_drop]; simp only [List.length_append, cE_len]; omega
  have hEl : ((L.eraseIdx i).flatMap cE).length = (L.length - 1) * 3 := by rw [fl_len, List.length_eraseIdx, if_pos hi]
  rw [← hR, show (L.take i).flatMap cE ++ (L.drop (i + 1)).flatMap cE ++ R = (L.eraseIdx i).flatMap cE ++ R by rw [hE, List.flatMap_append]] at w1
  have hg1 := w1.get
  have htop1 : (((L.eraseIdx i).flatMap cE ++ R).length - 0) / 3 = n := by rw [List.length_append, hEl, hRl, hrl]; omega
  have q4 : slcE 3 (some ⟨b, 0, none⟩) (L.length - 1) opn (some (.int .i64 ((L.length - 1 : Nat) : Int))) (some (.int .i64 ((L.length : Nat) : Int))) none h1 = some (.slice (some ⟨b, 0 + (L.length - 1) * 3, none⟩) 1 opn, h1) := by
    simp only [slcE, blt_opn, cond_f, show Nat.beq 3 0 = false from rfl, hg1, Nat.beq_refl, cond_t, htop1]
    rw [bnd (k := L.length) rfl (by omega), bnd (k := L.length - 1) rfl (by omega), show L.length - (L.length - 1) = 1 by omega]
  obtain ⟨h2, k2, w2, _⟩ := w1.st (o := 0 + (L.length - 1) * 3) (repL [.bool false, .string (ByteArray.mk #[]), .string (ByteArray.mk #[])] (0 + 1)) (by rw [List.length_append, hEl, hRl]; simp [repL])
  have q5 : clrE [.bool false, .string (ByteArray.mk #[]), .string (ByteArray.mk #[])] (some ⟨b, 0 + (L.length - 1) * 3, none⟩) 1 h1 = some h2 := k2
  rw [Nat.zero_add, ← hEl, setL_app (by rw [hRl]; simp [repL]), List.append_assoc] at w2
  refine ⟨h2, ?_, ls_cl ?_ w2⟩
  · refine slices_Delete_table_Entry_table_Entry_le _ ?_
    simp only [F_slices_Delete_table_Entry_table_Entry, q0, Option.bind_some, asS_s, dec_f (show ¬ (i : Int) = ((i + 1 : Nat) : Int) by omega), cond_f]
    refine slices_Delete_table_Entry_table_Entry_j1_le _ ?_
    simp only [q1, q2, q3, q4, q5, Option.bind_some, asS_s]
  · simp only [List.length_append, hEl, List.length_drop, hRl, hrl, repL]; simp; omega
end
end Tab
end Go.Lg.Tryz
