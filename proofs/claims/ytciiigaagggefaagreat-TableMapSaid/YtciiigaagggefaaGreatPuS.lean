/- Tables: save. -/
import Derived.Test.YtciiigaagggefaaGreatPuQ
namespace Go.Lg.Tryz
set_option linter.unusedVariables false
set_option linter.unusedSimpArgs false
open Go Go.Proofs
namespace Tab
theorem mix_get {M L : List En} {i : Nat} {z : En} (hM : i ≤ M.length) (hz : L[i]? = some z) : (M.take i ++ L.drop i)[i]? = some z := by
  rw [List.getElem?_append_right (by rw [List.length_take]; omega), List.length_take, Nat.min_eq_left hM, Nat.sub_self, List.getElem?_drop]; exact hz
theorem mix_set {M L : List En} {i : Nat} {y : En} (hy : M[i]? = some y) (hL : i < L.length) : (M.take i ++ L.drop i).set i y = M.take (i + 1) ++ L.drop (i + 1) := by
  have hi := (List.getElem?_eq_some_iff.mp hy).1
  have hl : (M.take i).length = i := by rw [List.length_take]; omega
  rw [List.set_append_right _ _ (by omega), hl, Nat.sub_self, List.take_add_one, hy, List.drop_eq_getElem_cons hL, List.set_cons_zero]
  simp
theorem mix_same {M L : List En} {i : Nat} {y : En} (hy : M[i]? = some y) (hz : L[i]? = some y) : M.take i ++ L.drop i = M.take (i + 1) ++ L.drop (i + 1) := by
  have hi := (List.getElem?_eq_some_iff.mp hz).1
  rw [List.take_add_one, hy, List.drop_eq_getElem_cons hi, (List.getElem?_eq_some_iff.mp hz).2]
  simp
section
variable {h : AH} {x t base n : Nat} {N : MD} {L l : List En} {F : List Asr} {a : Option Addr} {c : Nat}
abbrev padE (l : List En) (n : Nat) : List En := l ++ List.replicate (n - l.length) E0
theorem save_loop (hl : l.length ≤ n) (hrd : ∀ h', H h' F → Rd h' a (l.flatMap cE)) : ∀ (k i : Nat) (h : AH), n - i = k → i ≤ n → L.length = n → H h (aX x t base n :: aTab t N base n ((padE l n).take i ++ L.drop i) :: F) →
    Ok (table_Table_save_L1 l.length a (some ⟨x, 0, none⟩) (n : Nat) c (i : Nat) h) fun v h' => v = .int .i64 0 ∧ H h' (aX x t base n :: aTab t N base n (padE l n) :: F) := by
  have hpl : (padE l n).length = n := by simp [padE]; omega
  intro k
  induction k with
  | zero =>
    intro i h hk hi hL w
    obtain rfl : i = n := by omega
    refine Ok.le ?_ table_Table_save_L1_le
    refine Ok.le ?_ table_Table_save_j6_le
    rw [dec_f (by omega), cond_f]
    refine Ok.le ?_ table_Table_save_j1_le
    rw [List.take_of_length_le (by omega), List.drop_eq_nil_of_le (by omega), List.append_nil] at w
    exact Ok.some ⟨rfl, w⟩
  | succ k ih =>
    intro i h hk hi hL w
    obtain ⟨hb1, hb2, hb3, hb4⟩ := tab_le (w.mv 1 rfl)
    have hin : i < n := by omega
    refine Ok.le ?_ table_Table_save_L1_le
    refine Ok.le ?_ table_Table_save_j6_le
    rw [dec_t (by omega), cond_t]
    refine Ok.le ?_ table_Table_save_j5_le
    obtain ⟨y, hy⟩ : ∃ y, (padE l n)[i]? = some y := ⟨_, List.getElem?_eq_getElem (by omega)⟩
    obtain ⟨z, hz⟩ : ∃ z, L[i]? = some z := ⟨_, List.getElem?_eq_getElem (by omega)⟩
    have nx : ∀ (h : AH) (L' : List En), L' = (padE l n).take (i + 1) ++ L.drop (i + 1) → H h (aX x t base n :: aTab t N base n L' :: F) → Ok (table_Table_save_j2 l.length a (some ⟨x, 0, none⟩) (n : Nat) c (i : Nat) h) fun v h' => v = .int .i64 0 ∧ H h' (aX x t base n :: aTab t N base n (padE l n) :: F) := fun h L' e w => by
      subst e
      refine Ok.le ?_ table_Table_save_j2_le
      rw [show IntKind.wrap .i64 (((i : Nat) : Int) + 1) = ((i + 1 : Nat) : Int) by rw [wrap64 (by omega) (by omega)]; omega]
      exact ih (i + 1) h (by omega) (by omega) hL w
    have hw : IntKind.wrap .i64 (((base : Nat) : Int) + (i : Nat)) = ((base + i : Nat) : Int) := by rw [wrap64 (by omega) (by omega)]; omega
    have key : ∀ (h : AH) (p : Nat), H h (Cs p (cE y) 3 :: aX x t base n :: aTab t N base n ((padE l n).take i ++ L.drop i) :: F) → Ok (table_Table_save_j4 (some ⟨x, 0, none⟩) (i : Nat) l.length a (n : Nat) c (some ⟨p, 0, none⟩) h) fun v h' => v = .int .i64 0 ∧ H h' (aX x t base n :: aTab t N base n (padE l n) :: F) := fun h p w => by
      refine Ok.le ?_ table_Table_save_j4_le
      have gx := w.g 1 rfl
      simp only [Option.bind_some, AH.ldP_of gx (o := 0 + 0) rfl, AH.ldI_of gx (o := 0 + 1) rfl, hw]
      refine Ok.bind (tab_read (w.mv 2 rfl) (mix_get (by omega) hz)) ?_
      rintro _ h2 ⟨rfl, w2⟩
      simp only [asTu_t, Option.bind_some, hdO_c, asAg_t, asB_b, asStr_s, asI_i64, List.isEmpty_nil, cond_t]
      have w3 := w2.push (.cells [.bool false, .string (ByteArray.mk #[]), .string (ByteArray.mk #[])] false false 3)
      have gx3 := w3.g 3 rfl
      obtain ⟨h4, k1, w4, k2⟩ := w2.var [.bool false, .string (ByteArray.mk #[]), .string (ByteArray.mk #[])] (cE z) 3 rfl
      have g4 := w4.get
      have gp := w4.g 2 rfl
      simp only [AH.ldP_of gx3 (o := 0 + 0) rfl, AH.ldI_of gx3 (o := 0 + 1) rfl, Option.bind_some, veqO_int, veqO_ptr, cond_t, k1, AH.ldB_of g4 (o := 0) rfl, AH.ldStr_of g4 (o := 0 + 1) rfl, AH.ldStr_of g4 (o := 0 + 2) rfl,
        AH.ldB_of gp (o := 0) rfl, AH.ldStr_of gp (o := 0 + 1) rfl, AH.ldStr_of gp (o := 0 + 2) rfl]
      by_cases he : ((z.u == y.u) && (seqB z.k y.k && (seqB z.v y.v && true))) = true
      · rw [he, cond_t]
        simp only [Bool.and_eq_true, beq_iff_eq, seqB_iff] at he
        obtain ⟨e1, e2, e3, _⟩ := he
        have hzy : z = y := by cases z; cases y; simp_all
        subst hzy
        exact nx h4 _ (mix_same hy hz) ((w4.drop).rm 1 rfl).u1
      · rw [show ((z.u == y.u) && (seqB z.k y.k && (seqB z.v y.v && true))) = false by cases hq : ((z.u == y.u) && (seqB z.k y.k && (seqB z.v y.v && true))) <;> simp_all, cond_f]
        refine Ok.le ?_ table_Table_save_j3_le
        have gx4 := w4.g 3 rfl
        simp only [Option.bind_some, AH.ldP_of gx4 (o := 0 + 0) rfl, AH.ldI_of gx4 (o := 0 + 1) rfl, hw, AH.ldB_of gp (o := 0) rfl, AH.ldStr_of gp (o := 0 + 1) rfl, AH.ldStr_of gp (o := 0 + 2) rfl]
        refine Ok.bind (tab_write (w4.mv 1 rfl) (i := i) hin y) ?_
        rintro _ h5 ⟨rfl, w5⟩
        simp only [asI_i64, Option.bind_some, decide_true, Bool.not_true, cond_f]
        exact nx h5 _ (mix_set hy (by omega)) ((w5.rm 1 rfl).rm 1 rfl).u1
    by_cases hil : i < l.length
    · obtain ⟨y', hy'⟩ : ∃ y', l[i]? = some y' := ⟨_, List.getElem?_eq_getElem hil⟩
      have hyy : y' = y := by
        have : (padE l n)[i]? = l[i]? := List.getElem?_append_left hil
        rw [hy, hy'] at this
        exact (Option.some.inj this).symm
      subst hyy
      have w1 := w.push (.cells [.bool false, .string (ByteArray.mk #[]), .string (ByteArray.mk #[])] false false 3)
      obtain ⟨ad, rfl, e1, e2, e3⟩ := rd3 (hrd _ w1.drop.drop.drop) hy'
      obtain ⟨h2, k1, w2, k2⟩ := w.var [.bool false, .string (ByteArray.mk #[]), .string (ByteArray.mk #[])] (cE y') 3 rfl
      rw [dec_t (by omega), cond_t]
      simp only [Option.bind_some, inB_t (show (0 : Int) ≤ ((i : Nat) : Int) by omega) (show ((i : Nat) : Int) < ((l.length : Nat) : Int) by omega), cond_t, Int.toNat_natCast, e1, e2, e3, k1]
      exact key h2 _ w2
    · have hyy : y = E0 := by
        have : (padE l n)[i]? = some E0 := by
          show (l ++ List.replicate (n - l.length) E0)[i]? = _
          rw [List.getElem?_append_right (by omega), List.getElem?_replicate, if_pos (by omega)]
        rw [hy] at this
        exact Option.some.inj this
      subst hyy
      have w1 : H _ (Cs h.n (cE E0) 3 :: _) := w.push (.cells [.bool false, .string (ByteArray.mk #[]), .string (ByteArray.mk #[])] false false 3)
      rw [dec_f (by omega), cond_f]
      exact key _ _ w1
theorem save_ok (hl : l.length ≤ n) (hrd : ∀ h', H h' F → Rd h' a (l.flatMap cE)) (w : H h (aX x t base n :: aTab t N base n L :: F)) : Ok (C k_table_Table_save [ptr x, .slice a l.length c] h) fun v h' =>
    v = .int .i64 0 ∧ H h' (aX x t base n :: aTab t N base n (padE l n) :: F) := by
  obtain ⟨_, _, _, hb4⟩ := tab_le (w.mv 1 rfl)
  refine Ok.le ?_ table_Table_save_le
  have gx := w.get
  simp only [F_table_Table_save, Option.bind_some, AH.ldI_of gx (o := 0 + 2) rfl]
  exact save_loop hl hrd n 0 h (by omega) (by omega) hb4 (by simpa using w)
end
end Tab
end Go.Lg.Tryz
