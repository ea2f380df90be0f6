/- TableNone: missing tables and transactions, ended transactions, and cells that are no table are refused. -/
import Derived.Test.YtciiigaagggefaaFkit
import Derived.Test.YtciiigaagggefaaPkitPick
import Derived.Test.YtciiigaagggefaaPtabO
namespace Go.Lg.Try
set_option linter.unusedVariables false
set_option linter.unusedSimpArgs false
open Go Go.Proofs
namespace Tab
def encE (e : En) : List Value := [.bool e.u, .string e.k, .string e.v]
theorem encE_len (e : En) : (encE e).length = 3 := rfl
theorem encE_eq (l : List En) : l.flatMap encE = l.flatMap cE := rfl
theorem take_rd {h : AH} {a : Option Addr} {l : List En} (k : Nat) (hr : Rd h a (l.flatMap cE)) : Rd h a ((l.take k).flatMap cE) := by
  rcases hr with he | ⟨ad, c, op, ro, e, rfl, h1, h2, h3⟩
  · left
    cases l with
    | nil => simp
    | cons x l => simp at he
  · have hsplit : l.flatMap cE = (l.take k).flatMap cE ++ (l.drop k).flatMap cE := by rw [← List.flatMap_append, List.take_append_drop]
    exact .inr ⟨ad, c, op, ro, e, rfl, h1, h2, fun j v hv => h3 j v (by rw [hsplit, List.getElem?_append_left (List.getElem?_eq_some_iff.mp hv).1]; exact hv)⟩
theorem cutE {h : AH} {a : Option Addr} {n c : Nat} {l : List En} (hn : n = l.length) (hrd : Rd h a (l.flatMap cE)) (hcap : c < 140737488355328) (hle : n ≤ c) (hnil : a = none → n = 0 ∧ c = 0) {k : Nat} (hk : k ≤ n) : ∃ a' c', slcE 3 a n c none (some (.int .i64 (k : Int))) none h = some (.slice a' (l.take k).length c', h) ∧ Rd h a' ((l.take k).flatMap cE) := by
  have hlen : (l.take k).length = k := by rw [List.length_take]; omega
  rw [hlen]
  cases a with
  | none =>
    obtain ⟨h1, h2⟩ := hnil rfl
    subst h1 h2
    obtain rfl : k = 0 := by omega
    refine ⟨none, 0, ?_, by rw [List.take_zero]; exact Rd.nil _ _⟩
    simp only [slcE, Nat.beq_refl, Bool.and_self, cond_t]
    rw [bnd (k := 0) rfl (Nat.le_refl _), bnd0]
  | some ad =>
    refine ⟨some ⟨ad.block, ad.off + cond (Nat.beq 0 c) 0 (0 * 3), none⟩, c - 0, ?_, ?_⟩
    · simp only [slcE, blt_small (show c < 4611686018427387904 by omega), cond_t]
      rw [bnd rfl (by omega), bnd0, Nat.sub_zero]
    · have ho : ad.off + cond (Nat.beq 0 c) 0 (0 * 3) = ad.off := by cases Nat.beq 0 c <;> rfl
      rw [ho]
      have := take_rd k hrd
      rcases this with he | ⟨ad', cc, op, ro, e, h0, h1, h2, h3⟩
      · exact .inl he
      · obtain rfl := Option.some.inj h0
        exact .inr ⟨_, cc, op, ro, e, rfl, h1, h2, h3⟩
theorem rightF_take {l : List En} {n : Nat} (hn : n ≤ l.length) : ∀ (k i : Nat), i + k ≤ n → rightF (l.take n) k i = rightF l k i
  | 0, i, _ => rfl
  | k + 1, i, h => by
    have h1 : (l.take n)[i]? = l[i]? := by rw [List.getElem?_take, if_pos (by omega)]
    have h2 : (l.take n)[i - 1]? = l[i - 1]? := by rw [List.getElem?_take, if_pos (by omega)]
    unfold rightF
    rw [h1, rightF_take hn k (i + 1) (by omega)]
    unfold rStep
    rw [h2]
abbrev QT : Value → AH → Prop := fun v _ => v = .bool true
theorem aw_ok (h : AH) : Ok ((C k_law20_awake [] h).bind fun r => ((asB r.1).bind fun b => (some ((.bool b), r.2)))) QT := by
  rw [C_closed (show closedL.any (Nat.beq k_law20_awake) = true from rfl) h]
  exact Ok.some rfl
section
variable {h : AH} {a1 : Option Addr} {l2 c3 n : Nat} {l : List En}
theorem L2_loop (hl : l2 = l.length) (hn : n ≤ l2) (hn20 : n < 20) (hr : Rd h a1 (l.flatMap cE)) : ∀ (k i : Nat) (b : Bool), n - i = k → i ≤ n → Ok (law20_TableNone_j9 (n : Int) h a1 l2 (b && rightF l k i) c3) QT →
    Ok (law20_TableNone_L2 (n : Int) a1 l2 c3 b (i : Int) h) QT := by
  intro k
  induction k with
  | zero =>
    intro i b hk hi hfin
    refine Ok.le ?_ law20_TableNone_L2_le
    rw [dec_f (by omega), cond_f]
    simpa [rightF] using hfin
  | succ k ih =>
    intro i b hk hi hfin
    refine Ok.le ?_ law20_TableNone_L2_le
    rw [dec_t (by omega), cond_t]
    refine Ok.le ?_ law20_TableNone_j11_le
    obtain ⟨x, hx⟩ : ∃ x, l[i]? = some x := ⟨_, List.getElem?_eq_getElem (by omega)⟩
    have hrf : rightF l (k + 1) i = (rStep l i x && rightF l k (i + 1)) := by
      show ((match l[i]? with | some x => rStep l i x | none => false) && rightF l k (i + 1)) = _
      rw [hx]
    rw [hrf] at hfin
    have nx : ∀ b', (b && (rStep l i x && rightF l k (i + 1))) = (b' && rightF l k (i + 1)) → Ok (law20_TableNone_j10 (n : Int) a1 l2 c3 (i : Int) h b') QT := fun b' hb => by
      refine Ok.le ?_ law20_TableNone_j10_le
      rw [show IntKind.wrap .i64 ((i : Int) + 1) = ((i + 1 : Nat) : Int) by rw [wrap64 (by omega) (by omega)]; omega]
      exact ih (i + 1) b' (by omega) (by omega) (by rw [← hb]; exact hfin)
    cases b with
    | false => rw [cond_f]; exact nx false (by simp)
    | true =>
      rw [cond_t]
      obtain ⟨ad, rfl, e1, e2, e3⟩ := rd3 hr hx
      have hin : inB (i : Int) l2 = true := inB_t (by omega) (by omega)
      simp only [Option.bind_some, hin, cond_t, Int.toNat_natCast, e1, e2, e3, Nat.add_zero]
      by_cases hz : isZ x = true
      · have hz' := hz
        unfold isZ at hz'
        rw [hz', cond_t]
        exact nx true (by unfold rStep; rw [hz]; rfl)
      · have hz0 : isZ x = false := by cases hq : isZ x <;> simp_all
        have hz' := hz0
        unfold isZ at hz'
        rw [hz', cond_f]
        cases hu : x.u with
        | false =>
          rw [cond_f]
          exact nx false (by unfold rStep; rw [hz0, hu]; rfl)
        | true =>
          rw [cond_t]
          by_cases hi0 : i = 0
          · rw [dec_t (by omega), cond_t]
            exact nx true (by unfold rStep; rw [hz0, hu, hi0]; rfl)
          · rw [dec_f (by omega), cond_f]
            have hw1 : IntKind.wrap .i64 ((i : Int) - 1) = ((i - 1 : Nat) : Int) := by rw [wrap64 (by omega) (by omega)]; omega
            obtain ⟨p, hp⟩ : ∃ p, l[i - 1]? = some p := ⟨_, List.getElem?_eq_getElem (by omega)⟩
            obtain ⟨ad', ea, p1, p2, p3⟩ := rd3 hr hp
            obtain rfl := Option.some.inj ea
            have hin1 : inB ((i - 1 : Nat) : Int) l2 = true := inB_t (by omega) (by omega)
            have hrs : rStep l i x = (p.u && sltB p.k x.k) := by unfold rStep; rw [hz0, hu, hp]; simp [hi0]
            simp only [Option.bind_some, hw1, hin1, cond_t, Int.toNat_natCast, p1, p2]
            cases hpu : p.u with
            | false => rw [cond_f]; exact nx false (by rw [hrs, hpu]; rfl)
            | true => rw [cond_t]; exact nx _ (by rw [hrs, hpu]; simp)
variable {t x : Nat} {F : List Asr}
theorem set_step {n i : Nat} {x : En} (hx : l[i]? = some x) (hi : i < n) (hn : n ≤ l.length) : (l.take i ++ List.replicate (n - i) E0).set i x = l.take (i + 1) ++ List.replicate (n - (i + 1)) E0 := by
  have hl : (l.take i).length = i := by rw [List.length_take]; omega
  rw [List.set_append_right _ _ (by omega), hl, Nat.sub_self]
  rw [show n - i = (n - (i + 1)) + 1 by omega, List.replicate_succ, List.set_cons_zero, List.take_add_one, hx]
  simp
theorem L1_loop {R : Bool} (hl : l2 = l.length) (hn : n ≤ l2) (hn20 : n < 20) (hfin : ∀ h', H h' (aX x t 3 n :: aTab t 30 3 n (l.take n) :: aRds [(a1, l.flatMap cE)] :: []) → Ok (law20_TableNone_j4 R (some ⟨x, 0, none⟩) h' a1 l2 c3 (n : Int) (some ⟨t, 0, none⟩)) QT) :
    ∀ (k i : Nat) (h : AH), n - i = k → i ≤ n → H h (aX x t 3 n :: aTab t 30 3 n (l.take i ++ List.replicate (n - i) E0) :: aRds [(a1, l.flatMap cE)] :: []) →
    Ok (law20_TableNone_L1 (n : Int) a1 l2 (some ⟨t, 0, none⟩) (some ⟨x, 0, none⟩) R c3 (i : Int) h) QT := by
  intro k
  induction k with
  | zero =>
    intro i h hk hi w
    obtain rfl : i = n := by omega
    refine Ok.le ?_ law20_TableNone_L1_le
    rw [dec_f (by omega), cond_f]
    rw [Nat.sub_self, List.replicate_zero, List.append_nil] at w
    exact hfin h w
  | succ k ih =>
    intro i h hk hi w
    refine Ok.le ?_ law20_TableNone_L1_le
    rw [dec_t (by omega), cond_t]
    refine Ok.le ?_ law20_TableNone_j6_le
    obtain ⟨y, hy⟩ : ∃ y, l[i]? = some y := ⟨_, List.getElem?_eq_getElem (by omega)⟩
    have hr : Rd h a1 (l.flatMap cE) := (w.mv 2 rfl).rds (p := (a1, l.flatMap cE)) (by simp)
    obtain ⟨ad, rfl, e1, e2, e3⟩ := rd3 hr hy
    simp only [Option.bind_some, inB_t (show (0 : Int) ≤ (i : Int) by omega) (show (i : Int) < ((l2 : Nat) : Int) by omega), cond_t, Int.toNat_natCast, e1, e2, e3]
    rw [show IntKind.wrap .i64 (3 + ((i : Nat) : Int)) = ((3 + i : Nat) : Int) by rw [wrap64 (by omega) (by omega)]; omega]
    refine Ok.bind (tab_write w.u1 (i := i) (by omega) y) ?_
    rintro _ h2 ⟨rfl, w2⟩
    simp only [asI_i64, Option.bind_some, decide_true, Bool.not_true, cond_f]
    refine Ok.le ?_ law20_TableNone_j5_le
    rw [show IntKind.wrap .i64 (((i : Nat) : Int) + 1) = ((i + 1 : Nat) : Int) by rw [wrap64 (by omega) (by omega)]; omega]
    rw [set_step hy (by omega) (by omega)] at w2
    exact ih (i + 1) h2 (by omega) (by omega) w2.u1
theorem nextV_form (l : List En) (e : Int) (j : Nat) : ∃ y b, nextV l e j = .tuple #[vE y, .bool b, .int .i64 (if b then 0 else e)] := by
  unfold nextV
  cases l[j]? with
  | none => exact ⟨E0, false, rfl⟩
  | some y => exact ⟨y, true, rfl⟩
theorem tail_ok {R : Bool} {e : Int} {good : En → Prop} (s : SlIn h encE good a1 l2 c3 l) (hn : n ≤ l2) (hn0 : 0 < n) (hn20 : n < 20) (hR : R = rightF l n 0) (he : e = if R then 0 else 241)
    (h1 : AH) (w : H h1 (aX x t 3 n :: aTab t 30 3 n (l.take n) :: aRds [(a1, l.flatMap cE)] :: [])) :
    Ok (law20_TableNone_j3 (some ⟨x, 0, none⟩) h1 a1 l2 c3 (n : Int) R (some ⟨t, 0, none⟩) e) QT := by
  have hln := s.len
  have hlt : (l.take n).length = n := by rw [List.length_take]; omega
  have hRB : rightB (l.take n) = R := by
    show rightF (l.take n) (l.take n).length 0 = R
    rw [hlt, rightF_take (by omega) n 0 (by omega), hR]
  refine Ok.le ?_ law20_TableNone_j3_le
  have hlist : Ok (C k_table_Table_List [ptr x] h1) fun v h' => ∃ a n' c, v = .tuple #[.slice a n' c, .int .i64 e] ∧ H h' (aX x t 3 n :: aTab t 30 3 n (l.take n) :: aRds [(a1, l.flatMap cE)] :: []) := by
    refine Ok.mono (list_ok hn0 w) ?_
    rintro v h' (⟨h1, b, rfl, w'⟩ | ⟨h1, rfl, w'⟩)
    · rw [hRB] at h1
      exact ⟨_, _, _, by rw [he, h1]; rfl, w'.drop⟩
    · rw [hRB] at h1
      exact ⟨_, _, _, by rw [he, h1]; rfl, w'⟩
  refine Ok.bind hlist ?_
  rintro _ h2 ⟨a, n', c, rfl, w2⟩
  simp only [asTu_t, Option.bind_some, hdO_c, asS_s, asI_i64, List.isEmpty_nil, cond_t]
  have hnext : Ok (C k_table_Table_Next [ptr x, .string (ByteArray.mk #[])] h2) fun v h' => ∃ y b, v = .tuple #[vE y, .bool b, .int .i64 e] ∧ H h' (aX x t 3 n :: aTab t 30 3 n (l.take n) :: aRds [(a1, l.flatMap cE)] :: []) := by
    refine Ok.mono (next_ok hn0 _ w2) ?_
    rintro v h' (⟨h1, i, q, rfl, w'⟩ | ⟨h1, rfl, w'⟩)
    · rw [hRB] at h1
      obtain ⟨y, b, e1⟩ := nextV_form (used (l.take n)) 0 (if hitB (used (l.take n)) (ByteArray.mk #[]) i then i + 1 else i)
      exact ⟨y, b, by rw [e1, he, h1]; simp, w'⟩
    · rw [hRB] at h1
      exact ⟨_, _, by rw [he, h1]; rfl, w'⟩
  refine Ok.bind hnext ?_
  rintro _ h3 ⟨y, b, rfl, w3⟩
  simp only [asTu_t, Option.bind_some, hdO_c, asAg_t, asB_b, asStr_s, asI_i64, List.isEmpty_nil, cond_t]
  obtain ⟨h4, k1, w4, k2⟩ := w3.var [.bool false, .string (ByteArray.mk #[]), .string (ByteArray.mk #[])] (cE y) 3 rfl
  simp only [k1, Option.bind_some, decide_true, Bool.not_true, cond_f]
  have hr4 : Rd h4 a1 (l.flatMap cE) := (w4.mv 3 rfl).rds (p := (a1, l.flatMap cE)) (by simp)
  obtain ⟨a', c', q1, q2⟩ := cutE s.len hr4 s.cap s.le s.nil hn
  rw [q1]
  simp only [Option.bind_some, asS_s]
  refine Ok.bind (right_ok (by omega) q2) ?_
  rintro _ h5 ⟨rfl, f5⟩
  have w5 := w4.fr f5
  simp only [asB_b, Option.bind_some]
  rw [show (rightB (l.take n) == R) = true by rw [hRB]; simp, Bool.not_true, cond_f]
  obtain ⟨σ, I, w6⟩ := tab_op (w5.mv 2 rfl)
  refine Ok.bind (abort_ok (by decide) (by decide) w6) ?_
  rintro _ h7 ⟨rfl, w7⟩
  simp only [asI_i64, Option.bind_some, decide_true, Bool.not_true]
  refine Ok.le ?_ law20_TableNone_j2_le
  rw [cond_f]
  refine Ok.le ?_ law20_TableNone_j1_le
  have w8 : H h7 (aX x t 3 n :: (tabP t 30 σ 4 ++ [Cs h3.n (cE y) 3, aRds [(a1, l.flatMap cE)]])) := w7.mv 7 rfl
  refine Ok.bind (remove_over (by decide) hn0 (by omega) _ w8) ?_
  rintro _ h9 rfl
  simp only [asTu_t, Option.bind_some, hdO_c, asB_b, asI_i64, List.isEmpty_nil, cond_t, decide_true]
  exact aw_ok h9
/-- nothing at all -/
theorem st_nil (h : AH) : C k_tl2_Tx_table_Entry_Status [.pointer none] h = some (.int .u8 0, h) := by
  have hr : C k_tl2_Tx_table_Entry_right [.pointer none] h = some (.bool false, h) := tl2_Tx_table_Entry_right_le _ rfl
  refine tl2_Tx_table_Entry_Status_le _ ?_
  simp only [F_tl2_Tx_table_Entry_Status, hr, Option.bind_some, asB_b, Bool.not_false, cond_t]
theorem of_nil (h : AH) (b n : Int) : C k_table_Of [.pointer none, .int .i64 b, .int .i64 n] h = some (.tuple #[.pointer none, .int .i64 1], h) := by
  refine table_Of_le _ ?_
  simp only [F_table_Of, st_nil, Option.bind_some, asI_u8, decide_true, cond_t]
theorem load_nil (h : AH) : C k_table_Table_load [.pointer none] h = some (.tuple #[.slice none 0 0, .int .i64 1], h) := table_Table_load_le _ rfl
theorem list_zero {h : AH} {p : Nat} (g : h.get p = some (.cells [.pointer none, .int .i64 0, .int .i64 0] false false 3)) : C k_table_Table_List [ptr p] h = some (.tuple #[.slice none 0 0, .int .i64 1], h) := by
  have hl : C k_table_Table_load [ptr p] h = some (.tuple #[.slice none 0 0, .int .i64 1], h) := by
    refine table_Table_load_le _ ?_
    simp only [F_table_Table_load, Option.isNone_some, cond_f, Option.bind_some, AH.ldP_of g (o := 0 + 0) rfl, Option.isNone_none, cond_t]
  refine table_Table_List_le _ ?_
  simp only [F_table_Table_List, hl, Option.bind_some, asTu_t, hdO_c, asS_s, asI_i64, List.isEmpty_nil, cond_t]
theorem put_nil (h : AH) (k v : ByteArray) : C k_table_Table_Put [.pointer none, .string k, .string v] h = some (.int .i64 1, h) := by
  refine table_Table_Put_le _ ?_
  simp only [F_table_Table_Put, load_nil, Option.bind_some, asTu_t, hdO_c, asS_s, asI_i64, List.isEmpty_nil, cond_t, dec_f (show ¬ (1 : Int) = 0 by decide), Bool.not_false]
theorem get_nil (h : AH) (k : ByteArray) : Ok (C k_table_Table_Get [.pointer none, .string k] h) fun v h' => v = .tuple #[.string (ByteArray.mk #[]), .bool false, .int .i64 1] ∧ Fr [] h h' := by
  refine Ok.le ?_ table_Table_Get_le
  simp only [F_table_Table_Get, load_nil, Option.bind_some, asTu_t, hdO_c, asS_s, asI_i64, List.isEmpty_nil, cond_t]
  refine Ok.bind (find_ok (l := []) (a := none) (c := 0) (by decide) (Rd.nil _ _)) ?_
  rintro _ h4 ⟨i, q1, rfl, f4⟩
  have hi : hitB [] k i = false := by unfold hitB; rw [List.getElem?_nil]
  simp only [asTu_t, Option.bind_some, hdO_c, asB_b, asI_i64, List.isEmpty_nil, cond_t, hi, cond_f]
  refine Ok.le ?_ table_Table_Get_j1_le
  exact Ok.some ⟨rfl, f4⟩
theorem None_main (h : AH) {a1 : Option Addr} {l2 c3 : Nat} {l : List En} (s0 : SlIn h encE (fun _ => True) a1 l2 c3 l) : Ok (C k_law20_TableNone [.slice a1 l2 c3] h) QT := by
  refine Ok.le ?_ law20_TableNone_le
  have f5 : Fr [] h (h.push (.cells [.pointer none, .int .i64 0, .int .i64 0] false false 3)) := Fr.push _ _ _
  have g5 := AH.get_push_eq h (.cells [.pointer none, .int .i64 0, .int .i64 0] false false 3)
  have n5 := AH.n_push h (.cells [.pointer none, .int .i64 0, .int .i64 0] false false 3)
  have hb5 : h.n < (h.push (.cells [.pointer none, .int .i64 0, .int .i64 0] false false 3)).n := by omega
  unfold F_law20_TableNone
  obtain ⟨h5, e5⟩ : ∃ h5, h5 = h.push (.cells [.pointer none, .int .i64 0, .int .i64 0] false false 3) := ⟨_, rfl⟩
  rw [← e5] at f5 g5 hb5 ⊢
  simp only [of_nil, Option.bind_some, asTu_t, hdO_c, asP_p, asI_i64, List.isEmpty_nil, cond_t]
  refine Ok.bind (get_nil h5 _) ?_
  rintro _ h6 ⟨rfl, f6⟩
  have g6 : h6.get h.n = some (.cells [.pointer none, .int .i64 0, .int .i64 0] false false 3) := by rw [f6.g _ hb5 (by simp)]; exact g5
  simp only [asTu_t, Option.bind_some, hdO_c, asB_b, asStr_s, asI_i64, List.isEmpty_nil, cond_t, list_zero g6, asS_s, decide_true, Bool.not_true, cond_f, put_nil]
  refine Ok.le ?_ law20_TableNone_j13_le
  rw [cond_f]
  refine Ok.le ?_ law20_TableNone_j12_le
  have s := (s0.fr f5).fr f6
  have hl := s.len
  have hrd : Rd h6 a1 (l.flatMap cE) := s.rd
  obtain ⟨n, hn, hn1, hn2⟩ : ∃ n : Nat, pickM ((l2 : Nat) : Int) 20 = (n : Int) ∧ n ≤ l2 ∧ n < 20 := by
    have hb := pickM_bd ((l2 : Nat) : Int) 20 (by decide)
    refine ⟨(pickM ((l2 : Nat) : Int) 20).toNat, by omega, ?_, by omega⟩
    have : pickM ((l2 : Nat) : Int) 20 ≤ l2 := by
      unfold pickM
      rw [Int.tmod_eq_emod_of_nonneg (by omega), if_neg (by omega)]
      omega
    omega
  simp only [pick_eq _ 20 (by decide) (by decide), Option.bind_some, asI_i64, hn]
  refine L2_loop (l := l) hl hn1 hn2 hrd n 0 true (by omega) (by omega) ?_
  rw [Bool.true_and]
  refine Ok.le ?_ law20_TableNone_j9_le
  by_cases h0 : n = 0
  · rw [dec_t (by omega), cond_t]
    refine Ok.bind (right_ok (L := []) (a := none) (c := 0) (by decide) (Rd.nil _ _)) ?_
    rintro _ h7 ⟨rfl, f7⟩
    simp only [asB_b, Option.bind_some]
    exact aw_ok h7
  · rw [dec_f (by omega), cond_f]
    refine Ok.le ?_ law20_TableNone_j8_le
    have w : H h6 [aRds [(a1, l.flatMap cE)]] := H.args (by
      intro p hp
      simp only [List.mem_cons, List.not_mem_nil, or_false] at hp
      subst hp
      exact hrd)
    refine Ok.bind (begun_ok (N := 30) (by decide) (by decide) 3 (n : Int) w) ?_
    rintro v h7 hv
    rw [if_pos (by omega)] at hv
    obtain ⟨t, x, rfl, w7⟩ := hv
    simp only [asTu_t, Option.bind_some, hdO_c, asP_p, asI_i64, List.isEmpty_nil, cond_t, decide_true, Bool.not_true, cond_f]
    refine Ok.le ?_ law20_TableNone_j7_le
    refine L1_loop (l := l) hl hn1 hn2 (fun h8 w8 => ?_) n 0 h7 (by omega) (by omega) w7
    refine Ok.le ?_ law20_TableNone_j4_le
    cases hR : rightF l n 0 with
    | true => rw [Bool.not_true, cond_f]; exact tail_ok s0 hn1 (by omega) hn2 hR.symm rfl h8 w8
    | false => rw [Bool.not_false, cond_t]; exact tail_ok s0 hn1 (by omega) hn2 hR.symm rfl h8 w8
end
end Tab
end Go.Lg.Try
