/- The table's list: find. -/
import Derived.Test.YtciiigaagggefaaGreatPuL2
namespace Go.Lg.Tryz
set_option linter.unusedVariables false
set_option linter.unusedSimpArgs false
open Go Go.Proofs
namespace Tab
abbrev cmpK (a b : ByteArray) : Int := Lib.compareBytes a.data.toList b.data.toList
theorem cb_find (y : En) (key : ByteArray) (h : AH) : Ok (C k_table_find_1 [vE y, .string key] h) fun v h' => v = .int .i64 (cmpK y.k key) ∧ Fr [] h h' := by
  refine Ok.le ?_ table_find_1_le
  have hc : ∀ h', C k_strings_Compare [.string y.k, .string key] h' = some (.int .i64 (cmpK y.k key), h') := fun h' => C_lib rfl rfl
  have g := AH.get_push_eq h (.cells [.bool y.u, .string y.k, .string y.v] false false 3)
  simp only [F_table_find_1, AH.ldStr_of g (o := 0 + 1) rfl, Option.bind_some, hc, asI_i64]
  exact Ok.some ⟨rfl, Fr.push _ _ _⟩
theorem mid_eq {lo hi : Nat} (h : lo + hi < 1000000000) : IntKind.wrap .i64 ((IntKind.wrap .u64 (IntKind.wrap .i64 ((lo : Int) + hi))).fdiv (2 ^ (min (1 : Int).toNat 64))) = (((lo + hi) / 2 : Nat) : Int) := by
  have h1 : IntKind.wrap .i64 ((lo : Int) + hi) = ((lo + hi : Nat) : Int) := by rw [wrap64 (by omega) (by omega)]; omega
  have h2 : IntKind.wrap .u64 ((lo + hi : Nat) : Int) = ((lo + hi : Nat) : Int) := by
    unfold IntKind.wrap
    simp [IntKind.signed, IntKind.bits]
    omega
  rw [h1, h2]
  have h3 : ((lo + hi : Nat) : Int).fdiv (2 ^ (min (1 : Int).toNat 64)) = (((lo + hi) / 2 : Nat) : Int) := by
    show ((lo + hi : Nat) : Int).fdiv 2 = _
    rw [Int.fdiv_eq_ediv_of_nonneg _ (by decide)]
    omega
  rw [h3, wrap64 (by omega) (by omega)]
def hitB (l : List En) (key : ByteArray) (i : Nat) : Bool := match l[i]? with | some x => decide (cmpK x.k key = 0) | none => false
/-- the place that a search tells: those at its left are below, it is not -/
structure BS (l : List En) (key : ByteArray) (i : Nat) : Prop where
  le : i ≤ l.length
  lo : ∀ x, 0 < i → l[i - 1]? = some x → cmpK x.k key < 0
  hi : ∀ x, l[i]? = some x → ¬ cmpK x.k key < 0
theorem bs_loop {l : List En} {a : Option Addr} {c : Nat} {key : ByteArray} (hl : l.length < 1000000) : ∀ (n lo hi : Nat) (h : AH), hi - lo ≤ n → lo ≤ hi → hi ≤ l.length → (∀ x, 0 < lo → l[lo - 1]? = some x → cmpK x.k key < 0) → (∀ x, l[hi]? = some x → ¬ cmpK x.k key < 0) → Rd h a (l.flatMap cE) →
    Ok (slices_BinarySearchFunc_table_Entry_table_Entry_string_L1 a l.length (some (k_table_find_1, [], [])) key c ((l.length : Nat) : Int) (lo : Int) (hi : Int) h) fun v h' =>
      ∃ i, BS l key i ∧ v = .tuple #[.int .i64 (i : Int), .bool (hitB l key i)] ∧ Fr [] h h' := by
  have hb : hasBody Tryz.prog k_table_find_1 = true := by kernel_rfl
  intro n
  induction n with
  | zero =>
    intro lo hi h hn h1 h2 h3 h4 hr
    obtain rfl : lo = hi := by omega
    refine Ok.le ?_ slices_BinarySearchFunc_table_Entry_table_Entry_string_L1_le
    rw [dec_f (by omega), cond_f]
    refine Ok.le ?_ slices_BinarySearchFunc_table_Entry_table_Entry_string_j1_le
    by_cases hlt : lo < l.length
    · obtain ⟨x, hx⟩ : ∃ x, l[lo]? = some x := ⟨_, List.getElem?_eq_getElem hlt⟩
      obtain ⟨ad, rfl, e1, e2, e3⟩ := rd3 hr hx
      rw [dec_t (by omega), cond_t]
      simp only [Option.bind_some, inB_t (show (0 : Int) ≤ (lo : Int) by omega) (show (lo : Int) < ((l.length : Nat) : Int) by omega), cond_t, Int.toNat_natCast, e1, e2, e3, show fnQ (fnV (some (k_table_find_1, ([] : List Value), ([] : List Value)))) = some (k_table_find_1, [], []) from rfl, hb, List.nil_append, List.append_nil, List.singleton_append, List.cons_append]
      refine Ok.bind (cb_find x key h) ?_
      rintro _ h5 ⟨rfl, f5⟩
      simp only [asI_i64, Option.bind_some]
      exact Ok.some ⟨lo, ⟨h2, h3, h4⟩, by unfold hitB; rw [hx], f5⟩
    · rw [dec_f (by omega), cond_f]
      exact Ok.some ⟨lo, ⟨h2, h3, h4⟩, by unfold hitB; rw [List.getElem?_eq_none (by omega)], Fr.refl _ _⟩
  | succ n ih =>
    intro lo hi h hn h1 h2 h3 h4 hr
    by_cases heq : lo = hi
    · exact ih lo hi h (by omega) h1 h2 h3 h4 hr
    · refine Ok.le ?_ slices_BinarySearchFunc_table_Entry_table_Entry_string_L1_le
      rw [dec_t (by omega), cond_t]
      refine Ok.le ?_ slices_BinarySearchFunc_table_Entry_table_Entry_string_j2_le
      obtain ⟨m, hm⟩ : ∃ m, m = (lo + hi) / 2 := ⟨_, rfl⟩
      rw [mid_eq (by omega), ← hm]
      obtain ⟨x, hx⟩ : ∃ x, l[m]? = some x := ⟨_, List.getElem?_eq_getElem (by omega)⟩
      obtain ⟨ad, rfl, e1, e2, e3⟩ := rd3 hr hx
      simp only [Option.bind_some, inB_t (show (0 : Int) ≤ (m : Int) by omega) (show (m : Int) < ((l.length : Nat) : Int) by omega), cond_t, Int.toNat_natCast, e1, e2, e3, show fnQ (fnV (some (k_table_find_1, ([] : List Value), ([] : List Value)))) = some (k_table_find_1, [], []) from rfl, hb, List.nil_append, List.append_nil, List.singleton_append, List.cons_append]
      refine Ok.bind (cb_find x key h) ?_
      rintro _ h5 ⟨rfl, f5⟩
      simp only [asI_i64, Option.bind_some]
      have hr5 := hr.fr f5 (by simp)
      by_cases hc : cmpK x.k key < 0
      · rw [dec_t hc, cond_t, show IntKind.wrap .i64 ((m : Int) + 1) = ((m + 1 : Nat) : Int) by rw [wrap64 (by omega) (by omega)]; omega]
        refine Ok.mono (ih (m + 1) hi h5 (by omega) (by omega) h2 (fun y _ hy => ?_) h4 hr5) ?_
        · rw [Nat.add_sub_cancel, hx] at hy
          obtain rfl := Option.some.inj hy
          exact hc
        · rintro v h6 ⟨i, q1, q2, q3⟩
          exact ⟨i, q1, q2, f5.trans q3⟩
      · rw [dec_f hc, cond_f]
        refine Ok.mono (ih lo m h5 (by omega) (by omega) (by omega) h3 (fun y hy => ?_) hr5) ?_
        · rw [hx] at hy
          obtain rfl := Option.some.inj hy
          exact hc
        · rintro v h6 ⟨i, q1, q2, q3⟩
          exact ⟨i, q1, q2, f5.trans q3⟩
theorem find_ok {l : List En} {a : Option Addr} {c : Nat} {key : ByteArray} {h : AH} (hl : l.length < 1000000) (hr : Rd h a (l.flatMap cE)) : Ok (C k_table_find [.slice a l.length c, .string key] h) fun v h' =>
    ∃ i, BS l key i ∧ v = .tuple #[.int .i64 (i : Int), .bool (hitB l key i)] ∧ Fr [] h h' := by
  refine Ok.le ?_ table_find_le
  unfold F_table_find
  refine Ok.bind (Q := fun v h' => ∃ i, BS l key i ∧ v = .tuple #[.int .i64 (i : Int), .bool (hitB l key i)] ∧ Fr [] h h') ?_ ?_
  · refine Ok.le ?_ slices_BinarySearchFunc_table_Entry_table_Entry_string_le
    exact bs_loop hl l.length 0 l.length h (by omega) (by omega) (Nat.le_refl _) (fun x h0 => by omega) (fun x hx => by rw [List.getElem?_eq_none (Nat.le_refl _)] at hx; cases hx) hr
  · rintro _ h' ⟨i, q1, rfl, q3⟩
    simp only [asTu_t, Option.bind_some, hdO_c, asI_i64, asB_b, List.isEmpty_nil, cond_t]
    exact Ok.some ⟨i, q1, rfl, q3⟩
end Tab
end Go.Lg.Tryz
