/- NamesBack: taking a path apart and putting it together again gives the same path, and the other way round. -/
import Derived.Test.YtbbkdjinlgmklaaDoorPnames5
import Derived.Test.YtbbkdjinlgmklaaDoorFlaw21
namespace Go.Lg.Tryd
set_option linter.unusedVariables false
set_option linter.unusedSimpArgs false
open Go Go.Proofs
def goodB (s : ByteArray) : Prop := s.size ≤ maxLen
theorem slin_cut {h : AH} {good : ByteArray → Prop} {a : Option Addr} {n c : Nat} {l : List ByteArray} (sl : SlIn h encS good a n c l) {k : Nat} (hk : k ≤ n) : ∃ a', slcE 1 a n c none (some (.int .i64 (k : Int))) none h = some (.slice a' k c, h) ∧ SL h a' k c (l.take k) := by
  have hcap : c < opn := by have := sl.cap; unfold opn; omega
  cases a with
  | none =>
    obtain ⟨h1, h2⟩ := sl.nil rfl
    have hln := sl.len
    subst h1 h2
    obtain rfl : k = 0 := by omega
    exact ⟨none, (SL.nil (h := h)).cut (Nat.le_refl _) rfl |>.1, by rw [List.take_zero]; exact .nil⟩
  | some ad =>
    have hr : Rd h (some ⟨ad.block, ad.off, none⟩) (l.flatMap encS) := by
      rcases sl.rd with he | ⟨ad', cc, op, ro, e, h0, h1, h2, h3⟩
      · exact .inl he
      · obtain rfl := Option.some.inj h0
        exact .inr ⟨_, cc, op, ro, e, rfl, h1, h2, h3⟩
    obtain ⟨c1, c2⟩ := (SL.fix hr sl.len sl.le hcap).cut hk (i := (k : Int)) rfl
    refine ⟨_, ?_, c2⟩
    rw [← c1]
    rfl
theorem back_tail {h0 h : AH} {a : Option Addr} {n c : Nat} {l : List ByteArray} (sl : SlIn h0 encS goodB a n c l) (hf : Fr [] h0 h) : Ok (law21_NamesBack_j2 a n c h) fun v _ => v = .bool true := by
  have aw : ∀ h, Ok (law21_NamesBack_j1 h) fun v _ => v = .bool true := fun h => by
    refine Ok.le ?_ law21_NamesBack_j1_le
    rw [C_closed (show closedL.any (Nat.beq k_law21_awake) = true from rfl) h]
    exact Ok.some rfl
  have sl := sl.fr hf
  refine Ok.le ?_ law21_NamesBack_j2_le
  obtain ⟨k, hk, hkn, hk1⟩ : ∃ k : Nat, cond (decide (100 < ((n : Nat) : Int))) 100 ((n : Nat) : Int) = (k : Int) ∧ k ≤ n ∧ (k ≤ 16 → k = n) ∧ k ≤ 100 := by
    by_cases h : 100 < n
    · exact ⟨100, by rw [dec_t (by omega)]; rfl, by omega, by omega, by omega⟩
    · exact ⟨n, by rw [dec_f (by omega)]; rfl, by omega, by omega, by omega⟩
  rw [hk]
  obtain ⟨a', c1, c2⟩ := slin_cut sl hkn
  rw [c1]
  simp only [Option.bind_some, asS_s]
  rw [nJoin_eq c2.rd c2.nn c2.len c2.le (by rw [List.length_take]; omega)]
  cases hj : joinP ((l.take k).map tl) with
  | error e =>
    have he : e ≠ 0 := by
      unfold joinP at hj
      split at hj
      · cases hj; decide
      · split at hj
        · cases hj; decide
        · split at hj
          · cases hj; decide
          · cases hj
    unfold joinV
    simp only [asTu_t, hdO_c, asStr_s, asI_i64, Option.bind_some, List.isEmpty_nil, cond_t]
    rw [dec_f he, cond_f]
    exact aw h
  | ok p =>
    unfold joinV
    simp only [asTu_t, hdO_c, asStr_s, asI_i64, Option.bind_some, List.isEmpty_nil, cond_t, dec_T]
    have hs := join_split hj
    have h16 := (split_join hs).2.2
    rw [List.length_map, List.length_take] at h16
    have hln := sl.len
    have hkn2 : k = n := hk1.1 (by omega)
    have hl : l.take k = l := List.take_of_length_le (by omega)
    refine Ok.bind (nSplit_ok (BA p) h) ?_
    rintro v2 h2 ⟨f2, ⟨e, h1, h3, rfl⟩ | ⟨a3, c3, xs, h1, h3, h4, rfl⟩⟩
    · rw [tl_BA, hs] at h1; cases h1
    · rw [tl_BA, hs] at h1
      have hx : l = xs := by rw [← hl]; exact map_inj.mp (Except.ok.inj h1)
      subst hx
      simp only [asTu_t, hdO_c, asS_s, asI_i64, Option.bind_some, List.isEmpty_nil, cond_t, dec_T, Bool.not_true, cond_f]
      rw [sameT_eq _ _ h4.rd (sl.rd.fr f2 fun _ _ => by simp) rfl sl.len (by omega)]
      simp only [Option.bind_some, asB_b, dec_T, Bool.not_true, cond_f]
      exact aw h2
theorem back_loop {h0 h : AH} {a : Option Addr} {n c : Nat} {l : List ByteArray} (sl : SlIn h0 encS goodB a n c l) (hf : Fr [] h0 h) {a1 : Option Addr} {c1 : Nat} {xs : List ByteArray} (hr : Rd h a1 (xs.flatMap encS)) (hb : xs.length ≤ 16) (ha : (xs.map tl).all nameL = true) :
    ∀ (m i : Nat), xs.length - i = m → i ≤ xs.length → Ok (law21_NamesBack_L1 a1 xs.length c1 a n c xs.length i h) fun v _ => v = .bool true := by
  intro m
  induction m with
  | zero =>
    intro i hn hi
    obtain rfl : i = xs.length := by omega
    refine Ok.le ?_ law21_NamesBack_L1_le
    refine Ok.le ?_ law21_NamesBack_j5_le
    rw [dec_f (by omega), cond_f]
    exact back_tail sl hf
  | succ m ih =>
    intro i hn hi
    have hil : i < xs.length := by omega
    have x1 : xs[i]? = some (xs[i]'hil) := List.getElem?_eq_getElem hil
    have hm : xs[i]'hil ∈ xs := List.getElem_mem hil
    generalize xs[i]'hil = x at x1 hm
    obtain ⟨ad, rfl, e1⟩ := rd_str hr x1
    refine Ok.le ?_ law21_NamesBack_L1_le
    refine Ok.le ?_ law21_NamesBack_j5_le
    rw [dec_t (by omega), cond_t]
    refine Ok.le ?_ law21_NamesBack_j4_le
    have hnm : nameL (tl x) = true := List.all_eq_true.mp ha _ (List.mem_map_of_mem hm)
    simp only [Option.bind_some, inB_t (show (0 : Int) ≤ (i : Int) by omega) (show (i : Int) < (xs.length : Nat) by omega), cond_t, Int.toNat_natCast, e1, name_eq, asB_b, hnm, Bool.not_true, cond_f]
    refine Ok.le ?_ law21_NamesBack_j3_le
    rw [wrap64 (by omega) (by omega)]
    exact ih (i + 1) (by omega) (by omega)
theorem Back.main (h : AH) (s : ByteArray) (w0 : s.size ≤ maxLen) {a : Option Addr} {n c : Nat} {l : List ByteArray} (sl : SlIn h encS goodB a n c l) :
    Ok (C k_law21_NamesBack [.string s, .slice a n c] h) fun v _ => v = .bool true := by
  refine Ok.le ?_ law21_NamesBack_le
  unfold F_law21_NamesBack
  refine Ok.bind (nSplit_ok s h) ?_
  rintro v h1 ⟨f, ⟨e, h1', h2, rfl⟩ | ⟨a1, c1, xs, h1', h2, h3, rfl⟩⟩
  · simp only [asTu_t, hdO_c, asS_s, asI_i64, Option.bind_some, List.isEmpty_nil, cond_t]
    rw [dec_f (by omega), cond_f]
    exact back_tail sl f
  · simp only [asTu_t, hdO_c, asS_s, asI_i64, Option.bind_some, List.isEmpty_nil, cond_t, dec_T]
    obtain ⟨j1, j2, j3⟩ := split_join h1'
    rw [nJoin_eq h3.rd h3.nn h3.len h3.le (by omega), j1]
    unfold joinV
    simp only [asTu_t, hdO_c, asStr_s, asI_i64, Option.bind_some, List.isEmpty_nil, cond_t, dec_T, Bool.not_true, cond_f, BA_tl, seqB_dec]
    refine Ok.le ?_ law21_NamesBack_j6_le
    exact back_loop sl f h3.rd h2 j2 _ 0 rfl (Nat.zero_le _)
end Go.Lg.Tryd
