/- NamesUp: going up from any path ends at the root. -/
import Derived.Test.YtbbkdjinlgmklaaDoorPnames5
import Derived.Test.YtbbkdjinlgmklaaDoorFlaw21
namespace Go.Lg.Tryd
set_option linter.unusedVariables false
set_option linter.unusedSimpArgs false
open Go Go.Proofs
theorem split_root : splitL [47] = .ok [] := rfl
theorem joinRes_ok {l : List (List UInt8)} {p : List UInt8} (h : joinP l = .ok p) : joinRes l = (p, 0) := by unfold joinRes; rw [h]
theorem within_ok {p d : List UInt8} {a b : List (List UInt8)} (h1 : splitL p = .ok a) (h2 : splitL d = .ok b) : withinB p d = (decide (b.length ≤ a.length) && decide (a.take b.length = b)) := by unfold withinB; rw [h1, h2]
theorem up_loop {s : ByteArray} {h0 : AH} {a : Option Addr} {c : Nat} {xs : List ByteArray} (hs : splitL (tl s) = .ok (xs.map tl)) (h16 : xs.length ≤ 16) (sl : SL h0 a xs.length c xs) : ∀ (n : Nat) (at_ : ByteArray) (h : AH), n ≤ xs.length → Fr [] h0 h → splitL (tl at_) = .ok ((xs.take n).map tl) →
    Ok (law21_NamesUp_L1 a xs.length c s at_ n h) fun v _ => v = .bool true := by
  have aw : ∀ h, C k_law21_awake [] h = some (.bool true, h) := fun h => C_closed (show closedL.any (Nat.beq k_law21_awake) = true from rfl) h
  intro n
  induction n with
  | zero =>
    intro at_ h hn hf ha
    have hroot : tl at_ = [47] := by
      have := (split_join ha).1
      have h2 : joinP ((xs.take 0).map tl) = .ok [47] := rfl
      rw [h2] at this
      exact (Except.ok.inj this).symm
    refine Ok.le ?_ law21_NamesUp_L1_le
    rw [dec_f (by omega), cond_f]
    refine Ok.le ?_ law21_NamesUp_j1_le
    refine Ok.bind (nUp_ok at_ h) ?_
    rintro v1 h1 ⟨f1, rfl⟩
    have hu : upRes [47] = ([], [], 211) := rfl
    simp only [asTu_t, hdO_c, asStr_s, asI_i64, Option.bind_some, List.isEmpty_nil, cond_t, hroot, hu, seqB_dec, dec_T]
    refine Ok.bind (nWithin_ok s ⟨#[47]⟩ h1) ?_
    rintro v2 h2 ⟨f2, rfl⟩
    have hw : withinB (tl s) (tl ⟨#[47]⟩) = true := by
      rw [show tl ⟨#[47]⟩ = [47] from rfl, within_ok hs split_root]; simp
    simp only [asB_b, Option.bind_some, hw, cond_t, aw]
    exact Ok.some rfl
  | succ n ih =>
    intro at_ h hn hf ha
    refine Ok.le ?_ law21_NamesUp_L1_le
    rw [dec_t (by omega), cond_t]
    refine Ok.le ?_ law21_NamesUp_j5_le
    refine Ok.bind (nUp_ok at_ h) ?_
    rintro v1 h1 ⟨f1, rfl⟩
    have x1 : xs[n]? = some (xs[n]'(by omega)) := List.getElem?_eq_getElem (by omega)
    generalize xs[n]'(by omega) = x at x1
    have hlen : (xs.take (n + 1)).length = n + 1 := by rw [List.length_take]; omega
    have hx : (xs.take (n + 1))[n]? = some x := by rw [List.getElem?_take_of_lt (by omega)]; exact x1
    have hd : ((xs.take (n + 1)).map tl).dropLast = (xs.take n).map tl := by
      rw [← take_last _ hlen, List.take_take, Nat.min_eq_left (by omega)]
    obtain ⟨q, hq⟩ := joinP_front (split_join ha).1
    rw [hd] at hq
    have hsq := join_split hq
    have hu : upRes (tl at_) = (q, tl x, 0) := by rw [upRes_ok ha (last_at hlen hx), hd, joinRes_ok hq]
    have hw : IntKind.wrap .i64 (((n + 1 : Nat) : Int) - 1) = (n : Nat) := by rw [wrap64 (by omega) (by omega)]; omega
    obtain ⟨ad, rfl, e1⟩ := rd_str (sl.fr (hf.trans f1)).rd x1
    simp only [asTu_t, hdO_c, asStr_s, asI_i64, Option.bind_some, List.isEmpty_nil, cond_t, hu, hw, inB_t (show (0 : Int) ≤ (n : Int) by omega) (show (n : Int) < (xs.length : Nat) by omega), Int.toNat_natCast, e1, seqB_dec, BA_tl]
    simp only [dec_T, Bool.not_true, cond_f, Option.bind_some]
    have la : ((xs.take (n + 1)).map tl).length = n + 1 := by rw [List.length_map, hlen]
    have lb : ((xs.take n).map tl).length = n := by rw [List.length_map, List.length_take]; omega
    have w1 : withinB (tl s) (tl at_) = true := by
      rw [within_ok hs ha, la, List.length_map, decide_eq_true hn, Bool.true_and]
      refine decide_eq_true ?_
      rw [List.map_take]
    have w2 : withinB (tl at_) (tl (BA q)) = true := by
      rw [tl_BA, within_ok ha hsq, la, lb, decide_eq_true (Nat.le_succ n), Bool.true_and]
      refine decide_eq_true ?_
      rw [List.map_take, List.map_take, List.take_take, Nat.min_eq_left (by omega)]
    have w3 : withinB (tl (BA q)) (tl at_) = false := by
      rw [tl_BA, within_ok hsq ha, la, lb, decide_eq_false (by omega), Bool.false_and]
    refine Ok.bind (nWithin_ok s at_ h1) ?_
    rintro v2 h2 ⟨f2, rfl⟩
    simp only [asB_b, Option.bind_some, w1, Bool.not_true, cond_f]
    refine Ok.bind (nWithin_ok at_ (BA q) h2) ?_
    rintro v3 h3 ⟨f3, rfl⟩
    simp only [asB_b, Option.bind_some, w2, Bool.not_true, cond_f]
    refine Ok.bind (nWithin_ok (BA q) at_ h3) ?_
    rintro v4 h4 ⟨f4, rfl⟩
    simp only [asB_b, Option.bind_some, w3]
    refine Ok.le ?_ law21_NamesUp_j4_le
    rw [cond_f]
    refine Ok.le ?_ law21_NamesUp_j3_le
    refine Ok.le ?_ law21_NamesUp_j2_le
    rw [hw]
    exact ih (BA q) h4 (by omega) (hf.trans (f1.trans (f2.trans (f3.trans f4)))) hsq
theorem Up.main (h : AH) (s : ByteArray) (w0 : s.size ≤ maxLen) : Ok (C k_law21_NamesUp [.string s] h) fun v _ => v = .bool true := by
  have aw : ∀ h, C k_law21_awake [] h = some (.bool true, h) := fun h => C_closed (show closedL.any (Nat.beq k_law21_awake) = true from rfl) h
  refine Ok.le ?_ law21_NamesUp_le
  unfold F_law21_NamesUp
  refine Ok.bind (nSplit_ok s h) ?_
  rintro v h1 ⟨f, ⟨e, h1', h2, rfl⟩ | ⟨a, c, xs, h1', h2, h3, rfl⟩⟩
  · simp only [asTu_t, hdO_c, asS_s, asI_i64, Option.bind_some, List.isEmpty_nil, cond_t]
    rw [dec_f (by omega), Bool.not_false, cond_t]
    have w1 : withinB (tl s) (tl ⟨#[47]⟩) = false := by unfold withinB; rw [h1']
    have w2 : withinB (tl ⟨#[47]⟩) (tl s) = false := by unfold withinB; rw [h1']; rfl
    refine Ok.bind (nWithin_ok s ⟨#[47]⟩ h1) ?_
    rintro v2 h2 ⟨f2, rfl⟩
    simp only [asB_b, Option.bind_some, w1, Bool.not_false, cond_t]
    refine Ok.bind (nWithin_ok ⟨#[47]⟩ s h2) ?_
    rintro v3 h3 ⟨f3, rfl⟩
    simp only [asB_b, Option.bind_some, w2, Bool.not_false, cond_t, aw]
    exact Ok.some rfl
  · simp only [asTu_t, hdO_c, asS_s, asI_i64, Option.bind_some, List.isEmpty_nil, cond_t]
    rw [dec_t (p := True) trivial, Bool.not_true, cond_f]
    refine Ok.le ?_ law21_NamesUp_j6_le
    exact up_loop h1' h2 h3 xs.length s h1 (Nat.le_refl _) (.refl _ _) (by rw [List.take_of_length_le (Nat.le_refl _)]; exact h1')
end Go.Lg.Tryd
