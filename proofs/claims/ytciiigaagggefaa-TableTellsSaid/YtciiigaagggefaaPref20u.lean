/- The document's table (law 20): what its functions come to, over a list of keys and values in order. -/
import Derived.Test.YtciiigaagggefaaFref20
import Derived.Test.YtciiigaagggefaaPtabP
set_option linter.unusedVariables false
set_option linter.unusedSimpArgs false
namespace Go.Lg.Try
set_option linter.unusedVariables false
set_option linter.unusedSimpArgs false
open Go Go.Proofs
namespace Tab
abbrev cP (p : Pr) : List Value := [.string p.1, .string p.2]
theorem cP_len (p : Pr) : (cP p).length = 2 := rfl
abbrev aPl (a : Option Addr) (n c : Nat) (l : List Pr) : Asr := aOw 2 a n c (l.flatMap cP)
section
variable {h : AH} {a : Option Addr} {n c : Nat} {l : List Pr} {F : List Asr}
theorem pl_len (w : H h (aPl a n c l :: F)) : n = l.length := by
  have := w.ow.len
  rw [flat_len cP_len] at this
  omega
theorem rd2 {i : Nat} {p : Pr} (hr : Rd h a (l.flatMap cP)) (hx : l[i]? = some p) : ∃ ad, a = some ad ∧ h.ldStr ad.block (ad.off + i * 2) = some p.1 ∧ h.ldStr ad.block (ad.off + i * 2 + 1) = some p.2 := by
  have hg : ∀ r, r < 2 → (l.flatMap cP)[i * 2 + r]? = (cP p)[r]? := fun r h3 => flat_get_some cP_len h3 hx
  rcases hr with h0 | ⟨ad, c, op, ro, e, rfl, h1, h2, h3⟩
  · exfalso
    have := hg 0 (by omega)
    rw [h0] at this
    cases this
  · refine ⟨ad, rfl, AH.ldStr_of h1 ?_, AH.ldStr_of h1 ?_⟩
    · exact h3 (i * 2) _ (hg 0 (by omega))
    · rw [Nat.add_assoc]; exact h3 _ _ (hg 1 (by omega))
theorem no_hit {key : ByteArray} (h0 : ∀ (j : Nat) (p : Pr), l[j]? = some p → p.1 ≠ key) : hit l key = false := by
  cases hh : hit l key with
  | false => rfl
  | true => obtain ⟨v, hv⟩ := hit_iff.mp hh; exact absurd rfl (h0 _ _ hv)
theorem rfind_loop (hs : Srt l) (hl : l.length < 1000000) (hn : n = l.length) (hr : Rd h a (l.flatMap cP)) (key : ByteArray) : ∀ (k i : Nat), l.length - i = k → i ≤ l.length → (∀ (j : Nat) (p : Pr), j < i → l[j]? = some p → p.1 ≠ key) →
    Ok (ref20_find_L1 n a key c (i : Nat) h) fun v h' => v = .int .i64 (if hit l key then (pos l key : Nat) else -1) ∧ h' = h := by
  intro k
  induction k with
  | zero =>
    intro i hk hi h0
    refine Ok.le ?_ ref20_find_L1_le
    rw [dec_f (by omega), cond_f]
    refine Ok.le ?_ ref20_find_j1_le
    rw [no_hit fun j p hp => h0 j p (by have := (List.getElem?_eq_some_iff.mp hp).1; omega) hp]
    exact Ok.some ⟨rfl, rfl⟩
  | succ k ih =>
    intro i hk hi h0
    refine Ok.le ?_ ref20_find_L1_le
    rw [dec_t (by omega), cond_t]
    refine Ok.le ?_ ref20_find_j3_le
    obtain ⟨p, hp⟩ : ∃ p, l[i]? = some p := ⟨_, List.getElem?_eq_getElem (by omega)⟩
    obtain ⟨ad, rfl, e1, e2⟩ := rd2 hr hp
    simp only [Option.bind_some, inB_t (show (0 : Int) ≤ ((i : Nat) : Int) by omega) (show ((i : Nat) : Int) < ((n : Nat) : Int) by omega), cond_t, Int.toNat_natCast, Nat.add_zero, e1]
    by_cases he : p.1 = key
    · rw [seqB_iff.mpr he, cond_t]
      obtain ⟨q1, q2⟩ := hit_mem hs hp he
      rw [q2, if_pos rfl, ← q1]
      exact Ok.some ⟨rfl, rfl⟩
    · rw [show seqB p.1 key = false by cases hq : seqB p.1 key with | false => rfl | true => exact absurd (seqB_iff.mp hq) he, cond_f]
      refine Ok.le ?_ ref20_find_j2_le
      rw [show IntKind.wrap .i64 (((i : Nat) : Int) + 1) = ((i + 1 : Nat) : Int) by rw [wrap64 (by omega) (by omega)]; omega]
      refine ih (i + 1) (by omega) (by omega) fun j q hj hq => ?_
      by_cases e : j = i
      · subst e; rw [hp] at hq; rw [← Option.some.inj hq]; exact he
      · exact h0 j q (by omega) hq
theorem rfind_ok (hs : Srt l) (hl : l.length < 1000000) (hn : n = l.length) (hr : Rd h a (l.flatMap cP)) (key : ByteArray) : Ok (C k_ref20_find [.slice a n c, .string key] h) fun v h' => v = .int .i64 (if hit l key then (pos l key : Nat) else -1) ∧ h' = h := by
  refine Ok.le ?_ ref20_find_le
  exact rfind_loop hs hl hn hr key l.length 0 (by omega) (by omega) fun j p hj => by omega
theorem rget_ok (hs : Srt l) (hl : l.length < 1000000) (hn : n = l.length) (hr : Rd h a (l.flatMap cP)) (key : ByteArray) : Ok (C k_ref20_Get [.slice a n c, .string key] h) fun v h' => v = .tuple #[.string (getP l key), .bool (hit l key)] ∧ h' = h := by
  refine Ok.le ?_ ref20_Get_le
  refine Ok.bind (rfind_ok hs hl hn hr key) ?_
  rintro _ h' ⟨rfl, rfl⟩
  cases hh : hit l key with
  | false =>
    simp only [asI_i64, Option.bind_some, Bool.false_eq_true, if_false, dec_t (show (-1 : Int) < 0 by decide), cond_t]
    refine Ok.some ⟨?_, rfl⟩
    have : getP l key = ByteArray.mk #[] := by
      unfold getP
      unfold hit at hh
      cases hp : l[pos l key]? with
      | none => rfl
      | some p => rw [hp] at hh; simp only at hh ⊢; rw [hh]; rfl
    rw [this]
  | true =>
    obtain ⟨v, hv⟩ := hit_iff.mp hh
    have hlt := (List.getElem?_eq_some_iff.mp hv).1
    obtain ⟨ad, rfl, e1, e2⟩ := rd2 hr hv
    simp only [asI_i64, Option.bind_some, if_pos, dec_f (show ¬ ((pos l key : Nat) : Int) < 0 by omega), cond_f]
    refine Ok.le ?_ ref20_Get_j1_le
    simp only [Option.bind_some, inB_t (show (0 : Int) ≤ ((pos l key : Nat) : Int) by omega) (show ((pos l key : Nat) : Int) < ((n : Nat) : Int) by omega), cond_t, Int.toNat_natCast, e2]
    refine Ok.some ⟨?_, rfl⟩
    have : getP l key = v := by
      unfold getP
      rw [hv]
      simp only
      rw [if_pos (seqB_iff.mpr rfl)]
    rw [this]
/-! Next -/
def nxI (l : List Pr) (key : ByteArray) : Nat := if hit l key then pos l key + 1 else pos l key
theorem nx_lo (hs : Srt l) {key : ByteArray} {j : Nat} {p : Pr} (hj : j < nxI l key) (hp : l[j]? = some p) : (sltB p.1 key || seqB p.1 key) = true := by
  unfold nxI at hj
  rw [Bool.or_eq_true, seqB_iff]
  split at hj
  · rename_i hh
    by_cases e : j = pos l key
    · obtain ⟨v, hv⟩ := hit_iff.mp hh
      subst e
      rw [hv] at hp
      rw [← Option.some.inj hp]
      exact .inr rfl
    · exact .inl ((pos_ok hs).lo j p (by omega) hp)
  · exact .inl ((pos_ok hs).lo j p hj hp)
theorem nx_at (hs : Srt l) {key : ByteArray} {p : Pr} (hp : l[nxI l key]? = some p) : (sltB p.1 key || seqB p.1 key) = false := by
  have hnl : ¬ Lt p.1 key := (pos_ok hs).hi _ p (by unfold nxI; split <;> omega) hp
  have hne : ¬ p.1 = key := fun e => by
    obtain ⟨q1, q2⟩ := hit_mem hs hp e
    unfold nxI at q1
    rw [q2, if_pos rfl] at q1
    omega
  cases hq : (sltB p.1 key || seqB p.1 key) with
  | false => rfl
  | true =>
    rw [Bool.or_eq_true, seqB_iff] at hq
    rcases hq with h | h
    · exact absurd h hnl
    · exact absurd h hne
def rnxV : Option Pr → Value
  | some p => .tuple #[.agg #[.string p.1, .string p.2], .bool true]
  | none => .tuple #[.agg #[.string (ByteArray.mk #[]), .string (ByteArray.mk #[])], .bool false]
theorem rnext_loop (hs : Srt l) (hl : l.length < 1000000) (hn : n = l.length) (hr : Rd h a (l.flatMap cP)) (key : ByteArray) {q : Nat} (w : H h (Cs q [.string (ByteArray.mk #[]), .string (ByteArray.mk #[])] 2 :: F)) : ∀ (k i : Nat), l.length - i = k → i ≤ l.length → i ≤ nxI l key →
    Ok (ref20_Next_L1 n a key c (some ⟨q, 0, none⟩) (i : Nat) h) fun v h' => v = rnxV (nxtP l key) ∧ H h' F := by
  have hnx : nxtP l key = l[nxI l key]? := rfl
  intro k
  induction k with
  | zero =>
    intro i hk hi h0
    refine Ok.le ?_ ref20_Next_L1_le
    rw [dec_f (by omega), cond_f]
    refine Ok.le ?_ ref20_Next_j1_le
    obtain ⟨h2, k1, w2, _⟩ := w.st (o := 0) [.string (ByteArray.mk #[]), .string (ByteArray.mk #[])] (by simp)
    have w2' : H h2 (Cs q [.string (ByteArray.mk #[]), .string (ByteArray.mk #[])] 2 :: F) := w2
    simp only [Option.bind_some, k1, AH.ldStr_of w2'.get (o := 0) rfl, AH.ldStr_of w2'.get (o := 0 + 1) rfl]
    exact Ok.some ⟨by rw [hnx, List.getElem?_eq_none (by omega)]; rfl, w2'.drop⟩
  | succ k ih =>
    intro i hk hi h0
    refine Ok.le ?_ ref20_Next_L1_le
    rw [dec_t (by omega), cond_t]
    refine Ok.le ?_ ref20_Next_j3_le
    obtain ⟨p, hp⟩ : ∃ p, l[i]? = some p := ⟨_, List.getElem?_eq_getElem (by omega)⟩
    obtain ⟨ad, rfl, e1, e2⟩ := rd2 hr hp
    simp only [Option.bind_some, inB_t (show (0 : Int) ≤ ((i : Nat) : Int) by omega) (show ((i : Nat) : Int) < ((n : Nat) : Int) by omega), cond_t, Int.toNat_natCast, Nat.add_zero, e1, e2]
    by_cases hi2 : i < nxI l key
    · rw [nx_lo hs hi2 hp, Bool.not_true, cond_f]
      refine Ok.le ?_ ref20_Next_j2_le
      rw [show IntKind.wrap .i64 (((i : Nat) : Int) + 1) = ((i + 1 : Nat) : Int) by rw [wrap64 (by omega) (by omega)]; omega]
      exact ih (i + 1) (by omega) (by omega) (by omega)
    · obtain rfl : i = nxI l key := by omega
      rw [nx_at hs hp, Bool.not_false, cond_t]
      obtain ⟨h2, k1, w2, _⟩ := w.st (o := 0) (cP p) (by simp)
      have w2' : H h2 (Cs q (cP p) 2 :: F) := w2
      simp only [Option.bind_some, k1, AH.ldStr_of w2'.get (o := 0) rfl, AH.ldStr_of w2'.get (o := 0 + 1) rfl]
      exact Ok.some ⟨by rw [hnx, hp]; rfl, w2'.drop⟩
theorem rnext_ok (hs : Srt l) (hl : l.length < 1000000) (w : H h (aPl a n c l :: F)) (key : ByteArray) : Ok (C k_ref20_Next [.slice a n c, .string key] h) fun v h' => v = rnxV (nxtP l key) ∧ H h' (aPl a n c l :: F) := by
  have hn := pl_len w
  refine Ok.le ?_ ref20_Next_le
  have w1 : H _ (Cs h.n [.string (ByteArray.mk #[]), .string (ByteArray.mk #[])] 2 :: aPl a n c l :: F) := w.push (.cells [.string (ByteArray.mk #[]), .string (ByteArray.mk #[])] false false 2)
  exact rnext_loop hs hl hn (w1.drop.ow.rd) key w1 l.length 0 (by omega) (by omega) (by omega)
/-! Remove -/
theorem filt_rem (hs : Srt l) (key : ByteArray) : l.filter (fun p => !seqB p.1 key) = remP l key := by
  unfold remP
  split
  · rename_i hh
    obtain ⟨v, hv⟩ := hit_iff.mp hh
    have hlt := (List.getElem?_eq_some_iff.mp hv).1
    have hsp : l = l.take (pos l key) ++ (key, v) :: l.drop (pos l key + 1) := by
      conv => lhs; rw [← List.take_append_drop (pos l key) l, List.drop_eq_getElem_cons hlt, (List.getElem?_eq_some_iff.mp hv).2]
    have hne : ∀ j p, j ≠ pos l key → l[j]? = some p → (!seqB p.1 key) = true := fun j p hj hp => by
      cases hq : seqB p.1 key with
      | false => rfl
      | true => exact absurd (hit_mem hs hp (seqB_iff.mp hq)).1 hj
    rw [List.eraseIdx_eq_take_drop_succ]
    conv => lhs; rw [hsp]
    rw [List.filter_append, List.filter_cons, if_neg (by simp [seqB_iff.mpr rfl])]
    congr 1
    · refine List.filter_eq_self.mpr fun p hp => ?_
      obtain ⟨j, hj, rfl⟩ := List.mem_iff_getElem.mp hp
      rw [List.length_take] at hj
      rw [List.getElem_take]
      exact hne j _ (by omega) (List.getElem?_eq_getElem (by omega))
    · refine List.filter_eq_self.mpr fun p hp => ?_
      obtain ⟨j, hj, rfl⟩ := List.mem_iff_getElem.mp hp
      rw [List.length_drop] at hj
      rw [List.getElem_drop]
      exact hne (pos l key + 1 + j) _ (by omega) (List.getElem?_eq_getElem (by omega))
  · rename_i hh
    refine List.filter_eq_self.mpr fun p hp => ?_
    obtain ⟨j, hj, rfl⟩ := List.mem_iff_getElem.mp hp
    cases hq : seqB (l[j]).1 key with
    | false => rfl
    | true => exact absurd (hit_mem hs (List.getElem?_eq_getElem hj) (seqB_iff.mp hq)).2 hh
theorem rrem_loop (hs : Srt l) (hl : l.length < 1000) (key : ByteArray) : ∀ (k i : Nat) (a' : Option Addr) (n' c' : Nat) (h : AH), l.length - i = k → i ≤ l.length → H h (aPl a' n' c' ((l.take i).filter (fun p => !seqB p.1 key)) :: aPl a n c l :: F) →
    Ok (ref20_Remove_L1 n a key c a' n' c' (i : Nat) h) fun v h' => ∃ a2 n2 c2, v = .tuple #[.slice a2 n2 c2, .bool (hit l key)] ∧ H h' (aPl a2 n2 c2 (remP l key) :: F) := by
  intro k
  induction k with
  | zero =>
    intro i a' n' c' h hk hi w
    have hn := pl_len w.u1
    have hn' := pl_len w
    obtain rfl : i = l.length := by omega
    refine Ok.le ?_ ref20_Remove_L1_le
    rw [dec_f (by omega), cond_f]
    refine Ok.le ?_ ref20_Remove_j1_le
    rw [List.take_length, filt_rem hs] at w hn'
    refine Ok.some ⟨_, _, _, ?_, w.rm 1 rfl⟩
    have : decide (((n' : Nat) : Int) < ((n : Nat) : Int)) = hit l key := by
      cases hh : hit l key with
      | true =>
        obtain ⟨v, hv⟩ := hit_iff.mp hh
        have hlt := (List.getElem?_eq_some_iff.mp hv).1
        unfold remP at hn'
        rw [if_pos hh, List.length_eraseIdx, if_pos hlt] at hn'
        exact dec_t (by omega)
      | false =>
        unfold remP at hn'
        rw [if_neg (by rw [hh]; decide)] at hn'
        exact dec_f (by omega)
    rw [this]
  | succ k ih =>
    intro i a' n' c' h hk hi w
    have hn := pl_len w.u1
    have hn' := pl_len w
    refine Ok.le ?_ ref20_Remove_L1_le
    rw [dec_t (by omega), cond_t]
    refine Ok.le ?_ ref20_Remove_j3_le
    obtain ⟨p, hp⟩ : ∃ p, l[i]? = some p := ⟨_, List.getElem?_eq_getElem (by omega)⟩
    obtain ⟨ad, ea, e1, e2⟩ := rd2 (w.u1.ow.rd) hp
    have hin := inB_t (show (0 : Int) ≤ ((i : Nat) : Int) by omega) (show ((i : Nat) : Int) < ((n : Nat) : Int) by omega)
    have htk : (l.take (i + 1)).filter (fun p => !seqB p.1 key) = (l.take i).filter (fun p => !seqB p.1 key) ++ (if seqB p.1 key then [] else [p]) := by
      rw [List.take_add_one, hp, List.filter_append]
      simp only [Option.toList_some, List.filter_cons, List.filter_nil]
      cases seqB p.1 key <;> rfl
    have hw : IntKind.wrap .i64 (((i : Nat) : Int) + 1) = ((i + 1 : Nat) : Int) := by rw [wrap64 (by omega) (by omega)]; omega
    simp only [ea, Option.bind_some, hin, cond_t, Int.toNat_natCast, Nat.add_zero, e1]
    cases hq : seqB p.1 key with
    | true =>
      rw [Bool.not_true, cond_f]
      refine Ok.le ?_ ref20_Remove_j2_le
      rw [hw, ← ea]
      rw [hq, if_pos rfl, List.append_nil] at htk
      rw [← htk] at w
      exact ih (i + 1) a' n' c' h (by omega) (by omega) w
    | false =>
      rw [Bool.not_false, cond_t]
      simp only [e1, e2, Option.bind_some]
      have hfl : ((l.take i).filter (fun p => !seqB p.1 key)).length ≤ (l.take i).length := List.length_filter_le _ _
      rw [List.length_take] at hfl
      obtain ⟨a3, h3, k3, w3, _⟩ := w.app (by_ := 32) (c' := 1) (xs := cP p) rfl (by omega) (by omega) (by omega)
      rw [show appE 2 32 (.slice a' n' c') (.slice (some ⟨h.n, 0, none⟩) 1 1) (h.push (.cells [.string p.1, .string p.2] false false 2)) = some (.slice a3 (n' + 1) opn, h3) from k3]
      simp only [asS_s, Option.bind_some]
      refine Ok.le ?_ ref20_Remove_j2_le
      rw [hw, ← ea]
      rw [hq, if_neg (by decide)] at htk
      have w4 : H h3 (aPl a3 (n' + 1) opn ((l.take (i + 1)).filter (fun p => !seqB p.1 key)) :: aPl a n c l :: F) := by
        rw [htk]
        have e : ((l.take i).filter (fun p => !seqB p.1 key) ++ [p]).flatMap cP = ((l.take i).filter (fun p => !seqB p.1 key)).flatMap cP ++ cP p := by simp
        show H h3 (aOw 2 a3 (n' + 1) opn _ :: _)
        rw [e]
        exact w3
      exact ih (i + 1) a3 (n' + 1) opn h3 (by omega) (by omega) w4
theorem rrem_ok (hs : Srt l) (hl : l.length < 1000) (key : ByteArray) (w : H h (aPl a n c l :: F)) : Ok (C k_ref20_Remove [.slice a n c, .string key] h) fun v h' => ∃ a2 n2 c2, v = .tuple #[.slice a2 n2 c2, .bool (hit l key)] ∧ H h' (aPl a2 n2 c2 (remP l key) :: F) := by
  refine Ok.le ?_ ref20_Remove_le
  exact rrem_loop hs hl key l.length 0 none 0 0 h (by omega) (by omega) (w.owNil 2)
end
end Tab
end Go.Lg.Try

namespace Go.Lg.Try
set_option linter.unusedVariables false
set_option linter.unusedSimpArgs false
open Go Go.Proofs
namespace Tab
section
variable {h : AH} {a : Option Addr} {n c b : Nat} {l M : List Pr} {F : List Asr} {key v : ByteArray}
/-- a copy by append -/
theorem cpy_ok (hl : l.length ≤ 1000) (w : H h (aPl a n c l :: F)) : ∃ a' c' h', appE 2 32 (.slice none 0 0) (.slice a n c) h = some (.slice a' n c', h') ∧ H h' (aPl a' n c' l :: aPl a n c l :: F) := by
  have hn := pl_len w
  have ho := w.ow
  by_cases h0 : l = []
  · subst h0
    obtain rfl : n = 0 := hn
    refine ⟨none, 0, h, ?_, w.owNil 2⟩
    have hnw : newCells h 2 (.slice a 0 c) = some (0, []) := by
      generalize hcs : ([] : List Pr).flatMap cP = cs at ho
      cases ho with
      | nil => rfl
      | mk hb _ _ => simp [newCells, ldRow, hb, show Nat.ble 0 cs.length = true from Nat.ble_eq_true_of_le (Nat.zero_le _)]
    simp only [appE, hnw, Option.bind_some]
    rfl
  · have hp : 0 < n := by rw [hn]; exact List.length_pos_iff.mpr h0
    have hnw : newCells h 2 (.slice a n c) = some (n, l.flatMap cP) := by
      generalize hcs : l.flatMap cP = cs at ho
      cases ho with
      | nil => omega
      | @mk b _ _ hb hl2 hlt =>
        simp only [newCells, ldRow, hb, Nat.zero_add, List.drop_zero, Nat.ble_eq_true_of_le (show n * 2 ≤ cs.length by omega), cond_t, Option.bind_some]
        rw [List.take_of_length_le (by omega)]
    have hcl : (l.flatMap cP).length = n * 2 := by rw [flat_len cP_len, hn]
    refine ⟨some ⟨h.n, 0, none⟩, opn, h.push (.cells (l.flatMap cP) true false 2), ?_, ?_⟩
    · have hb0 : Nat.beq n 0 = false := by
        cases hq : Nat.beq n 0 with
        | false => rfl
        | true => have := Nat.eq_of_beq_eq_true hq; omega
      simp only [appE, hnw, Option.bind_some, Nat.zero_add, roomOk_t (show n * 32 ≤ 1099511627776 by omega) (show n ≤ 1099511627776 by omega), Bool.true_and, hcl, Nat.beq_refl, cond_t, hb0, cond_f]
    · exact pt_up (w.push (.cells (l.flatMap cP) true false 2)) fun h' g hlt => .mk g hcl hlt
theorem pl_pt (w : H h (aPl a n c l :: F)) (h0 : 0 < n) : ∃ b, a = some ⟨b, 0, none⟩ ∧ c = opn ∧ H h (Pt b (.cells (l.flatMap cP) true false 2) :: F) := by
  have ho := w.ow
  generalize hcs : l.flatMap cP = cs at ho w
  cases ho with
  | nil => omega
  | @mk b _ _ hb hl2 hlt => exact ⟨b, rfl, rfl, up_pt w hb⟩
theorem pt_pl (w : H h (Pt b (.cells (l.flatMap cP) true false 2) :: F)) : H h (aPl (some ⟨b, 0, none⟩) l.length opn l :: F) :=
  pt_up w fun h' g hlt => .mk g (flat_len cP_len l) hlt
theorem ptR (w : H h (Pt b (.cells (M.flatMap cP) true false 2) :: F)) {i : Nat} {p : Pr} (hp : M[i]? = some p) : h.ldStr b (0 + i * 2) = some p.1 ∧ h.ldStr b (0 + i * 2 + 1) = some p.2 := by
  have hr : Rd h (some ⟨b, 0, none⟩) (M.flatMap cP) := .inr ⟨_, _, _, _, _, rfl, w.get, w.lt, fun k v hv => by rw [Nat.zero_add]; exact hv⟩
  obtain ⟨ad, e, e1, e2⟩ := rd2 hr hp
  obtain rfl := Option.some.inj e
  exact ⟨e1, e2⟩
theorem ptS (w : H h (Pt b (.cells (M.flatMap cP) true false 2) :: F)) {i : Nat} {p : Pr} (hp : M[i]? = some p) (q : Pr) : ∃ h', h.st b (0 + i * 2) (cP q) = some h' ∧ H h' (Pt b (.cells ((M.set i q).flatMap cP) true false 2) :: F) := by
  have hi := (List.getElem?_eq_some_iff.mp hp).1
  obtain ⟨h', k1, w1, _⟩ := w.st (o := 0 + i * 2) (cP q) (by rw [flat_len cP_len, cP_len]; omega)
  refine ⟨h', k1, ?_⟩
  have := flat_set (enc := cP) cP_len (i := i) (j := 0) (l := M) (a := p) (a' := q) (vs := cP q) hp (by simp) (by rfl)
  rw [Nat.add_zero] at this
  rw [Nat.zero_add, this] at w1
  exact w1
theorem ptS1 (w : H h (Pt b (.cells (M.flatMap cP) true false 2) :: F)) {i : Nat} {p : Pr} (hp : M[i]? = some p) (v : ByteArray) : ∃ h', h.st b (0 + i * 2 + 1) [.string v] = some h' ∧ H h' (Pt b (.cells ((M.set i (p.1, v)).flatMap cP) true false 2) :: F) := by
  have hi := (List.getElem?_eq_some_iff.mp hp).1
  obtain ⟨h', k1, w1, _⟩ := w.st (o := 0 + i * 2 + 1) [.string v] (by rw [flat_len cP_len]; simp; omega)
  refine ⟨h', k1, ?_⟩
  have := flat_set (enc := cP) cP_len (i := i) (j := 1) (l := M) (a := p) (a' := (p.1, v)) (vs := [.string v]) hp (by simp) (by rfl)
  rw [Nat.zero_add, this] at w1
  exact w1
theorem ins_get {j : Nat} (hj : j ≤ l.length) (p : Pr) : (l.take j ++ p :: l.drop j)[j]? = some p := by
  rw [List.getElem?_append_right (by rw [List.length_take]; omega), List.length_take, Nat.min_eq_left hj, Nat.sub_self]; rfl
theorem ins_get1 {j : Nat} (hj : j ≤ l.length) (h0 : 0 < j) (p : Pr) : (l.take j ++ p :: l.drop j)[j - 1]? = l[j - 1]? := by
  rw [List.getElem?_append_left (by rw [List.length_take]; omega), List.getElem?_take, if_pos (by omega)]
theorem ins_swap {j : Nat} (hj : j ≤ l.length) (h0 : 0 < j) (p : Pr) {q : Pr} (hq : l[j - 1]? = some q) : ((l.take j ++ p :: l.drop j).set j q).set (j - 1) p = l.take (j - 1) ++ p :: l.drop (j - 1) := by
  obtain ⟨k, rfl⟩ : ∃ k, j = k + 1 := ⟨j - 1, by omega⟩
  rw [Nat.add_sub_cancel] at hq ⊢
  have hk := (List.getElem?_eq_some_iff.mp hq).1
  have h1 : (l.take (k + 1)).length = k + 1 := by rw [List.length_take]; omega
  have h2 : (l.take k).length = k := by rw [List.length_take]; omega
  rw [List.set_append_right _ _ (by omega), h1, Nat.sub_self, List.set_cons_zero, List.take_add_one, hq, Option.toList_some, List.append_assoc, List.set_append_right _ _ (by omega), h2, Nat.sub_self]
  rw [List.drop_eq_getElem_cons hk, (List.getElem?_eq_some_iff.mp hq).2]
  rfl
theorem bub_loop (hs : Srt l) (hl : l.length < 1000) (hh : hit l key = false) : ∀ (j : Nat) (h : AH), j ≤ l.length → (∀ p, l[j]? = some p → Lt key p.1) → H h (Pt b (.cells ((l.take j ++ (key, v) :: l.drop j).flatMap cP) true false 2) :: F) →
    Ok (ref20_Put_L1 (some ⟨b, 0, none⟩) (l.length + 1) opn (j : Nat) h) fun y h' => y = .tuple #[.slice (some ⟨b, 0, none⟩) (l.length + 1) opn, .int .i64 0] ∧ H h' (Pt b (.cells ((l.take (pos l key) ++ (key, v) :: l.drop (pos l key)).flatMap cP) true false 2) :: F) := by
  have fin : ∀ (j : Nat) (h : AH), j ≤ l.length → (∀ p, l[j]? = some p → Lt key p.1) → (∀ p, 0 < j → l[j - 1]? = some p → Lt p.1 key) → H h (Pt b (.cells ((l.take j ++ (key, v) :: l.drop j).flatMap cP) true false 2) :: F) →
      Ok (ref20_Put_j1 (some ⟨b, 0, none⟩) (l.length + 1) opn h) fun y h' => y = .tuple #[.slice (some ⟨b, 0, none⟩) (l.length + 1) opn, .int .i64 0] ∧ H h' (Pt b (.cells ((l.take (pos l key) ++ (key, v) :: l.drop (pos l key)).flatMap cP) true false 2) :: F) := fun j h hj h1 h2 w => by
    refine Ok.le ?_ ref20_Put_j1_le
    have : j = pos l key := (pos_of hs hj h2 fun p hp hlt => lt_irr _ (lt_tr hlt (h1 p hp))).uniq (pos_ok hs)
    subst this
    exact Ok.some ⟨rfl, w⟩
  intro j
  induction j with
  | zero =>
    intro h hj h1 w
    refine Ok.le ?_ ref20_Put_L1_le
    rw [dec_f (by omega), cond_f]
    exact fin 0 h hj h1 (fun p h0 => by omega) w
  | succ j ih =>
    intro h hj h1 w
    refine Ok.le ?_ ref20_Put_L1_le
    rw [dec_t (by omega), cond_t]
    have hw : IntKind.wrap .i64 (((j + 1 : Nat) : Int) - 1) = ((j : Nat) : Int) := by rw [wrap64 (by omega) (by omega)]; omega
    obtain ⟨q, hq⟩ : ∃ q, l[j]? = some q := ⟨_, List.getElem?_eq_getElem (by omega)⟩
    have g1 := ins_get hj (key, v)
    have g2 := ins_get1 hj (by omega) (key, v)
    rw [Nat.add_sub_cancel, hq] at g2
    obtain ⟨r1, r2⟩ := ptR w g1
    obtain ⟨s1, s2⟩ := ptR w g2
    have i1 := inB_t (show (0 : Int) ≤ ((j + 1 : Nat) : Int) by omega) (show ((j + 1 : Nat) : Int) < ((l.length + 1 : Nat) : Int) by omega)
    have i2 := inB_t (show (0 : Int) ≤ ((j : Nat) : Int) by omega) (show ((j : Nat) : Int) < ((l.length + 1 : Nat) : Int) by omega)
    simp only [Option.bind_some, hw, i1, i2, cond_t, Int.toNat_natCast, Nat.add_zero, r1, s1]
    cases hc : sltB key q.1 with
    | false =>
      rw [cond_f]
      refine fin (j + 1) h hj h1 (fun p h0 hp => ?_) w
      rw [Nat.add_sub_cancel, hq] at hp
      obtain rfl := Option.some.inj hp
      refine lt_tri (fun h => by rw [show sltB key q.1 = true from h] at hc; cases hc) fun e => ?_
      have := (hit_mem hs hq e.symm).2
      rw [hh] at this; cases this
    | true =>
      rw [cond_t]
      refine Ok.le ?_ ref20_Put_j3_le
      obtain ⟨h2, k1, w2⟩ := ptS w g1 q
      have g3 : ((l.take (j + 1) ++ (key, v) :: l.drop (j + 1)).set (j + 1) q)[j]? = some q := by rw [List.getElem?_set_ne (by omega)]; exact g2
      obtain ⟨h3, k3, w3⟩ := ptS w2 g3 (key, v)
      simp only [Option.bind_some, hw, i1, i2, cond_t, Int.toNat_natCast, Nat.add_zero, r1, r2, s1, s2]
      rw [show h.st b (0 + (j + 1) * 2) [.string q.1, .string q.2] = some h2 from k1]
      simp only [Option.bind_some]
      rw [show h2.st b (0 + j * 2) [.string key, .string v] = some h3 from k3]
      simp only [Option.bind_some]
      refine Ok.le ?_ ref20_Put_j2_le
      rw [hw]
      have hsw := ins_swap hj (by omega) (key, v) (q := q) (by rw [Nat.add_sub_cancel]; exact hq)
      rw [Nat.add_sub_cancel] at hsw
      rw [hsw] at w3
      exact ih h3 (by omega) (fun p hp => by rw [hq] at hp; rw [← Option.some.inj hp]; exact hc) w3
theorem rput_ok (hs : Srt l) (hl : l.length < 1000) (m : Nat) (key v : ByteArray) (w : H h (aPl a n c l :: F)) : Ok (C k_ref20_Put [.slice a n c, .int .i64 (m : Int), .string key, .string v] h) fun y h' =>
    ∃ a2 n2 c2, y = .tuple #[.slice a2 n2 c2, .int .i64 (putP l m key v).2] ∧ H h' (aPl a2 n2 c2 (putP l m key v).1 :: F) := by
  have hn := pl_len w
  refine Ok.le ?_ ref20_Put_le
  obtain ⟨a', c', h2, k1, w2⟩ := cpy_ok (by omega) w
  simp only [F_ref20_Put, k1, Option.bind_some, asS_s]
  refine Ok.bind (rfind_ok hs (by omega) hn w2.ow.rd key) ?_
  rintro _ h2 ⟨rfl, rfl⟩
  cases hh : hit l key with
  | true =>
    obtain ⟨v0, hv⟩ := hit_iff.mp hh
    have hlt := (List.getElem?_eq_some_iff.mp hv).1
    have hP : putP l m key v = (l.set (pos l key) (key, v), 0) := by unfold putP; rw [if_pos hh]
    obtain ⟨b, rfl, rfl, w3⟩ := pl_pt w2 (by omega)
    obtain ⟨h4, k4, w4⟩ := ptS1 w3 hv v
    simp only [asI_i64, Option.bind_some, if_pos, dec_f (show ¬ ((pos l key : Nat) : Int) < 0 by omega), Bool.not_false, cond_t, inB_t (show (0 : Int) ≤ ((pos l key : Nat) : Int) by omega) (show ((pos l key : Nat) : Int) < ((n : Nat) : Int) by omega), Int.toNat_natCast, k4]
    rw [hP]
    refine Ok.some ⟨_, _, _, rfl, ?_⟩
    have w5 := pt_pl w4
    rw [List.length_set, ← hn] at w5
    exact w5.rm 1 rfl
  | false =>
    simp only [asI_i64, Option.bind_some, Bool.false_eq_true, if_false, dec_t (show (-1 : Int) < 0 by decide), Bool.not_true, cond_f]
    refine Ok.le ?_ ref20_Put_j5_le
    by_cases hf : l.length = m
    · have hP : putP l m key v = (l, 5) := by unfold putP; rw [if_neg (by rw [hh]; decide), if_pos hf]
      rw [hP, dec_t (by omega), cond_t]
      exact Ok.some ⟨_, _, _, rfl, w2.drop⟩
    · have hP : putP l m key v = (l.take (pos l key) ++ (key, v) :: l.drop (pos l key), 0) := by unfold putP; rw [if_neg (by rw [hh]; decide), if_neg hf]
      rw [hP, dec_f (by omega), cond_f]
      refine Ok.le ?_ ref20_Put_j4_le
      obtain ⟨a3, h3, k3, w3, _⟩ := w2.app (by_ := 32) (c' := 1) (xs := cP (key, v)) rfl (by omega) (by omega) (by omega)
      simp only [show appE 2 32 (.slice a' n c') (.slice (some ⟨h2.n, 0, none⟩) 1 1) (h2.push (.cells [.string key, .string v] false false 2)) = some (.slice a3 (n + 1) opn, h3) from k3, asS_s, Option.bind_some]
      have e : l.flatMap cP ++ cP (key, v) = (l.take l.length ++ (key, v) :: l.drop l.length).flatMap cP := by simp
      rw [e] at w3
      obtain ⟨b, rfl, _, w4⟩ := pl_pt (l := l.take l.length ++ (key, v) :: l.drop l.length) w3 (by omega)
      rw [show IntKind.wrap .i64 (((n + 1 : Nat) : Int) - 1) = ((l.length : Nat) : Int) by rw [wrap64 (by omega) (by omega)]; omega]
      rw [hn]
      refine Ok.mono (bub_loop hs hl hh l.length h3 (Nat.le_refl _) (fun p hp => by rw [List.getElem?_eq_none (Nat.le_refl _)] at hp; cases hp) w4) ?_
      rintro y h5 ⟨rfl, w5⟩
      refine ⟨_, _, _, rfl, ?_⟩
      have w6 := pt_pl w5
      have hle := (pos_ok (key := key) hs).le
      rw [show (l.take (pos l key) ++ (key, v) :: l.drop (pos l key)).length = l.length + 1 by simp; omega] at w6
      exact w6.rm 1 rfl
end
end Tab
end Go.Lg.Try
