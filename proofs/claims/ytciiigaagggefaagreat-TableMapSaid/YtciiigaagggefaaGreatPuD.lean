/- slices.DeleteFunc over entries of a table (as afterD does it for others). -/
import Derived.Test.YtciiigaagggefaaGreatFslices
import Derived.Test.YtciiigaagggefaaGreatPutl
namespace Go.Lg.Tryz
set_option linter.unusedVariables false
set_option linter.unusedSimpArgs false
open Go Go.Proofs
namespace Tab
theorem bnd {i : Int} {k top : Nat} (hi : i = k) (ht : k ≤ top) (k0 : IntKind) (d : Nat) (K : Nat → Res) : boundOf (some (.int k0 i)) d top K = K k := by
  subst hi
  simp only [boundOf, inBe_t (show (0 : Int) ≤ (k : Int) by omega) (show (k : Int) ≤ (top : Nat) by omega), cond_t, Int.toNat_natCast]
theorem bnd0 (d top : Nat) (K : Nat → Res) : boundOf none d top K = K d := rfl
theorem blt_opn : Nat.blt opn opn = false := by show Nat.blt 4611686018427387904 4611686018427387904 = false; rfl
theorem blt_small {n : Nat} (h : n < 4611686018427387904) : Nat.blt n opn = true := Nat.ble_eq_true_of_le (show n + 1 ≤ 4611686018427387904 by omega)
/-- the first k of a slice that is one's own -/
theorem osCut {h : AH} {sz : Nat} (hsz : 0 < sz) {a : Option Addr} {n c : Nat} {cs : List Value} (ho : OwS h sz a n c cs) {k : Nat} (hk : k ≤ n) {i : Int} (hi : i = k) :
    slcE sz a n c none (some (.int .i64 i)) none h = some (.slice a k c, h) ∧ OwS h sz a k c (cs.take (k * sz)) := by
  cases ho with
  | nil =>
    obtain rfl : k = 0 := by omega
    refine ⟨?_, by simpa using OwS.nil⟩
    simp only [slcE, Nat.beq_refl, Bool.and_self, cond_t]
    rw [bnd (k := 0) hi (Nat.le_refl _), bnd0]
  | @mk b _ m _ rest hb hl hr hn =>
    have hb10 : Nat.beq sz 0 = false := by
      cases hq : Nat.beq sz 0 with
      | false => rfl
      | true => have := Nat.eq_of_beq_eq_true hq; omega
    have hkn : k * sz ≤ n * sz := Nat.mul_le_mul_right _ hk
    refine ⟨?_, .mk (rest := cs.drop (k * sz) ++ rest) (m := n - k + m) ?_ ?_ ?_ hn⟩
    · simp only [slcE, blt_opn, cond_f, hb10, hb, Nat.beq_refl, cond_t]
      rw [bnd hi (by rw [List.length_append, hl, Nat.sub_zero, hr, ← Nat.add_mul, Nat.mul_div_cancel _ hsz]; omega), bnd0, Nat.zero_mul, Nat.sub_zero]
    · rw [← List.append_assoc, List.take_append_drop]; exact hb
    · rw [List.length_take, hl]; omega
    · rw [List.length_append, List.length_drop, hl, hr, Nat.add_mul, Nat.sub_mul]
abbrev encN (e : En) : List Value := cE e
theorem encN_len (e : En) : (encN e).length = 3 := rfl
/-- a slice that grows by append, and shrinks -/
def aOs (a : Option Addr) (n c : Nat) (cs : List Value) : Asr := Up (fun h => OwS h 3 a n c cs) (blk a)
section
variable {h h' : AH} {F : List Asr} {b : Nat} {x : Blk} {Φ : AH → Prop}
theorem up_pt (hh : H h (Up Φ (blk (some ⟨b, 0, none⟩)) :: F)) (hg : h.get b = some x) : H h (Pt b x :: F) := by
  obtain ⟨m, h1, a, r, d, rfl, ha, hb⟩ := hh
  refine ⟨_, h1, a, r, d, rfl, ?_, hb⟩
  show a = Hp.one b x
  funext c
  unfold Hp.one
  by_cases e : c = b
  · subst e
    rw [if_pos rfl]
    obtain ⟨y, hy⟩ := Option.isSome_iff_exists.mp ((ha.1 c).mpr rfl)
    have := (h1.left c y hy).1
    rw [hg] at this
    rw [hy]; exact this.symm
  · rw [if_neg e]
    cases hc : a c with
    | none => rfl
    | some y => exact absurd ((ha.1 c).mp (by rw [hc]; rfl)) (fun q => e q.symm)
theorem pt_up (hh : H h (Pt b x :: F)) (hs : ∀ h', h'.get b = some x → b < h'.n → Φ h') : H h (Up Φ (blk (some ⟨b, 0, none⟩)) :: F) := by
  obtain ⟨m, h1, a, r, d, rfl, ha, hb⟩ := hh
  refine ⟨_, h1, a, r, d, rfl, ⟨fun c => ?_, fun h' hi => ?_⟩, hb⟩
  · rw [show a = Hp.one b x from ha]
    unfold Hp.one
    by_cases e : c = b
    · subst e; simp [blk]
    · rw [if_neg e]
      exact ⟨fun q => (by cases q), fun q => absurd (show b = c from q).symm e⟩
  · have := hi b x (by rw [show a = Hp.one b x from ha]; unfold Hp.one; rw [if_pos rfl])
    exact hs h' this.1 this.2
theorem up_nil (hh : H h (Up Φ (blk none) :: F)) : H h F := hh.drop
theorem os_nil (hh : H h F) : H h (aOs none 0 0 [] :: F) := hh.fresh (Nat.le_refl _) (fun _ _ => rfl) (fun b hb => by cases hb) (fun b hb => by cases hb) fun _ _ => .nil
theorem pt_os {cs rest : List Value} {n m : Nat} (hh : H h (Pt b (.cells (cs ++ rest) true false 3) :: F)) (hl : cs.length = n * 3) (hr : rest.length = m * 3) : H h (aOs (some ⟨b, 0, none⟩) n opn cs :: F) :=
  pt_up hh fun h' g l => .mk g hl hr l
end
/-- what is kept -/
def keepF (d : Nat → Bool) : Nat → List En → List En
  | _, [] => []
  | k, x :: l => if d k then keepF d (k + 1) l else x :: keepF d (k + 1) l
theorem keepF_snoc (d : Nat → Bool) (x : En) : ∀ (l : List En) (k : Nat), keepF d k (l ++ [x]) = keepF d k l ++ (if d (k + l.length) then [] else [x])
  | [], k => by simp [keepF]
  | y :: l, k => by
    simp only [List.cons_append, keepF, keepF_snoc d x l (k + 1), List.length_cons]
    rw [show k + 1 + l.length = k + (l.length + 1) by omega]
    split <;> simp
theorem keepF_le (d : Nat → Bool) : ∀ (l : List En) (k : Nat), (keepF d k l).length ≤ l.length
  | [], k => Nat.le_refl _
  | y :: l, k => by
    have := keepF_le d l (k + 1)
    simp only [keepF]
    split <;> simp <;> omega
theorem keepF_all (d : Nat → Bool) : ∀ (l : List En) (k : Nat), (∀ j, k ≤ j → j < k + l.length → d j = false) → keepF d k l = l
  | [], k, _ => rfl
  | y :: l, k, h => by
    simp only [keepF]
    rw [if_neg (by rw [h k (Nat.le_refl _) (by simp)]; decide), keepF_all d l (k + 1) fun j h1 h2 => h j (by omega) (by simp; omega)]
abbrev agN (e : En) : Value := vE e
section
variable {b c : Nat} {l : List En} {d : Nat → Bool} {I : Nat → Asr} {fid : FuncId} {pre post : List Value} {cells : List Value}
/-- the callback -/
abbrev Cb (l : List En) (d : Nat → Bool) (I : Nat → Asr) (fid : FuncId) (pre post : List Value) : Prop :=
  ∀ k x h G, l[k]? = some x → H h (I k :: G) → Ok (C fid (pre ++ [agN x] ++ post) h) fun v h' => v = .bool (d k) ∧ H h' (I (k + 1) :: G)
theorem fnQ_sm (c : FuncId × List Value × List Value) : fnQ (fnV (some c)) = some c := rfl
theorem lk {cells : List Value} {k r o : Nat} {x : En} {v : Value} (hrd : ∀ r, r < 3 → cells[k * 3 + r]? = (encN x)[r]?) (hr : r < 3) (ho : o = k * 3 + r) (hv : (encN x)[r]? = some v) : cells[o]? = some v := by
  rw [ho, hrd r hr, hv]
theorem ix_loop (hb : hasBody Tryz.prog fid = true) (cb : Cb l d I fid pre post) (hl : l.length < 1000000) (hrd : ∀ k x, l[k]? = some x → ∀ r, r < 3 → cells[k * 3 + r]? = (encN x)[r]?) : ∀ (n k : Nat) (h : AH) (F : List Asr), l.length - k = n → k ≤ l.length →
    H h (I k :: Pt b (.cells cells true false 3) :: F) → Ok (slices_IndexFunc_table_Entry_table_Entry_L1 (some ⟨b, 0, none⟩) l.length (some (fid, pre, post)) c ((l.length : Nat) : Int) (k : Nat) h) fun v h' =>
      ∃ m, k ≤ m ∧ m ≤ l.length ∧ (∀ j, k ≤ j → j < m → d j = false) ∧ ((m = l.length ∧ v = .int .i64 (-1) ∧ H h' (I m :: Pt b (.cells cells true false 3) :: F)) ∨ (m < l.length ∧ d m = true ∧ v = .int .i64 (m : Nat) ∧ H h' (I (m + 1) :: Pt b (.cells cells true false 3) :: F))) := by
  intro n
  induction n with
  | zero =>
    intro k h F hn hk w
    obtain rfl : k = l.length := by omega
    refine Ok.le ?_ slices_IndexFunc_table_Entry_table_Entry_L1_le
    refine Ok.le ?_ slices_IndexFunc_table_Entry_table_Entry_j4_le
    rw [dec_f (by omega), cond_f]
    refine Ok.le ?_ slices_IndexFunc_table_Entry_table_Entry_j1_le
    exact Ok.some ⟨_, Nat.le_refl _, Nat.le_refl _, fun j h1 h2 => by omega, .inl ⟨rfl, rfl, w⟩⟩
  | succ n ih =>
    intro k h F hn hk w
    have hkl : k < l.length := by omega
    obtain ⟨x, hx⟩ : ∃ x, l[k]? = some x := ⟨_, List.getElem?_eq_getElem hkl⟩
    have hr := hrd k x hx
    refine Ok.le ?_ slices_IndexFunc_table_Entry_table_Entry_L1_le
    refine Ok.le ?_ slices_IndexFunc_table_Entry_table_Entry_j4_le
    rw [dec_t (by omega), cond_t]
    refine Ok.le ?_ slices_IndexFunc_table_Entry_table_Entry_j3_le
    have hi : inB ((k : Nat) : Int) l.length = true := inB_t (by omega) (by omega)
    simp only [Option.bind_some, hi, cond_t, Int.toNat_natCast, AH.ldB_of (w.g 1 rfl) (lk (r := 0) hr (by decide) (by omega) rfl : cells[0 + k * 3]? = _), AH.ldStr_of (w.g 1 rfl) (lk (r := 1) hr (by decide) (by omega) rfl : cells[0 + k * 3 + 1]? = _),
      AH.ldStr_of (w.g 1 rfl) (lk (r := 2) hr (by decide) (by omega) rfl : cells[0 + k * 3 + 2]? = _), fnQ_sm, hb]
    refine Ok.bind (cb k x h _ hx w) ?_
    rintro _ h2 ⟨rfl, w2⟩
    simp only [asB_b, Option.bind_some]
    cases hd : d k with
    | true =>
      rw [cond_t]
      exact Ok.some ⟨k, Nat.le_refl _, hk, fun j h1 h2 => by omega, .inr ⟨hkl, hd, rfl, w2⟩⟩
    | false =>
      rw [cond_f]
      refine Ok.le ?_ slices_IndexFunc_table_Entry_table_Entry_j2_le
      rw [show IntKind.wrap .i64 (((k : Nat) : Int) + 1) = ((k + 1 : Nat) : Int) by rw [wrap64 (by omega) (by omega)]; omega]
      refine Ok.mono (ih (k + 1) h2 F (by omega) (by omega) w2) ?_
      rintro v h3 ⟨m, h1, h4, h5, h6⟩
      refine ⟨m, by omega, h4, fun j j1 j2 => ?_, h6⟩
      by_cases e : j = k
      · subst e; exact hd
      · exact h5 j (by omega) j2
theorem df_loop (hb : hasBody Tryz.prog fid = true) (cb : Cb l d I fid pre post) (hl : l.length < 1000000) {m : Nat} : ∀ (n k : Nat) (h : AH) (K R : List Value) (kept : List En) (F : List Asr), l.length - k = n → k ≤ l.length → kept.length < k →
    keepF d 0 (l.take k) = kept → K = kept.flatMap encN → (K ++ R).length = (l.length + m) * 3 → (∀ j x, k ≤ j → l[j]? = some x → ∀ r, r < 3 → (K ++ R)[j * 3 + r]? = (encN x)[r]?) →
    H h (I k :: Pt b (.cells (K ++ R) true false 3) :: F) → Ok (slices_DeleteFunc_table_Entry_table_Entry_L1 l.length (some ⟨b, 0, none⟩) (some (fid, pre, post)) opn (kept.length : Nat) (k : Nat) h) fun v h' =>
      v = .slice (some ⟨b, 0, none⟩) (keepF d 0 l).length opn ∧ ∃ rest, ((keepF d 0 l).flatMap encN ++ rest).length = (l.length + m) * 3 ∧ H h' (Pt b (.cells ((keepF d 0 l).flatMap encN ++ rest) true false 3) :: I l.length :: F) := by
  intro n
  induction n with
  | zero =>
    intro k h K R kept F hn hk hik hkept hK hlen hrd w
    obtain rfl : k = l.length := by omega
    rw [List.take_length] at hkept
    refine Ok.le ?_ slices_DeleteFunc_table_Entry_table_Entry_L1_le
    rw [dec_f (by omega), cond_f]
    refine Ok.le ?_ slices_DeleteFunc_table_Entry_table_Entry_j1_le
    have hKl : K.length = kept.length * 3 := by rw [hK, flat_len encN_len]
    have hb10 : Nat.beq 3 0 = false := rfl
    have hg := w.g 1 rfl
    have htop : ((K ++ R).length - 0) / 3 = l.length + m := by rw [hlen]; omega
    have q1 : slcE 3 (some ⟨b, 0, none⟩) l.length opn (some (.int .i64 ((kept.length : Nat) : Int))) none none h = some (.slice (some ⟨b, 0 + kept.length * 3, none⟩) (l.length - kept.length) opn, h) := by
      simp only [slcE, blt_opn, cond_f, hg, Nat.beq_refl, cond_t, htop, hb10]
      rw [bnd0, bnd rfl (by omega)]
    obtain ⟨c0, hc0⟩ : ∃ c0, l.length - kept.length = c0 + 1 := ⟨l.length - kept.length - 1, by omega⟩
    have hrl : (repL [Value.bool false, .string (ByteArray.mk #[]), .string (ByteArray.mk #[])] (c0 + 1)).length = (c0 + 1) * 3 := by
      have : ∀ n, (repL [Value.bool false, .string (ByteArray.mk #[]), .string (ByteArray.mk #[])] n).length = n * 3 := fun n => by
        induction n with
        | zero => rfl
        | succ n ih => simp only [repL, List.length_append, ih]; simp; omega
      exact this _
    rw [List.length_append] at hlen
    obtain ⟨h2, s2, w2, n2⟩ := w.u1.st (o := 0 + kept.length * 3) (repL [.bool false, .string (ByteArray.mk #[]), .string (ByteArray.mk #[])] (c0 + 1)) (by rw [List.length_append, hrl]; omega)
    have q2 : clrE [.bool false, .string (ByteArray.mk #[]), .string (ByteArray.mk #[])] (some ⟨b, 0 + kept.length * 3, none⟩) (l.length - kept.length) h = some h2 := by rw [hc0]; exact s2
    rw [Nat.zero_add, ← hKl, setL_app (by rw [hrl]; omega), List.append_assoc] at w2
    have hg2 := w2.get
    have q3 : slcE 3 (some ⟨b, 0, none⟩) l.length opn none (some (.int .i64 ((kept.length : Nat) : Int))) none h2 = some (.slice (some ⟨b, 0, none⟩) kept.length opn, h2) := by
      have htop2 : ((K ++ (repL [Value.bool false, .string (ByteArray.mk #[]), .string (ByteArray.mk #[])] (c0 + 1) ++ R.drop (repL [Value.bool false, .string (ByteArray.mk #[]), .string (ByteArray.mk #[])] (c0 + 1)).length)).length - 0) / 3 = l.length + m := by
        simp only [List.length_append, List.length_drop, hrl]; omega
      simp only [slcE, blt_opn, cond_f, hg2, Nat.beq_refl, cond_t, htop2, hb10]
      rw [bnd rfl (by omega), bnd0, Nat.zero_mul, Nat.sub_zero]
    simp only [q1, q2, q3, Option.bind_some, asS_s]
    rw [← hkept] at hK ⊢
    refine Ok.some ⟨by rw [hkept], ?_⟩
    rw [← hK]
    exact ⟨_, by simp only [List.length_append, List.length_drop, hrl]; omega, w2⟩
  | succ n ih =>
    intro k h K R kept F hn hk hik hkept hK hlen hrd w
    have hkl : k < l.length := by omega
    obtain ⟨x, hx⟩ : ∃ x, l[k]? = some x := ⟨_, List.getElem?_eq_getElem hkl⟩
    have hr := hrd k x (Nat.le_refl _) hx
    have hKl : K.length = kept.length * 3 := by rw [hK, flat_len encN_len]
    have hlen' := hlen
    rw [List.length_append] at hlen'
    refine Ok.le ?_ slices_DeleteFunc_table_Entry_table_Entry_L1_le
    rw [dec_t (by omega), cond_t]
    refine Ok.le ?_ slices_DeleteFunc_table_Entry_table_Entry_j3_le
    have hi : inB ((k : Nat) : Int) l.length = true := inB_t (by omega) (by omega)
    obtain ⟨h17, s17, w17, n17⟩ := w.var [.bool false, .string (ByteArray.mk #[]), .string (ByteArray.mk #[])] [.bool x.u, .string x.k, .string x.v] 3 rfl
    have g17 := w17.get
    simp only [Option.bind_some, hi, cond_t, Int.toNat_natCast, AH.ldB_of (w.g 1 rfl) (lk (r := 0) hr (by decide) (by omega) rfl : (K ++ R)[0 + k * 3]? = _), AH.ldStr_of (w.g 1 rfl) (lk (r := 1) hr (by decide) (by omega) rfl : (K ++ R)[0 + k * 3 + 1]? = _),
      AH.ldStr_of (w.g 1 rfl) (lk (r := 2) hr (by decide) (by omega) rfl : (K ++ R)[0 + k * 3 + 2]? = _), fnQ_sm, hb, s17, AH.ldB_of (o := 0) g17 rfl, AH.ldStr_of (o := 0 + 1) g17 rfl, AH.ldStr_of (o := 0 + 2) g17 rfl]
    refine Ok.bind (cb k x h17 _ hx w17.u1) ?_
    rintro _ h2 ⟨rfl, w2⟩
    simp only [asB_b, Option.bind_some]
    have hw : IntKind.wrap .i64 (((k : Nat) : Int) + 1) = ((k + 1 : Nat) : Int) := by rw [wrap64 (by omega) (by omega)]; omega
    have htk : l.take (k + 1) = l.take k ++ [x] := by rw [List.take_add_one, hx]; rfl
    have hsn : keepF d 0 (l.take (k + 1)) = kept ++ (if d k then [] else [x]) := by
      rw [htk, keepF_snoc, hkept, List.length_take, Nat.min_eq_left (by omega), Nat.zero_add]
    cases hd : d k with
    | true =>
      rw [Bool.not_true, cond_f]
      refine Ok.le ?_ slices_DeleteFunc_table_Entry_table_Entry_j2_le
      rw [hw]
      rw [hd, if_pos rfl, List.append_nil] at hsn
      exact ih (k + 1) h2 K R kept F (by omega) (by omega) (by omega) hsn hK hlen (fun j x h1 h3 => hrd j x (by omega) h3) (w2.rm 1 rfl)
    | false =>
      rw [Bool.not_false, cond_t]
      have g2 := w2.g 1 rfl
      have hi2 : inB ((kept.length : Nat) : Int) l.length = true := inB_t (by omega) (by omega)
      obtain ⟨h28, s28, w28, n28⟩ := (w2.mv 2 rfl : H h2 (Pt b (.cells (K ++ R) true false 3) :: _)).st (o := 0 + kept.length * 3) [.bool x.u, .string x.k, .string x.v] (by rw [List.length_append]; simp; omega)
      simp only [AH.ldB_of (o := 0) g2 rfl, AH.ldStr_of (o := 0 + 1) g2 rfl, AH.ldStr_of (o := 0 + 2) g2 rfl, Option.bind_some, hi2, cond_t, Int.toNat_natCast, s28]
      refine Ok.le ?_ slices_DeleteFunc_table_Entry_table_Entry_j2_le
      rw [hw, show IntKind.wrap .i64 (((kept.length : Nat) : Int) + 1) = (((kept ++ [x]).length : Nat) : Int) by rw [wrap64 (by omega) (by omega)]; simp]
      rw [hd, if_neg (by decide)] at hsn
      rw [Nat.zero_add, ← hKl, setL_app (by simp; omega)] at w28
      have hl3 : ([Value.bool x.u, .string x.k, .string x.v] : List Value).length = 3 := rfl
      rw [hl3] at w28
      have w29 : H h28 (I (k + 1) :: Pt b (.cells (K ++ encN x ++ R.drop 3) true false 3) :: F) := (w28.u1).rm 2 rfl
      refine ih (k + 1) h28 (K ++ encN x) (R.drop 3) (kept ++ [x]) F (by omega) (by omega) (by simp; omega) hsn (by rw [hK]; simp) (by simp only [List.length_append, List.length_drop, encN_len]; omega) (fun j y h1 h3 r hr3 => ?_) w29
      have h5 := hrd j y (by omega) h3 r hr3
      rw [← h5, List.append_assoc, List.getElem?_append_right (by omega), List.getElem?_append_right (by rw [encN_len]; omega), List.getElem?_drop, List.getElem?_append_right (by omega), encN_len]
      exact congrArg (fun q => R[q]?) (by omega)
end
section
variable {l : List En} {d : Nat → Bool} {I : Nat → Asr} {fid : FuncId} {pre post : List Value}
/-- DeleteFunc -/
theorem deleteT {h : AH} {F : List Asr} {b : Nat} (hb : hasBody Tryz.prog fid = true) (cb : Cb l d I fid pre post) (hl : l.length < 1000000) (w : H h (I 0 :: Pt b (.cells (l.flatMap encN) true false 3) :: F)) :
    Ok (C k_slices_DeleteFunc_table_Entry_table_Entry [.slice (some ⟨b, 0, none⟩) l.length opn, fnV (some (fid, pre, post))] h) fun v h' =>
      v = .slice (some ⟨b, 0, none⟩) (keepF d 0 l).length opn ∧ ∃ rest, ((keepF d 0 l).flatMap encN ++ rest).length = l.length * 3 ∧ H h' (Pt b (.cells ((keepF d 0 l).flatMap encN ++ rest) true false 3) :: I l.length :: F) := by
  refine Ok.le ?_ slices_DeleteFunc_table_Entry_table_Entry_le
  unfold F_slices_DeleteFunc_table_Entry_table_Entry
  have ix : ∀ {Q : Value → AH → Prop}, Ok (slices_IndexFunc_table_Entry_table_Entry_L1 (some ⟨b, 0, none⟩) l.length (some (fid, pre, post)) opn ((l.length : Nat) : Int) 0 h) Q → Ok (C k_slices_IndexFunc_table_Entry_table_Entry [.slice (some ⟨b, 0, none⟩) l.length opn, fnV (some (fid, pre, post))] h) Q := fun k => by
    refine Ok.le ?_ slices_IndexFunc_table_Entry_table_Entry_le
    exact k
  have hrd : ∀ k x, l[k]? = some x → ∀ r, r < 3 → (l.flatMap encN)[k * 3 + r]? = (encN x)[r]? := fun k x hx r hr => by
    have := flat_get (enc := encN) encN_len hr l k
    rw [this, hx]; rfl
  have hcl : (l.flatMap encN).length = l.length * 3 := flat_len encN_len l
  refine Ok.bind (ix (ix_loop hb cb hl hrd l.length 0 h F rfl (by omega) w)) ?_
  rintro _ h3 ⟨q, _, q1, q2, q3⟩
  rcases q3 with ⟨rfl, rfl, w3⟩ | ⟨q4, q5, rfl, w3⟩
  · simp only [asI_i64, Option.bind_some, decide_true, cond_t]
    have hk : keepF d 0 l = l := keepF_all d l 0 fun j h1 h2 => q2 j h1 (by omega)
    rw [hk]
    exact Ok.some ⟨rfl, [], by rw [List.append_nil]; exact hcl, by rw [List.append_nil]; exact w3.u1⟩
  · simp only [asI_i64, Option.bind_some]
    rw [dec_f (by omega), cond_f]
    refine Ok.le ?_ slices_DeleteFunc_table_Entry_table_Entry_j4_le
    rw [show IntKind.wrap .i64 (((q : Nat) : Int) + 1) = ((q + 1 : Nat) : Int) by rw [wrap64 (by omega) (by omega)]; omega]
    have hlt : (l.take q).length = q := by rw [List.length_take]; omega
    have hkq : keepF d 0 (l.take q) = l.take q := keepF_all d _ 0 fun j h1 h2 => q2 j h1 (by omega)
    obtain ⟨y, hy⟩ : ∃ y, l[q]? = some y := ⟨_, List.getElem?_eq_getElem q4⟩
    have hkq1 : keepF d 0 (l.take (q + 1)) = l.take q := by
      rw [List.take_add_one, hy]
      show keepF d 0 (l.take q ++ [y]) = _
      rw [keepF_snoc, hlt, Nat.zero_add, q5, if_pos rfl, List.append_nil, hkq]
    have hsp : l.flatMap encN = (l.take q).flatMap encN ++ (l.drop q).flatMap encN := by
      rw [← List.flatMap_append, List.take_append_drop]
    rw [hsp] at w3 hrd
    have key := df_loop (m := 0) hb cb hl (l.length - (q + 1)) (q + 1) h3 _ _ (l.take q) F rfl (by omega) (by omega) hkq1 rfl (by rw [← hsp, hcl]; omega) (fun j x h1 h2 r hr => hrd j x h2 r hr) w3
    rw [hlt, Nat.add_zero] at key
    exact key
end
end Tab
end Go.Lg.Tryz
