/- slices.DeleteFunc over entries, the callback having a state of its own. -/
import Derived.Test.YtmjcbpocciaafaaFslices
import Derived.Test.YtmjcbpocciaafaaEv38
import Derived.Test.YtmjcbpocciaafaaFafter
import Derived.Test.YtmjcbpocciaafaaFcmp
set_option linter.unusedVariables false
set_option linter.unusedSimpArgs false
namespace Go.Lg.Try
set_option linter.unusedVariables false
set_option linter.unusedSimpArgs false
open Go Go.Proofs
theorem bnd {i : Int} {k top : Nat} (hi : i = k) (ht : k ≤ top) (k0 : IntKind) (d : Nat) (K : Nat → Res) : boundOf (some (.int k0 i)) d top K = K k := by
  subst hi
  simp only [boundOf, inBe_t (show (0 : Int) ≤ (k : Int) by omega) (show (k : Int) ≤ (top : Nat) by omega), cond_t, Int.toNat_natCast]
theorem bnd0 (d top : Nat) (K : Nat → Res) : boundOf none d top K = K d := rfl
theorem blt_opn : Nat.blt opn opn = false := by show Nat.blt 4611686018427387904 4611686018427387904 = false; rfl
theorem blt_small {n : Nat} (h : n < 4611686018427387904) : Nat.blt n opn = true := Nat.ble_eq_true_of_le (show n + 1 ≤ 4611686018427387904 by omega)
/-- the first k of a slice that is one's own -/
theorem osCut {h : AH} {sz : Nat} (hsz : 0 < sz) {a : Option Addr} {n c : Nat} {cs : List Value} (ho : OwS h sz a n c cs) {k : Nat} (hk : k ≤ n) {i : Int} (hi : i = k) :
    slcE sz a n c none (some (.int .i64 i)) none h = some (.slice a k c, h) ∧ OwS h sz a k c (cs.take (k * sz)) := by
  cases ho with
  | nil =>
    obtain rfl : k = 0 := by omega
    refine ⟨?_, by simpa using OwS.nil⟩
    simp only [slcE, Nat.beq_refl, Bool.and_self, cond_t]
    rw [bnd (k := 0) hi (Nat.le_refl _), bnd0]
  | @mk b _ m _ rest hb hl hr hn =>
    have hb10 : Nat.beq sz 0 = false := by
      cases hq : Nat.beq sz 0 with
      | false => rfl
      | true => have := Nat.eq_of_beq_eq_true hq; omega
    have hkn : k * sz ≤ n * sz := Nat.mul_le_mul_right _ hk
    refine ⟨?_, .mk (rest := cs.drop (k * sz) ++ rest) (m := n - k + m) ?_ ?_ ?_ hn⟩
    · simp only [slcE, blt_opn, cond_f, hb10, hb, Nat.beq_refl, cond_t]
      rw [bnd hi (by rw [List.length_append, hl, Nat.sub_zero, hr, ← Nat.add_mul, Nat.mul_div_cancel _ hsz]; omega), bnd0, Nat.zero_mul, Nat.sub_zero]
    · rw [← List.append_assoc, List.take_append_drop]; exact hb
    · rw [List.length_take, hl]; omega
    · rw [List.length_append, List.length_drop, hl, hr, Nat.add_mul, Nat.sub_mul]
structure En where
  v : Int
  o : Int
  a : Int
def encN (e : En) : List Value := [.int .i64 e.v, .int .i64 e.o, .int .i64 e.a]
theorem encN_len (e : En) : (encN e).length = 3 := rfl
/-- a slice that grows by append, and shrinks -/
def aOs (a : Option Addr) (n c : Nat) (cs : List Value) : Asr := Up (fun h => OwS h 3 a n c cs) (blk a)
section
variable {h h' : AH} {F : List Asr} {b : Nat} {x : Blk} {Φ : AH → Prop}
theorem up_pt (hh : H h (Up Φ (blk (some ⟨b, 0, none⟩)) :: F)) (hg : h.get b = some x) : H h (Pt b x :: F) := by
  obtain ⟨m, h1, a, r, d, rfl, ha, hb⟩ := hh
  refine ⟨_, h1, a, r, d, rfl, ?_, hb⟩
  show a = Hp.one b x
  funext c
  unfold Hp.one
  by_cases e : c = b
  · subst e
    rw [if_pos rfl]
    obtain ⟨y, hy⟩ := Option.isSome_iff_exists.mp ((ha.1 c).mpr rfl)
    have := (h1.left c y hy).1
    rw [hg] at this
    rw [hy]; exact this.symm
  · rw [if_neg e]
    cases hc : a c with
    | none => rfl
    | some y => exact absurd ((ha.1 c).mp (by rw [hc]; rfl)) (fun q => e q.symm)
theorem pt_up (hh : H h (Pt b x :: F)) (hs : ∀ h', h'.get b = some x → b < h'.n → Φ h') : H h (Up Φ (blk (some ⟨b, 0, none⟩)) :: F) := by
  obtain ⟨m, h1, a, r, d, rfl, ha, hb⟩ := hh
  refine ⟨_, h1, a, r, d, rfl, ⟨fun c => ?_, fun h' hi => ?_⟩, hb⟩
  · rw [show a = Hp.one b x from ha]
    unfold Hp.one
    by_cases e : c = b
    · subst e; simp [blk]
    · rw [if_neg e]
      exact ⟨fun q => (by cases q), fun q => absurd (show b = c from q).symm e⟩
  · have := hi b x (by rw [show a = Hp.one b x from ha]; unfold Hp.one; rw [if_pos rfl])
    exact hs h' this.1 this.2
theorem up_nil (hh : H h (Up Φ (blk none) :: F)) : H h F := hh.drop
theorem os_nil (hh : H h F) : H h (aOs none 0 0 [] :: F) := hh.fresh (Nat.le_refl _) (fun _ _ => rfl) (fun b hb => by cases hb) (fun b hb => by cases hb) fun _ _ => .nil
theorem pt_os {cs rest : List Value} {n m : Nat} (hh : H h (Pt b (.cells (cs ++ rest) true false 3) :: F)) (hl : cs.length = n * 3) (hr : rest.length = m * 3) : H h (aOs (some ⟨b, 0, none⟩) n opn cs :: F) :=
  pt_up hh fun h' g l => .mk g hl hr l
end
/-- what is kept -/
def keepF (d : Nat → Bool) : Nat → List En → List En
  | _, [] => []
  | k, x :: l => if d k then keepF d (k + 1) l else x :: keepF d (k + 1) l
theorem keepF_snoc (d : Nat → Bool) (x : En) : ∀ (l : List En) (k : Nat), keepF d k (l ++ [x]) = keepF d k l ++ (if d (k + l.length) then [] else [x])
  | [], k => by simp [keepF]
  | y :: l, k => by
    simp only [List.cons_append, keepF, keepF_snoc d x l (k + 1), List.length_cons]
    rw [show k + 1 + l.length = k + (l.length + 1) by omega]
    split <;> simp
theorem keepF_le (d : Nat → Bool) : ∀ (l : List En) (k : Nat), (keepF d k l).length ≤ l.length
  | [], k => Nat.le_refl _
  | y :: l, k => by
    have := keepF_le d l (k + 1)
    simp only [keepF]
    split <;> simp <;> omega
theorem keepF_all (d : Nat → Bool) : ∀ (l : List En) (k : Nat), (∀ j, k ≤ j → j < k + l.length → d j = false) → keepF d k l = l
  | [], k, _ => rfl
  | y :: l, k, h => by
    simp only [keepF]
    rw [if_neg (by rw [h k (Nat.le_refl _) (by simp)]; decide), keepF_all d l (k + 1) fun j h1 h2 => h j (by omega) (by simp; omega)]
def agN (e : En) : Value := .agg #[.int .i64 e.v, .int .i64 e.o, .int .i64 e.a]
section
variable {b c : Nat} {l : List En} {d : Nat → Bool} {I : Nat → Asr} {fid : FuncId} {pre post : List Value} {cells : List Value}
/-- the callback -/
abbrev Cb (l : List En) (d : Nat → Bool) (I : Nat → Asr) (fid : FuncId) (pre post : List Value) : Prop :=
  ∀ k x h G, l[k]? = some x → H h (I k :: G) → Ok (C fid (pre ++ [agN x] ++ post) h) fun v h' => v = .bool (d k) ∧ H h' (I (k + 1) :: G)
theorem fnQ_sm (c : FuncId × List Value × List Value) : fnQ (fnV (some c)) = some c := rfl
theorem lk {cells : List Value} {k r o : Nat} {x : En} {v : Int} (hrd : ∀ r, r < 3 → cells[k * 3 + r]? = (encN x)[r]?) (hr : r < 3) (ho : o = k * 3 + r) (hv : (encN x)[r]? = some (.int .i64 v)) : cells[o]? = some (.int .i64 v) := by
  rw [ho, hrd r hr, hv]
theorem ix_loop (hb : hasBody Try.prog fid = true) (cb : Cb l d I fid pre post) (hl : l.length < 1000000) (hrd : ∀ k x, l[k]? = some x → ∀ r, r < 3 → cells[k * 3 + r]? = (encN x)[r]?) : ∀ (n k : Nat) (h : AH) (F : List Asr), l.length - k = n → k ≤ l.length →
    H h (I k :: Pt b (.cells cells true false 3) :: F) → Ok (slices_IndexFunc_after_Entry_int_after_Entry_int_L1 (some ⟨b, 0, none⟩) l.length (some (fid, pre, post)) c ((l.length : Nat) : Int) (k : Nat) h) fun v h' =>
      ∃ m, k ≤ m ∧ m ≤ l.length ∧ (∀ j, k ≤ j → j < m → d j = false) ∧ ((m = l.length ∧ v = .int .i64 (-1) ∧ H h' (I m :: Pt b (.cells cells true false 3) :: F)) ∨ (m < l.length ∧ d m = true ∧ v = .int .i64 (m : Nat) ∧ H h' (I (m + 1) :: Pt b (.cells cells true false 3) :: F))) := by
  intro n
  induction n with
  | zero =>
    intro k h F hn hk w
    obtain rfl : k = l.length := by omega
    refine Ok.le ?_ slices_IndexFunc_after_Entry_int_after_Entry_int_L1_le
    refine Ok.le ?_ slices_IndexFunc_after_Entry_int_after_Entry_int_j4_le
    rw [dec_f (by omega), cond_f]
    refine Ok.le ?_ slices_IndexFunc_after_Entry_int_after_Entry_int_j1_le
    exact Ok.some ⟨_, Nat.le_refl _, Nat.le_refl _, fun j h1 h2 => by omega, .inl ⟨rfl, rfl, w⟩⟩
  | succ n ih =>
    intro k h F hn hk w
    have hkl : k < l.length := by omega
    obtain ⟨x, hx⟩ : ∃ x, l[k]? = some x := ⟨_, List.getElem?_eq_getElem hkl⟩
    have hr := hrd k x hx
    refine Ok.le ?_ slices_IndexFunc_after_Entry_int_after_Entry_int_L1_le
    refine Ok.le ?_ slices_IndexFunc_after_Entry_int_after_Entry_int_j4_le
    rw [dec_t (by omega), cond_t]
    refine Ok.le ?_ slices_IndexFunc_after_Entry_int_after_Entry_int_j3_le
    have hi : inB ((k : Nat) : Int) l.length = true := inB_t (by omega) (by omega)
    simp only [Option.bind_some, hi, cond_t, Int.toNat_natCast, AH.ldI_of (k := .i64) (w.g 1 rfl) (lk (r := 0) hr (by decide) (by omega) rfl : cells[0 + k * 3]? = _), AH.ldI_of (k := .i64) (w.g 1 rfl) (lk (r := 1) hr (by decide) (by omega) rfl : cells[0 + k * 3 + 1]? = _),
      AH.ldI_of (k := .i64) (w.g 1 rfl) (lk (r := 2) hr (by decide) (by omega) rfl : cells[0 + k * 3 + 2]? = _), fnQ_sm, hb]
    refine Ok.bind (cb k x h _ hx w) ?_
    rintro _ h2 ⟨rfl, w2⟩
    simp only [asB_b, Option.bind_some]
    cases hd : d k with
    | true =>
      rw [cond_t]
      exact Ok.some ⟨k, Nat.le_refl _, hk, fun j h1 h2 => by omega, .inr ⟨hkl, hd, rfl, w2⟩⟩
    | false =>
      rw [cond_f]
      refine Ok.le ?_ slices_IndexFunc_after_Entry_int_after_Entry_int_j2_le
      rw [show IntKind.wrap .i64 (((k : Nat) : Int) + 1) = ((k + 1 : Nat) : Int) by rw [wrap64 (by omega) (by omega)]; omega]
      refine Ok.mono (ih (k + 1) h2 F (by omega) (by omega) w2) ?_
      rintro v h3 ⟨m, h1, h4, h5, h6⟩
      refine ⟨m, by omega, h4, fun j j1 j2 => ?_, h6⟩
      by_cases e : j = k
      · subst e; exact hd
      · exact h5 j (by omega) j2
theorem df_loop (hb : hasBody Try.prog fid = true) (cb : Cb l d I fid pre post) (hl : l.length < 1000000) {m : Nat} : ∀ (n k : Nat) (h : AH) (K R : List Value) (kept : List En) (F : List Asr), l.length - k = n → k ≤ l.length → kept.length < k →
    keepF d 0 (l.take k) = kept → K = kept.flatMap encN → (K ++ R).length = (l.length + m) * 3 → (∀ j x, k ≤ j → l[j]? = some x → ∀ r, r < 3 → (K ++ R)[j * 3 + r]? = (encN x)[r]?) →
    H h (I k :: Pt b (.cells (K ++ R) true false 3) :: F) → Ok (slices_DeleteFunc_after_Entry_int_after_Entry_int_L1 l.length (some ⟨b, 0, none⟩) (some (fid, pre, post)) opn (kept.length : Nat) (k : Nat) h) fun v h' =>
      v = .slice (some ⟨b, 0, none⟩) (keepF d 0 l).length opn ∧ H h' (aOs (some ⟨b, 0, none⟩) (keepF d 0 l).length opn ((keepF d 0 l).flatMap encN) :: I l.length :: F) := by
  intro n
  induction n with
  | zero =>
    intro k h K R kept F hn hk hik hkept hK hlen hrd w
    obtain rfl : k = l.length := by omega
    rw [List.take_length] at hkept
    refine Ok.le ?_ slices_DeleteFunc_after_Entry_int_after_Entry_int_L1_le
    rw [dec_f (by omega), cond_f]
    refine Ok.le ?_ slices_DeleteFunc_after_Entry_int_after_Entry_int_j1_le
    have hKl : K.length = kept.length * 3 := by rw [hK, flat_len encN_len]
    have hb10 : Nat.beq 3 0 = false := rfl
    have hg := w.g 1 rfl
    have htop : ((K ++ R).length - 0) / 3 = l.length + m := by rw [hlen]; omega
    have q1 : slcE 3 (some ⟨b, 0, none⟩) l.length opn (some (.int .i64 ((kept.length : Nat) : Int))) none none h = some (.slice (some ⟨b, 0 + kept.length * 3, none⟩) (l.length - kept.length) opn, h) := by
      simp only [slcE, blt_opn, cond_f, hg, Nat.beq_refl, cond_t, htop, hb10]
      rw [bnd0, bnd rfl (by omega)]
    obtain ⟨c0, hc0⟩ : ∃ c0, l.length - kept.length = c0 + 1 := ⟨l.length - kept.length - 1, by omega⟩
    have hrl : (repL [Value.int .i64 0, .int .i64 0, .int .i64 0] (c0 + 1)).length = (c0 + 1) * 3 := by
      have : ∀ n, (repL [Value.int .i64 0, .int .i64 0, .int .i64 0] n).length = n * 3 := fun n => by
        induction n with
        | zero => rfl
        | succ n ih => simp only [repL, List.length_append, ih]; simp; omega
      exact this _
    rw [List.length_append] at hlen
    obtain ⟨h2, s2, w2, n2⟩ := w.u1.st (o := 0 + kept.length * 3) (repL [.int .i64 0, .int .i64 0, .int .i64 0] (c0 + 1)) (by rw [List.length_append, hrl]; omega)
    have q2 : clrE [.int .i64 0, .int .i64 0, .int .i64 0] (some ⟨b, 0 + kept.length * 3, none⟩) (l.length - kept.length) h = some h2 := by rw [hc0]; exact s2
    rw [Nat.zero_add, ← hKl, setL_app (by rw [hrl]; omega), List.append_assoc] at w2
    have hg2 := w2.get
    have q3 : slcE 3 (some ⟨b, 0, none⟩) l.length opn none (some (.int .i64 ((kept.length : Nat) : Int))) none h2 = some (.slice (some ⟨b, 0, none⟩) kept.length opn, h2) := by
      have htop2 : ((K ++ (repL [Value.int .i64 0, .int .i64 0, .int .i64 0] (c0 + 1) ++ R.drop (repL [Value.int .i64 0, .int .i64 0, .int .i64 0] (c0 + 1)).length)).length - 0) / 3 = l.length + m := by
        simp only [List.length_append, List.length_drop, hrl]; omega
      simp only [slcE, blt_opn, cond_f, hg2, Nat.beq_refl, cond_t, htop2, hb10]
      rw [bnd rfl (by omega), bnd0, Nat.zero_mul, Nat.sub_zero]
    simp only [q1, q2, q3, Option.bind_some, asS_s]
    rw [← hkept] at hK ⊢
    refine Ok.some ⟨by rw [hkept], ?_⟩
    rw [← hK]
    exact pt_os (m := l.length + m - kept.length) w2 (by rw [hkept, hKl]) (by simp only [List.length_append, List.length_drop, hrl]; omega)
  | succ n ih =>
    intro k h K R kept F hn hk hik hkept hK hlen hrd w
    have hkl : k < l.length := by omega
    obtain ⟨x, hx⟩ : ∃ x, l[k]? = some x := ⟨_, List.getElem?_eq_getElem hkl⟩
    have hr := hrd k x (Nat.le_refl _) hx
    have hKl : K.length = kept.length * 3 := by rw [hK, flat_len encN_len]
    have hlen' := hlen
    rw [List.length_append] at hlen'
    refine Ok.le ?_ slices_DeleteFunc_after_Entry_int_after_Entry_int_L1_le
    rw [dec_t (by omega), cond_t]
    refine Ok.le ?_ slices_DeleteFunc_after_Entry_int_after_Entry_int_j3_le
    have hi : inB ((k : Nat) : Int) l.length = true := inB_t (by omega) (by omega)
    obtain ⟨h17, s17, w17, n17⟩ := w.var [.int .i64 0, .int .i64 0, .int .i64 0] [.int .i64 x.v, .int .i64 x.o, .int .i64 x.a] 3 rfl
    have g17 := w17.get
    simp only [Option.bind_some, hi, cond_t, Int.toNat_natCast, AH.ldI_of (k := .i64) (w.g 1 rfl) (lk (r := 0) hr (by decide) (by omega) rfl : (K ++ R)[0 + k * 3]? = _), AH.ldI_of (k := .i64) (w.g 1 rfl) (lk (r := 1) hr (by decide) (by omega) rfl : (K ++ R)[0 + k * 3 + 1]? = _),
      AH.ldI_of (k := .i64) (w.g 1 rfl) (lk (r := 2) hr (by decide) (by omega) rfl : (K ++ R)[0 + k * 3 + 2]? = _), fnQ_sm, hb, s17, AH.ldI_of (k := .i64) (o := 0) g17 rfl, AH.ldI_of (k := .i64) (o := 0 + 1) g17 rfl, AH.ldI_of (k := .i64) (o := 0 + 2) g17 rfl]
    refine Ok.bind (cb k x h17 _ hx w17.u1) ?_
    rintro _ h2 ⟨rfl, w2⟩
    simp only [asB_b, Option.bind_some]
    have hw : IntKind.wrap .i64 (((k : Nat) : Int) + 1) = ((k + 1 : Nat) : Int) := by rw [wrap64 (by omega) (by omega)]; omega
    have htk : l.take (k + 1) = l.take k ++ [x] := by rw [List.take_add_one, hx]; rfl
    have hsn : keepF d 0 (l.take (k + 1)) = kept ++ (if d k then [] else [x]) := by
      rw [htk, keepF_snoc, hkept, List.length_take, Nat.min_eq_left (by omega), Nat.zero_add]
    cases hd : d k with
    | true =>
      rw [Bool.not_true, cond_f]
      refine Ok.le ?_ slices_DeleteFunc_after_Entry_int_after_Entry_int_j2_le
      rw [hw]
      rw [hd, if_pos rfl, List.append_nil] at hsn
      exact ih (k + 1) h2 K R kept F (by omega) (by omega) (by omega) hsn hK hlen (fun j x h1 h3 => hrd j x (by omega) h3) (w2.rm 1 rfl)
    | false =>
      rw [Bool.not_false, cond_t]
      have g2 := w2.g 1 rfl
      have hi2 : inB ((kept.length : Nat) : Int) l.length = true := inB_t (by omega) (by omega)
      obtain ⟨h28, s28, w28, n28⟩ := (w2.mv 2 rfl : H h2 (Pt b (.cells (K ++ R) true false 3) :: _)).st (o := 0 + kept.length * 3) [.int .i64 x.v, .int .i64 x.o, .int .i64 x.a] (by rw [List.length_append]; simp; omega)
      simp only [AH.ldI_of (k := .i64) (o := 0) g2 rfl, AH.ldI_of (k := .i64) (o := 0 + 1) g2 rfl, AH.ldI_of (k := .i64) (o := 0 + 2) g2 rfl, Option.bind_some, hi2, cond_t, Int.toNat_natCast, s28]
      refine Ok.le ?_ slices_DeleteFunc_after_Entry_int_after_Entry_int_j2_le
      rw [hw, show IntKind.wrap .i64 (((kept.length : Nat) : Int) + 1) = (((kept ++ [x]).length : Nat) : Int) by rw [wrap64 (by omega) (by omega)]; simp]
      rw [hd, if_neg (by decide)] at hsn
      rw [Nat.zero_add, ← hKl, setL_app (by simp; omega)] at w28
      have hl3 : ([Value.int .i64 x.v, .int .i64 x.o, .int .i64 x.a] : List Value).length = 3 := rfl
      rw [hl3] at w28
      have w29 : H h28 (I (k + 1) :: Pt b (.cells (K ++ encN x ++ R.drop 3) true false 3) :: F) := (w28.u1).rm 2 rfl
      refine ih (k + 1) h28 (K ++ encN x) (R.drop 3) (kept ++ [x]) F (by omega) (by omega) (by simp; omega) hsn (by rw [hK]; simp) (by simp only [List.length_append, List.length_drop, encN_len]; omega) (fun j y h1 h3 r hr3 => ?_) w29
      have h5 := hrd j y (by omega) h3 r hr3
      rw [← h5, List.append_assoc, List.getElem?_append_right (by omega), List.getElem?_append_right (by rw [encN_len]; omega), List.getElem?_drop, List.getElem?_append_right (by omega), encN_len]
      congr 1; omega
end
section
variable {l : List En} {d : Nat → Bool} {I : Nat → Asr} {fid : FuncId} {pre post : List Value}
/-- DeleteFunc -/
theorem deleteF {h : AH} {F : List Asr} {a : Option Addr} {n c : Nat} (hb : hasBody Try.prog fid = true) (cb : Cb l d I fid pre post) (hl : l.length < 1000000) (hn : n = l.length) (w : H h (I 0 :: aOs a n c (l.flatMap encN) :: F)) :
    Ok (C k_slices_DeleteFunc_after_Entry_int_after_Entry_int [.slice a n c, fnV (some (fid, pre, post))] h) fun v h' => v = .slice a (keepF d 0 l).length c ∧ H h' (aOs a (keepF d 0 l).length c ((keepF d 0 l).flatMap encN) :: I l.length :: F) := by
  refine Ok.le ?_ slices_DeleteFunc_after_Entry_int_after_Entry_int_le
  unfold F_slices_DeleteFunc_after_Entry_int_after_Entry_int
  have ho : OwS h 3 a n c (l.flatMap encN) := H.of_up w.u1
  have ix : ∀ {x7 : Int} {Q : Value → AH → Prop}, Ok (slices_IndexFunc_after_Entry_int_after_Entry_int_L1 a n (some (fid, pre, post)) c ((n : Nat) : Int) 0 h) Q → Ok (C k_slices_IndexFunc_after_Entry_int_after_Entry_int [.slice a n c, fnV (some (fid, pre, post))] h) Q := fun k => by
    refine Ok.le ?_ slices_IndexFunc_after_Entry_int_after_Entry_int_le
    exact k
  generalize hcs : l.flatMap encN = cs at ho
  cases ho with
  | nil =>
    have hl0 : l = [] := by
      cases l with
      | nil => rfl
      | cons x l => simp [encN] at hcs
    subst hl0
    refine Ok.bind (Q := fun v h' => v = .int .i64 (-1) ∧ h' = h) ?_ ?_
    · refine ix (x7 := 0) ?_
      refine Ok.le ?_ slices_IndexFunc_after_Entry_int_after_Entry_int_L1_le
      refine Ok.le ?_ slices_IndexFunc_after_Entry_int_after_Entry_int_j4_le
      rw [dec_f (by simp), cond_f]
      refine Ok.le ?_ slices_IndexFunc_after_Entry_int_after_Entry_int_j1_le
      exact Ok.some ⟨rfl, rfl⟩
    · rintro _ h' ⟨rfl, rfl⟩
      simp only [asI_i64, Option.bind_some, decide_true, cond_t]
      exact Ok.some ⟨rfl, w.u1⟩
  | @mk b _ m _ rest hb1 hl1 hr1 hn1 =>
    subst hn
    have w2 : H h (I 0 :: Pt b (.cells (cs ++ rest) true false 3) :: F) := (up_pt w.u1 hb1).u1
    have hrd : ∀ k x, l[k]? = some x → ∀ r, r < 3 → (cs ++ rest)[k * 3 + r]? = (encN x)[r]? := fun k x hx r hr => by
      have hk := (List.getElem?_eq_some_iff.mp hx).1
      rw [List.getElem?_append_left (by omega), ← hcs]
      have := flat_get (enc := encN) encN_len hr l k
      rw [this, hx]; rfl
    refine Ok.bind (ix (x7 := 0) (ix_loop hb cb hl hrd l.length 0 h F rfl (by omega) w2)) ?_
    rintro _ h3 ⟨q, _, q1, q2, q3⟩
    rcases q3 with ⟨rfl, rfl, w3⟩ | ⟨q4, q5, rfl, w3⟩
    · simp only [asI_i64, Option.bind_some, decide_true, cond_t]
      have : keepF d 0 l = l := keepF_all d l 0 fun j h1 h2 => q2 j h1 (by omega)
      rw [this, hcs]
      exact Ok.some ⟨rfl, pt_os w3.u1 hl1 hr1⟩
    · simp only [asI_i64, Option.bind_some]
      rw [dec_f (by omega), cond_f]
      refine Ok.le ?_ slices_DeleteFunc_after_Entry_int_after_Entry_int_j4_le
      rw [show IntKind.wrap .i64 (((q : Nat) : Int) + 1) = ((q + 1 : Nat) : Int) by rw [wrap64 (by omega) (by omega)]; omega]
      have hlt : (l.take q).length = q := by rw [List.length_take]; omega
      have hkq : keepF d 0 (l.take q) = l.take q := keepF_all d _ 0 fun j h1 h2 => q2 j h1 (by omega)
      obtain ⟨y, hy⟩ : ∃ y, l[q]? = some y := ⟨_, List.getElem?_eq_getElem q4⟩
      have hkq1 : keepF d 0 (l.take (q + 1)) = l.take q := by
        rw [List.take_add_one, hy]
        show keepF d 0 (l.take q ++ [y]) = _
        rw [keepF_snoc, hlt, Nat.zero_add, q5, if_pos rfl, List.append_nil, hkq]
      have hsp : cs ++ rest = (l.take q).flatMap encN ++ ((l.drop q).flatMap encN ++ rest) := by
        rw [← hcs, ← List.append_assoc, ← List.flatMap_append, List.take_append_drop]
      rw [hsp] at w3 hrd
      have key := df_loop (m := m) hb cb hl (l.length - (q + 1)) (q + 1) h3 _ _ (l.take q) F rfl (by omega) (by omega) hkq1 rfl (by rw [← hsp, List.length_append, hl1, hr1, Nat.add_mul]) (fun j x h1 h2 r hr => hrd j x h2 r hr) w3
      rw [hlt] at key
      exact key
end
end Go.Lg.Try

namespace Go.Lg.Try
set_option linter.unusedVariables false
set_option linter.unusedSimpArgs false
open Go Go.Proofs
abbrev ptrN (s : Nat) : Value := .pointer (some ⟨s, 0, none⟩)
theorem osLive {h : AH} {a : Option Addr} {n c : Nat} {cs : List Value} (ho : OwS h 3 a n c cs) : ∀ b, blk a b → (h.get b).isSome = true ∧ b < h.n := by
  cases ho with
  | nil => intro b hb; cases hb
  | mk hb hl hr hn => rintro b rfl; exact ⟨by rw [hb]; rfl, hn⟩
theorem osSame {h h' : AH} {a : Option Addr} {n c : Nat} {cs : List Value} (ho : OwS h 3 a n c cs) (hg : ∀ b, blk a b → h'.get b = h.get b ∧ b < h'.n) : OwS h' 3 a n c cs := by
  cases ho with
  | nil => exact .nil
  | mk hb hl hr hn => exact .mk (by rw [(hg _ rfl).1]; exact hb) hl hr (hg _ rfl).2
/-- append of one element -/
theorem appN {h : AH} {by_ : Nat} {a : Option Addr} {n c : Nat} {cs xs : List Value} {F : List Asr} (hh : H h (aOs a n c cs :: F)) {c' : Nat} (hx : xs.length = 3) (hr : (n + 1) * by_ ≤ 1099511627776) (hr2 : n + 1 ≤ 1099511627776) :
    ∃ a' h', appE 3 by_ (.slice a n c) (.slice (some ⟨h.n, 0, none⟩) 1 c') (h.push (.cells xs false false 3)) = some (.slice a' (n + 1) opn, h') ∧ H h' (aOs a' (n + 1) opn (cs ++ xs) :: F) := by
  have ho : OwS h 3 a n c cs := H.of_up hh
  have lv := osLive ho
  have ho1 : OwS (h.push (.cells xs false false 3)) 3 a n c cs := ho.fr (Fr.push _ _ _ : Fr [] h _) (fun b _ => by simp)
  obtain ⟨a', h', e1, o1, n1, g1, l1⟩ := ho1.app (by_ := by_) (newCells_one (c := c') (AH.get_push_eq h (.cells xs false false 3)) hx) hx (by decide) hr hr2
  rw [AH.n_push] at n1
  refine ⟨_, h', e1, ?_⟩
  refine H.run hh (by omega) (fun b hb hn => ?_) (fun b hb => ?_) (fun b hb => osLive o1 b hb) fun h'' hg => osSame o1 hg
  · rw [g1 b (by rw [AH.n_push]; omega) hn, AH.get_push_ne _ (by omega)]
  · rcases l1 b hb with q | q
    · exact .inl q
    · rw [AH.n_push] at q; exact .inr (by omega)
/-- how many of an owner's -/
def cntO (o : Int) (l : List En) : Nat := (l.filter fun x => decide (x.o = o)).length
theorem cntO_le (o : Int) (l : List En) : cntO o l ≤ l.length := List.length_filter_le _ _
theorem cntO_snoc (o : Int) (l : List En) (x : En) : cntO o (l ++ [x]) = cntO o l + (if x.o = o then 1 else 0) := by
  unfold cntO
  rw [List.filter_append, List.length_append]
  by_cases c : x.o = o <;> simp [c]
/-- is the k-th one taken? -/
def dO (o keep : Int) (l : List En) (k : Nat) : Bool := match l[k]? with
  | some x => decide (x.o = o) && decide (keep - (cntO o (l.take k) : Nat) - 1 < 0)
  | none => false
/-- what is taken -/
def outO (o keep : Int) (l : List En) (k : Nat) : List En := keepF (fun j => !dO o keep l j) 0 (l.take k)
theorem outO_succ {o keep : Int} {l : List En} {k : Nat} {x : En} (hx : l[k]? = some x) : outO o keep l (k + 1) = outO o keep l k ++ (if dO o keep l k then [x] else []) := by
  have hk := (List.getElem?_eq_some_iff.mp hx).1
  unfold outO
  rw [List.take_add_one, hx]
  show keepF _ 0 (l.take k ++ [x]) = _
  rw [keepF_snoc, List.length_take, Nat.min_eq_left (by omega), Nat.zero_add]
  cases dO o keep l k <;> rfl
theorem outO_le (o keep : Int) (l : List En) (k : Nat) : (outO o keep l k).length ≤ k := Nat.le_trans (keepF_le _ _ _) (by rw [List.length_take]; omega)
/-- the three boxes -/
def IO (o keep : Int) (l : List En) (ob kb tb k : Nat) : Asr := fun m => ∃ a : Option Addr, ∃ c : Nat, Lay [Cs ob [.int .i64 o] 1, Cs kb [.int .i64 (keep - (cntO o (l.take k) : Nat))] 1, Cs tb [.slice a (outO o keep l k).length c] 1, aOs a (outO o keep l k).length c ((outO o keep l k).flatMap encN)] m
section
variable {o keep : Int} {l : List En} {ob kb tb : Nat}
theorem own_cb (hk0 : 0 ≤ keep) (hk1 : keep < 9223372036854775808) (hl : l.length < 1000000) : Cb l (dO o keep l) (IO o keep l ob kb tb) k_after_Queue_int_own_1 [] [ptrN ob, ptrN kb, ptrN tb] := by
  intro k x h G hx w
  have hkl := (List.getElem?_eq_some_iff.mp hx).1
  obtain ⟨a, w⟩ := w.ex
  obtain ⟨c, w⟩ := w.ex
  have w0 : H h (Cs ob [.int .i64 o] 1 :: Cs kb [.int .i64 (keep - (cntO o (l.take k) : Nat))] 1 :: Cs tb [.slice a (outO o keep l k).length c] 1 :: aOs a (outO o keep l k).length c ((outO o keep l k).flatMap encN) :: G) := w.opn_
  have hcl : cntO o (l.take k) ≤ k := Nat.le_trans (cntO_le _ _) (by rw [List.length_take]; omega)
  have hsn : cntO o (l.take (k + 1)) = cntO o (l.take k) + (if x.o = o then 1 else 0) := by
    rw [List.take_add_one, hx]; exact cntO_snoc _ _ _
  have hout := outO_succ (o := o) (keep := keep) hx
  have hd : dO o keep l k = (decide (x.o = o) && decide (keep - (cntO o (l.take k) : Nat) - 1 < 0)) := by unfold dO; rw [hx]
  have hol := outO_le o keep l k
  refine Ok.le ?_ after_Queue_int_own_1_le
  unfold F_after_Queue_int_own_1
  have w8 := w0.push (.cells [.int .i64 x.v, .int .i64 x.o, .int .i64 x.a] false false 3)
  generalize hh8 : h.push (.cells [.int .i64 x.v, .int .i64 x.o, .int .i64 x.a] false false 3) = h8 at w8
  simp only [hh8, Option.bind_some, AH.ldI_of (k := .i64) (o := 0 + 1) w8.get rfl, AH.ldI_of (k := .i64) (o := 0) (w8.g 1 rfl) rfl]
  have fin : ∀ {h' : AH} {a' : Option Addr} {c' : Nat} {b : Bool}, dO o keep l k = b → H h' (Cs ob [.int .i64 o] 1 :: Cs kb [.int .i64 (keep - (cntO o (l.take (k + 1)) : Nat))] 1 :: Cs tb [.slice a' (outO o keep l (k + 1)).length c'] 1 :: aOs a' (outO o keep l (k + 1)).length c' ((outO o keep l (k + 1)).flatMap encN) :: G) →
      Ok (some (.bool b, h')) fun v h' => v = .bool (dO o keep l k) ∧ H h' (IO o keep l ob kb tb (k + 1) :: G) := fun {h' a' c' b} e w9 => by
    refine Ok.some ⟨by rw [e], ?_⟩
    have w10 := H.cls (L := [Cs ob [.int .i64 o] 1, Cs kb [.int .i64 (keep - (cntO o (l.take (k + 1)) : Nat))] 1, Cs tb [.slice a' (outO o keep l (k + 1)).length c'] 1, aOs a' (outO o keep l (k + 1)).length c' ((outO o keep l (k + 1)).flatMap encN)]) w9
    exact w10.imp fun m hm => ⟨a', c', hm⟩
  by_cases c1 : x.o = o
  · rw [dec_t c1, Bool.not_true, cond_f]
    refine Ok.le ?_ after_Queue_int_own_1_j2_le
    obtain ⟨h16, s16, w16, n16⟩ := (w8.mv 2 rfl : H h8 (Cs kb [.int .i64 (keep - (cntO o (l.take k) : Nat))] 1 :: _)).st1 (.int .i64 (keep - (cntO o (l.take k) : Nat) - 1))
    have hwr : IntKind.wrap .i64 (keep - (cntO o (l.take k) : Nat) - 1) = keep - (cntO o (l.take k) : Nat) - 1 := wrap64 (by omega) (by omega)
    simp only [Option.bind_some, AH.ldI_of (k := .i64) (o := 0) (w8.g 2 rfl) rfl, hwr, s16, AH.ldI_of (k := .i64) (o := 0) w16.get rfl]
    rw [if_pos c1] at hsn
    have hkv : keep - (cntO o (l.take k) : Nat) - 1 = keep - (cntO o (l.take (k + 1)) : Nat) := by rw [hsn]; omega
    have w17 : H h16 (aOs a (outO o keep l k).length c ((outO o keep l k).flatMap encN) :: Cs ob [.int .i64 o] 1 :: Cs kb [.int .i64 (keep - (cntO o (l.take (k + 1)) : Nat))] 1 :: Cs tb [.slice a (outO o keep l k).length c] 1 :: Cs h.n [.int .i64 x.v, .int .i64 x.o, .int .i64 x.a] 3 :: G) := by
      rw [← hkv]; exact w16.pm [4, 2, 0, 3, 1]
    by_cases c2 : keep - (cntO o (l.take k) : Nat) - 1 < 0
    · rw [dec_t c2, Bool.not_true, cond_f]
      refine Ok.le ?_ after_Queue_int_own_1_j1_le
      rw [decide_eq_true c1, decide_eq_true c2, Bool.and_self] at hd
      rw [hd, if_pos rfl] at hout
      have gx := w17.g 4 rfl
      obtain ⟨a', h26, e26, w26⟩ := appN (by_ := 24) w17 (c' := 1) (encN_len x) (by omega) (by omega)
      have e26' : appE 3 24 (.slice a (outO o keep l k).length c) (.slice (some ⟨h16.n, 0, none⟩) 1 1) (h16.push (.cells [.int .i64 x.v, .int .i64 x.o, .int .i64 x.a] false false 3)) = some (.slice a' ((outO o keep l k).length + 1) opn, h26) := e26
      obtain ⟨h29, s29, w29, n29⟩ := (w26.mv 3 rfl : H h26 (Cs tb [.slice a (outO o keep l k).length c] 1 :: _)).st1 (.slice a' ((outO o keep l k).length + 1) opn)
      simp only [Option.bind_some, AH.ldS_of (o := 0) (w17.g 3 rfl) rfl, AH.ldI_of (k := .i64) (o := 0) gx rfl, AH.ldI_of (k := .i64) (o := 0 + 1) gx rfl, AH.ldI_of (k := .i64) (o := 0 + 2) gx rfl, e26', asS_s, s29]
      refine fin (a' := a') (c' := opn) hd ?_
      have hol2 : (outO o keep l (k + 1)).length = (outO o keep l k).length + 1 := by rw [hout]; simp
      have hof : (outO o keep l (k + 1)).flatMap encN = (outO o keep l k).flatMap encN ++ encN x := by rw [hout]; simp
      rw [hol2, hof]
      exact (w29.pm [2, 3, 0, 1, 4]).rm 4 rfl
    · rw [dec_f c2, Bool.not_false, cond_t]
      rw [decide_eq_false c2, Bool.and_false] at hd
      rw [hd, if_neg (by decide), List.append_nil] at hout
      refine fin (a' := a) (c' := c) hd ?_
      rw [hout]
      exact (w17.pm [1, 2, 3, 0, 4]).rm 4 rfl
  · rw [dec_f c1, Bool.not_false, cond_t]
    rw [decide_eq_false c1, Bool.false_and] at hd
    rw [hd, if_neg (by decide), List.append_nil] at hout
    rw [if_neg c1, Nat.add_zero] at hsn
    refine fin (a' := a) (c' := c) hd ?_
    rw [hout, hsn]
    exact w8.drop
end
/-- the queue's block -/
abbrev Qb (q : Nat) (a1 : Option Addr) (n1 c1 : Nat) (a2 : Option Addr) (n2 c2 : Nat) : Asr := Cs q [.bool true, .slice a1 n1 c1, .slice a2 n2 c2] 3
section
variable {o keep : Int} {l : List En} {q : Nat} {a1 a2 : Option Addr} {c1 n2 c2 : Nat} {F : List Asr} {h : AH}
/-- what stays -/
def stayO (o keep : Int) (l : List En) : List En := keepF (dO o keep l) 0 l
theorem own_ok (hk0 : 0 ≤ keep) (hk1 : keep < 9223372036854775808) (hl : l.length < 1000000) (w : H h (Qb q a1 l.length c1 a2 n2 c2 :: aOs a1 l.length c1 (l.flatMap encN) :: F)) :
    Ok (C k_after_Queue_int_own [ptrN q, .int .i64 o, .int .i64 keep] h) fun v h' => ∃ a c, v = .slice a (outO o keep l l.length).length c ∧
      H h' (aOs a (outO o keep l l.length).length c ((outO o keep l l.length).flatMap encN) :: Qb q a1 (stayO o keep l).length c1 a2 n2 c2 :: aOs a1 (stayO o keep l).length c1 ((stayO o keep l).flatMap encN) :: F) := by
  refine Ok.le ?_ after_Queue_int_own_le
  unfold F_after_Queue_int_own
  have w5 := w.push (.cells [.int .i64 o] false false 1)
  generalize hh5 : h.push (.cells [.int .i64 o] false false 1) = h5 at w5 ⊢
  have w6 := w5.push (.cells [.int .i64 keep] false false 1)
  generalize hh6 : h5.push (.cells [.int .i64 keep] false false 1) = h6 at w6
  have w7 := w6.push (.cells [.slice none 0 0] false false 1)
  generalize hh7 : h6.push (.cells [.slice none 0 0] false false 1) = h7 at w7
  simp only [hh6, hh7, Option.bind_some, AH.ldS_of (o := 0 + 1) (w7.g 3 rfl) rfl]
  have hb : hasBody Try.prog k_after_Queue_int_own_1 = true := by kernel_rfl
  have w8 : H h7 (IO o keep l h.n h5.n h6.n 0 :: aOs a1 l.length c1 (l.flatMap encN) :: Qb q a1 l.length c1 a2 n2 c2 :: F) := by
    have w9 : H h7 (Cs h.n [.int .i64 o] 1 :: Cs h5.n [.int .i64 keep] 1 :: Cs h6.n [.slice none 0 0] 1 :: aOs none 0 0 [] :: aOs a1 l.length c1 (l.flatMap encN) :: Qb q a1 l.length c1 a2 n2 c2 :: F) :=
      (os_nil w7).pm [3, 2, 1, 0, 5, 4]
    have w10 := H.cls (L := [Cs h.n [.int .i64 o] 1, Cs h5.n [.int .i64 keep] 1, Cs h6.n [.slice none 0 0] 1, aOs none 0 0 []]) w9
    refine w10.imp fun m hm => ⟨none, 0, ?_⟩
    have e1 : cntO o (l.take 0) = 0 := rfl
    have e2 : outO o keep l 0 = [] := rfl
    rw [e1, e2]
    simpa using hm
  refine Ok.bind (deleteF hb (own_cb hk0 hk1 hl) hl rfl w8) ?_
  rintro _ h10 ⟨rfl, w10⟩
  obtain ⟨a, w11⟩ := (w10.u1).ex
  obtain ⟨c, w11⟩ := w11.ex
  have w12 : H h10 (Cs h.n [.int .i64 o] 1 :: Cs h5.n [.int .i64 (keep - (cntO o (l.take l.length) : Nat))] 1 :: Cs h6.n [.slice a (outO o keep l l.length).length c] 1 :: aOs a (outO o keep l l.length).length c ((outO o keep l l.length).flatMap encN) :: aOs a1 (stayO o keep l).length c1 ((stayO o keep l).flatMap encN) :: Qb q a1 l.length c1 a2 n2 c2 :: F) := w11.opn_
  obtain ⟨h13, s13, w13, n13⟩ := (w12.mv 5 rfl : H h10 (Qb q a1 l.length c1 a2 n2 c2 :: _)).st (o := 0 + 1) [.slice a1 (stayO o keep l).length c1] (by simp)
  have s13' : h10.st q (0 + 1) [.slice a1 (keepF (dO o keep l) 0 l).length c1] = some h13 := s13
  have w14 : H h13 (Qb q a1 (stayO o keep l).length c1 a2 n2 c2 :: Cs h.n [.int .i64 o] 1 :: Cs h5.n [.int .i64 (keep - (cntO o (l.take l.length) : Nat))] 1 :: Cs h6.n [.slice a (outO o keep l l.length).length c] 1 :: aOs a (outO o keep l l.length).length c ((outO o keep l l.length).flatMap encN) :: aOs a1 (stayO o keep l).length c1 ((stayO o keep l).flatMap encN) :: F) := w13
  simp only [asS_s, Option.bind_some, s13', AH.ldS_of (o := 0) (w14.g 3 rfl) rfl]
  exact Ok.some ⟨a, c, rfl, (w14.pm [4, 0, 5, 1, 2, 3]).rm 3 rfl |>.rm 3 rfl |>.rm 3 rfl⟩
end
end Go.Lg.Try

namespace Go.Lg.Try
set_option linter.unusedVariables false
set_option linter.unusedSimpArgs false
open Go Go.Proofs
def cmpV (x y : Int) : Int := if x < y then -1 else if y < x then 1 else 0
theorem cmp64 (x y : Int) (h : AH) : C k_cmp_Compare_int64 [.int .i64 x, .int .i64 y] h = some (.int .i64 (cmpV x y), h) := by
  refine cmp_Compare_int64_le _ ?_
  have nn : ∀ z, C k_cmp_isNaN_int64 [.int .i64 z] h = some (.bool false, h) := fun z => by
    refine cmp_isNaN_int64_le _ ?_
    simp [F_cmp_isNaN_int64]
  simp only [F_cmp_Compare_int64, nn, Option.bind_some, asB_b, cond_f]
  refine cmp_Compare_int64_j4_le _ ?_
  rw [cond_f]
  refine cmp_Compare_int64_j3_le _ ?_
  unfold cmpV
  by_cases c : x < y
  · rw [dec_t c, cond_t, if_pos c]
  · rw [dec_f c, cond_f, if_neg c]
    refine cmp_Compare_int64_j2_le _ ?_
    by_cases d : y < x
    · rw [dec_t d, cond_t, if_pos d]
    · rw [dec_f d, cond_f, if_neg d]
      exact cmp_Compare_int64_j1_le _ rfl
theorem cmpV_ge {x y : Int} (h : y ≤ x) : ¬ cmpV x y < 0 := by
  unfold cmpV
  rw [if_neg (by omega)]
  split <;> omega
theorem cmpN {h : AH} {F : List Asr} (w : H h F) (x y : En) : Ok (C k_after_Queue_int_Commit_1 [agN x, agN y] h) fun v h' => v = .int .i64 (cmpV x.v y.v) ∧ H h' F := by
  refine Ok.le ?_ after_Queue_int_Commit_1_le
  unfold F_after_Queue_int_Commit_1
  have w1 := w.push (.cells [.int .i64 x.v, .int .i64 x.o, .int .i64 x.a] false false 3)
  generalize hh1 : h.push (.cells [.int .i64 x.v, .int .i64 x.o, .int .i64 x.a] false false 3) = h1 at w1 ⊢
  have w2 := w1.push (.cells [.int .i64 y.v, .int .i64 y.o, .int .i64 y.a] false false 3)
  generalize hh2 : h1.push (.cells [.int .i64 y.v, .int .i64 y.o, .int .i64 y.a] false false 3) = h2 at w2
  simp only [hh2, AH.ldI_of (k := .i64) (o := 0 + 0) (w2.g 1 rfl) rfl, AH.ldI_of (k := .i64) (o := 0 + 0) (w2.g 0 rfl) rfl, Option.bind_some, cmp64, asI_i64]
  exact Ok.some ⟨rfl, w2.drop.drop⟩
/-- the middle -/
theorem midE {x y : Nat} (hx : x < 1000000000) (hy : y < 1000000000) : IntKind.wrap .i64 ((IntKind.wrap .u64 (IntKind.wrap .i64 (((x : Nat) : Int) + ((y : Nat) : Int)))).fdiv (2 ^ (min (1 : Int).toNat 64))) = (((x + y) / 2 : Nat) : Int) := by
  have e1 : IntKind.wrap .i64 (((x : Nat) : Int) + ((y : Nat) : Int)) = ((x + y : Nat) : Int) := by rw [wrap64 (by omega) (by omega)]; omega
  rw [e1]
  have e2 : IntKind.wrap .u64 ((x + y : Nat) : Int) = ((x + y : Nat) : Int) := by
    show ((x + y : Nat) : Int) % 18446744073709551616 = _
    omega
  rw [e2]
  have e3 : ((2 : Int) ^ (min (1 : Int).toNat 64)) = 2 := rfl
  rw [e3]
  have e4 : (((x + y : Nat) : Int)).fdiv 2 = (((x + y) / 2 : Nat) : Int) := by
    rw [Int.fdiv_eq_ediv_of_nonneg _ (by decide)]; omega
  rw [e4, wrap64 (by omega) (by omega)]
theorem wadd {x y : Nat} (hx : x < 1000000000) (hy : y < 1000000000) : IntKind.wrap .i64 (((x : Nat) : Int) + ((y : Nat) : Int)) = ((x + y : Nat) : Int) := by rw [wrap64 (by omega) (by omega)]; omega
theorem wsub {x y : Nat} (hx : x < 1000000000) (hy : y ≤ x) : IntKind.wrap .i64 (((x : Nat) : Int) - ((y : Nat) : Int)) = ((x - y : Nat) : Int) := by rw [wrap64 (by omega) (by omega)]; omega
theorem wadd1 {x : Nat} (hx : x < 1000000000) : IntKind.wrap .i64 (((x : Nat) : Int) + 1) = ((x + 1 : Nat) : Int) := wadd (y := 1) hx (by decide)
theorem wsub1 {x : Nat} (hx : x < 1000000000) (h1 : 1 ≤ x) : IntKind.wrap .i64 (((x : Nat) : Int) - 1) = ((x - 1 : Nat) : Int) := wsub (y := 1) hx h1
theorem asTu_nil : asTu (.tuple #[]) = some [] := rfl
abbrev fC : Option (FuncId × List Value × List Value) := some (k_after_Queue_int_Commit_1, [], [])
section
variable {b c : Nat} {l : List En} {cells : List Value}
abbrev HR (l : List En) (cells : List Value) : Prop := ∀ k x, l[k]? = some x → ∀ r, r < 3 → cells[k * 3 + r]? = (encN x)[r]?
abbrev Srt (l : List En) : Prop := ∀ (i j : Nat) (x y : En), i ≤ j → l[i]? = some x → l[j]? = some y → x.v ≤ y.v
theorem ld3 (hrd : HR l cells) {h : AH} (hg : h.get b = some (.cells cells true false 3)) {k : Nat} {x : En} (hx : l[k]? = some x) :
    h.ldI .i64 b (0 + k * 3) = some x.v ∧ h.ldI .i64 b (0 + k * 3 + 1) = some x.o ∧ h.ldI .i64 b (0 + k * 3 + 2) = some x.a :=
  ⟨AH.ldI_of hg (lk (r := 0) (hrd k x hx) (by decide) (by omega) rfl), AH.ldI_of hg (lk (r := 1) (hrd k x hx) (by decide) (by omega) rfl), AH.ldI_of hg (lk (r := 2) (hrd k x hx) (by decide) (by omega) rfl)⟩
def QT (b : Nat) (cells : List Value) (F : List Asr) : Value → AH → Prop := fun v h' => v = .tuple #[] ∧ H h' (Pt b (.cells cells true false 3) :: F)
theorem hasC : hasBody Try.prog k_after_Queue_int_Commit_1 = true := by kernel_rfl
theorem ins_loop (hl : l.length < 100000000) (hrd : HR l cells) (hs : Srt l) {a e : Nat} (he : e ≤ l.length) {F : List Asr} : ∀ (n i : Nat) (h : AH), e - i = n → a < i → i ≤ l.length → H h (Pt b (.cells cells true false 3) :: F) →
    Ok (slices_insertionSortCmpFunc_after_Entry_int_L1 (e : Nat) (a : Nat) (some ⟨b, 0, none⟩) l.length fC c (i : Nat) h) (QT b cells F) := by
  intro n
  induction n with
  | zero =>
    intro i h hn hai hi w
    refine Ok.le ?_ slices_insertionSortCmpFunc_after_Entry_int_L1_le
    rw [dec_f (by omega), cond_f]
    exact Ok.some ⟨rfl, w⟩
  | succ n ih =>
    intro i h hn hai hi w
    obtain ⟨x, hx⟩ : ∃ x, l[i]? = some x := ⟨_, List.getElem?_eq_getElem (by omega)⟩
    obtain ⟨y, hy⟩ : ∃ y, l[i - 1]? = some y := ⟨_, List.getElem?_eq_getElem (by omega)⟩
    refine Ok.le ?_ slices_insertionSortCmpFunc_after_Entry_int_L1_le
    rw [dec_t (by omega), cond_t]
    refine Ok.le ?_ slices_insertionSortCmpFunc_after_Entry_int_j4_le
    refine Ok.le ?_ slices_insertionSortCmpFunc_after_Entry_int_L2_le
    rw [dec_t (by omega), cond_t, wsub1 (by omega) (by omega)]
    obtain ⟨x1, x2, x3⟩ := ld3 hrd w.get hx
    obtain ⟨y1, y2, y3⟩ := ld3 hrd w.get hy
    have b1 : inB ((i : Nat) : Int) l.length = true := inB_t (by omega) (by omega)
    have b2 : inB ((i - 1 : Nat) : Int) l.length = true := inB_t (by omega) (by omega)
    simp only [Option.bind_some, b1, b2, cond_t, Int.toNat_natCast, x1, x2, x3, y1, y2, y3, fnQ_sm, hasC]
    refine Ok.bind (cmpN w x y) ?_
    rintro _ h2 ⟨rfl, w2⟩
    simp only [asI_i64, Option.bind_some]
    rw [dec_f (cmpV_ge (hs (i - 1) i y x (by omega) hy hx)), cond_f]
    refine Ok.le ?_ slices_insertionSortCmpFunc_after_Entry_int_j1_le
    rw [wadd1 (by omega)]
    exact ih (i + 1) h2 (by omega) (by omega) (by omega) w2
theorem ins_ok (hl : l.length < 100000000) (hrd : HR l cells) (hs : Srt l) {a e : Nat} (ha : a < l.length) (he : e ≤ l.length) {F : List Asr} {h : AH} (w : H h (Pt b (.cells cells true false 3) :: F)) :
    Ok (C k_slices_insertionSortCmpFunc_after_Entry_int [.slice (some ⟨b, 0, none⟩) l.length c, .int .i64 (a : Nat), .int .i64 (e : Nat), fnV fC] h) (QT b cells F) := by
  refine Ok.le ?_ slices_insertionSortCmpFunc_after_Entry_int_le
  unfold F_slices_insertionSortCmpFunc_after_Entry_int
  rw [wadd1 (by omega)]
  exact ins_loop hl hrd hs he _ _ h rfl (by omega) (by omega) w
/-- one element ahead: nothing goes in front of it -/
theorem sm_L5 (hl : l.length < 100000000) (hrd : HR l cells) (hs : Srt l) {a m e : Nat} (ham : m = a + 1) (he : e ≤ l.length) {F : List Asr} : ∀ (n j : Nat) (h : AH), j - m = n → m ≤ j → j ≤ e → H h (Pt b (.cells cells true false 3) :: F) →
    Ok (slices_symMergeCmpFunc_after_Entry_int_L5 (some ⟨b, 0, none⟩) l.length (a : Nat) fC c (m : Nat) (j : Nat) h) (QT b cells F) := by
  intro n
  induction n using Nat.strongRecOn with
  | _ n ih =>
  intro j h hn hmj hje w
  refine Ok.le ?_ slices_symMergeCmpFunc_after_Entry_int_L5_le
  refine Ok.le ?_ slices_symMergeCmpFunc_after_Entry_int_j22_le
  by_cases c0 : m < j
  · rw [dec_t (by omega), cond_t]
    refine Ok.le ?_ slices_symMergeCmpFunc_after_Entry_int_j21_le
    rw [midE (by omega) (by omega)]
    generalize hq : (m + j) / 2 = q
    have hq1 : m ≤ q := by omega
    have hq2 : q < j := by omega
    obtain ⟨x, hx⟩ : ∃ x, l[q]? = some x := ⟨_, List.getElem?_eq_getElem (by omega)⟩
    obtain ⟨y, hy⟩ : ∃ y, l[a]? = some y := ⟨_, List.getElem?_eq_getElem (by omega)⟩
    obtain ⟨x1, x2, x3⟩ := ld3 hrd w.get hx
    obtain ⟨y1, y2, y3⟩ := ld3 hrd w.get hy
    have b1 : inB ((q : Nat) : Int) l.length = true := inB_t (by omega) (by omega)
    have b2 : inB ((a : Nat) : Int) l.length = true := inB_t (by omega) (by omega)
    simp only [Option.bind_some, b1, b2, cond_t, Int.toNat_natCast, x1, x2, x3, y1, y2, y3, fnQ_sm, hasC]
    refine Ok.bind (cmpN w x y) ?_
    rintro _ h2 ⟨rfl, w2⟩
    simp only [asI_i64, Option.bind_some]
    rw [dec_f (cmpV_ge (hs a q y x (by omega) hy hx)), cond_f]
    exact ih (q - m) (by omega) q h2 rfl hq1 (by omega) w2
  · rw [dec_f (by omega), cond_f]
    refine Ok.le ?_ slices_symMergeCmpFunc_after_Entry_int_j20_le
    refine Ok.le ?_ slices_symMergeCmpFunc_after_Entry_int_L4_le
    refine Ok.le ?_ slices_symMergeCmpFunc_after_Entry_int_j19_le
    rw [wsub1 (by omega) (by omega), dec_f (by omega), cond_f]
    refine Ok.le ?_ slices_symMergeCmpFunc_after_Entry_int_j16_le
    exact Ok.some ⟨rfl, w⟩
/-- one element behind: it stays there -/
theorem sm_L3 (hl : l.length < 100000000) (hrd : HR l cells) (hs : Srt l) {m : Nat} (hm : m < l.length) {F : List Asr} : ∀ (n i : Nat) (h : AH), m - i = n → i ≤ m → H h (Pt b (.cells cells true false 3) :: F) →
    Ok (slices_symMergeCmpFunc_after_Entry_int_L3 (some ⟨b, 0, none⟩) (m : Nat) l.length fC c (i : Nat) (m : Nat) h) (QT b cells F) := by
  intro n
  induction n using Nat.strongRecOn with
  | _ n ih =>
  intro i h hn him w
  refine Ok.le ?_ slices_symMergeCmpFunc_after_Entry_int_L3_le
  refine Ok.le ?_ slices_symMergeCmpFunc_after_Entry_int_j14_le
  by_cases c0 : i < m
  · rw [dec_t (by omega), cond_t]
    refine Ok.le ?_ slices_symMergeCmpFunc_after_Entry_int_j13_le
    rw [midE (by omega) (by omega)]
    generalize hq : (i + m) / 2 = q
    have hq1 : i ≤ q := by omega
    have hq2 : q < m := by omega
    obtain ⟨x, hx⟩ : ∃ x, l[m]? = some x := ⟨_, List.getElem?_eq_getElem (by omega)⟩
    obtain ⟨y, hy⟩ : ∃ y, l[q]? = some y := ⟨_, List.getElem?_eq_getElem (by omega)⟩
    obtain ⟨x1, x2, x3⟩ := ld3 hrd w.get hx
    obtain ⟨y1, y2, y3⟩ := ld3 hrd w.get hy
    have b1 : inB ((m : Nat) : Int) l.length = true := inB_t (by omega) (by omega)
    have b2 : inB ((q : Nat) : Int) l.length = true := inB_t (by omega) (by omega)
    simp only [Option.bind_some, b1, b2, cond_t, Int.toNat_natCast, x1, x2, x3, y1, y2, y3, fnQ_sm, hasC]
    refine Ok.bind (cmpN w x y) ?_
    rintro _ h2 ⟨rfl, w2⟩
    simp only [asI_i64, Option.bind_some]
    rw [dec_f (cmpV_ge (hs q m y x (by omega) hy hx)), Bool.not_false, cond_t, wadd1 (by omega)]
    exact ih (m - (q + 1)) (by omega) (q + 1) h2 rfl (by omega) w2
  · rw [dec_f (by omega), cond_f]
    obtain rfl : i = m := by omega
    refine Ok.le ?_ slices_symMergeCmpFunc_after_Entry_int_j12_le
    refine Ok.le ?_ slices_symMergeCmpFunc_after_Entry_int_L2_le
    refine Ok.le ?_ slices_symMergeCmpFunc_after_Entry_int_j11_le
    rw [dec_f (by omega), cond_f]
    refine Ok.le ?_ slices_symMergeCmpFunc_after_Entry_int_j8_le
    exact Ok.some ⟨rfl, w⟩
/-- the search in the middle goes to its end -/
theorem sm_L1 (hl : l.length < 100000000) (hrd : HR l cells) (hs : Srt l) {a m e N mid p r : Nat} (hN : N < 1000000000) (hp : p < 1000000000) (hrp : 2 * r ≤ p + 1) {F : List Asr} (K : ∀ h, H h (Pt b (.cells cells true false 3) :: F) → Ok (slices_symMergeCmpFunc_after_Entry_int_j3 (r : Nat) (m : Nat) (N : Nat) (some ⟨b, 0, none⟩) l.length c fC h (a : Nat) (mid : Nat) (e : Nat)) (QT b cells F)) :
    ∀ (n s : Nat) (h : AH), r - s = n → s ≤ r → p < l.length + s → H h (Pt b (.cells cells true false 3) :: F) →
    Ok (slices_symMergeCmpFunc_after_Entry_int_L1 (some ⟨b, 0, none⟩) l.length fC (N : Nat) (mid : Nat) (e : Nat) (m : Nat) (a : Nat) c (s : Nat) (r : Nat) (p : Nat) h) (QT b cells F) := by
  intro n
  induction n using Nat.strongRecOn with
  | _ n ih =>
  intro s h hn hsr hps w
  refine Ok.le ?_ slices_symMergeCmpFunc_after_Entry_int_L1_le
  refine Ok.le ?_ slices_symMergeCmpFunc_after_Entry_int_j5_le
  by_cases c0 : s < r
  · rw [dec_t (by omega), cond_t]
    refine Ok.le ?_ slices_symMergeCmpFunc_after_Entry_int_j4_le
    rw [midE (by omega) (by omega)]
    generalize hq : (s + r) / 2 = q
    have hq1 : s ≤ q := by omega
    have hq2 : q < r := by omega
    rw [wsub (by omega) (by omega)]
    obtain ⟨x, hx⟩ : ∃ x, l[p - q]? = some x := ⟨_, List.getElem?_eq_getElem (by omega)⟩
    obtain ⟨y, hy⟩ : ∃ y, l[q]? = some y := ⟨_, List.getElem?_eq_getElem (by omega)⟩
    obtain ⟨x1, x2, x3⟩ := ld3 hrd w.get hx
    obtain ⟨y1, y2, y3⟩ := ld3 hrd w.get hy
    have b1 : inB ((p - q : Nat) : Int) l.length = true := inB_t (by omega) (by omega)
    have b2 : inB ((q : Nat) : Int) l.length = true := inB_t (by omega) (by omega)
    simp only [Option.bind_some, b1, b2, cond_t, Int.toNat_natCast, x1, x2, x3, y1, y2, y3, fnQ_sm, hasC]
    refine Ok.bind (cmpN w x y) ?_
    rintro _ h2 ⟨rfl, w2⟩
    simp only [asI_i64, Option.bind_some]
    rw [dec_f (cmpV_ge (hs q (p - q) y x (by omega) hy hx)), Bool.not_false, cond_t, wadd1 (by omega)]
    exact ih (r - (q + 1)) (by omega) (q + 1) h2 rfl (by omega) (by omega) w2
  · rw [dec_f (by omega), cond_f]
    obtain rfl : s = r := by omega
    exact K h w
theorem sm_ok (hl : l.length < 100000000) (hrd : HR l cells) (hs : Srt l) {F : List Asr} : ∀ (n a m e : Nat) (h : AH), e - a = n → a < m → m < e → e ≤ l.length → H h (Pt b (.cells cells true false 3) :: F) →
    Ok (C k_slices_symMergeCmpFunc_after_Entry_int [.slice (some ⟨b, 0, none⟩) l.length c, .int .i64 (a : Nat), .int .i64 (m : Nat), .int .i64 (e : Nat), fnV fC] h) (QT b cells F) := by
  intro n
  induction n using Nat.strongRecOn with
  | _ n ih =>
  intro a m e h hn ham hme he w
  refine Ok.le ?_ slices_symMergeCmpFunc_after_Entry_int_le
  unfold F_slices_symMergeCmpFunc_after_Entry_int
  rw [wsub (by omega) (by omega)]
  by_cases c1 : m = a + 1
  · rw [dec_t (by omega), cond_t]
    exact sm_L5 hl hrd hs c1 he _ e h rfl (by omega) (Nat.le_refl _) w
  rw [dec_f (by omega), cond_f]
  refine Ok.le ?_ slices_symMergeCmpFunc_after_Entry_int_j15_le
  rw [wsub (by omega) (by omega)]
  by_cases c2 : e = m + 1
  · rw [dec_t (by omega), cond_t]
    exact sm_L3 hl hrd hs (by omega) _ a h rfl (by omega) w
  rw [dec_f (by omega), cond_f]
  refine Ok.le ?_ slices_symMergeCmpFunc_after_Entry_int_j7_le
  rw [midE (by omega) (by omega)]
  generalize hq : (a + e) / 2 = q
  have hq1 : a < q := by omega
  have hq2 : q < e := by omega
  rw [wadd (by omega) (by omega)]
  by_cases c3 : q < m
  · rw [dec_t (by omega), cond_t]
    refine Ok.le ?_ slices_symMergeCmpFunc_after_Entry_int_j6_le
    rw [wsub (by omega) (by omega), wsub1 (by omega) (by omega)]
    refine sm_L1 hl hrd hs (by omega) (by omega) (by omega) (fun h w => ?_) _ (q + m - e) h rfl (by omega) (by omega) w
    refine Ok.le ?_ slices_symMergeCmpFunc_after_Entry_int_j3_le
    rw [dec_t (by omega), cond_t, wsub (by omega) (by omega), dec_f (by omega), cond_f]
    refine Ok.le ?_ slices_symMergeCmpFunc_after_Entry_int_j2_le
    rw [dec_t (by omega), cond_t, dec_f (by omega), cond_f]
    refine Ok.le ?_ slices_symMergeCmpFunc_after_Entry_int_j1_le
    rw [dec_t (by omega), cond_t, dec_t (by omega), cond_t, show q + m - q = m by omega]
    refine Ok.bind (ih (e - q) (by omega) q m e h rfl c3 hme he w) ?_
    rintro _ h2 ⟨rfl, w2⟩
    simp only [asTu_nil, Option.bind_some, List.isEmpty_nil, cond_t]
    exact Ok.some ⟨rfl, w2⟩
  · rw [dec_f (by omega), cond_f]
    refine Ok.le ?_ slices_symMergeCmpFunc_after_Entry_int_j6_le
    rw [wsub1 (by omega) (by omega)]
    refine sm_L1 hl hrd hs (by omega) (by omega) (by omega) (fun h w => ?_) _ a h rfl (by omega) (by omega) w
    refine Ok.le ?_ slices_symMergeCmpFunc_after_Entry_int_j3_le
    have J1 : ∀ h, H h (Pt b (.cells cells true false 3) :: F) → Ok (slices_symMergeCmpFunc_after_Entry_int_j1 ((q : Nat) : Int) ((q + m - m : Nat) : Int) ((e : Nat) : Int) (some ⟨b, 0, none⟩) l.length c fC h) (QT b cells F) := fun h w => by
      refine Ok.le ?_ slices_symMergeCmpFunc_after_Entry_int_j1_le
      rw [dec_f (by omega), cond_f]
      exact Ok.some ⟨rfl, w⟩
    rw [dec_f (by omega), cond_f, wsub (by omega) (by omega)]
    refine Ok.le ?_ slices_symMergeCmpFunc_after_Entry_int_j2_le
    rw [dec_t (by omega), cond_t]
    by_cases c4 : m < q
    · rw [dec_t (by omega), cond_t]
      refine Ok.bind (ih (q - a) (by omega) a m q h rfl ham c4 (by omega) w) ?_
      rintro _ h2 ⟨rfl, w2⟩
      simp only [asTu_nil, Option.bind_some, List.isEmpty_nil, cond_t]
      exact J1 h2 w2
    · rw [dec_f (by omega), cond_f]
      exact J1 h w
/-- stable -/
theorem st_L2 (hl : l.length < 100000000) (hrd : HR l cells) (hs : Srt l) {z : Nat} (hz : 0 < z) (hzl : z < l.length) {F : List Asr} (K : ∀ h, H h (Pt b (.cells cells true false 3) :: F) → Ok (slices_stableCmpFunc_after_Entry_int_j1 l.length (some ⟨b, 0, none⟩) l.length c fC (z : Nat) h) (QT b cells F)) :
    ∀ (n a : Nat) (h : AH), l.length - a = n → a ≤ l.length → H h (Pt b (.cells cells true false 3) :: F) →
    Ok (slices_stableCmpFunc_after_Entry_int_L2 l.length (some ⟨b, 0, none⟩) l.length c (z : Nat) fC (a : Nat) ((a + 2 * z : Nat) : Int) h) (QT b cells F) := by
  intro n
  induction n using Nat.strongRecOn with
  | _ n ih =>
  intro a h hn ha w
  refine Ok.le ?_ slices_stableCmpFunc_after_Entry_int_L2_le
  by_cases c0 : a + 2 * z ≤ l.length
  · rw [dec_t (by omega), cond_t]
    refine Ok.le ?_ slices_stableCmpFunc_after_Entry_int_j3_le
    rw [wadd (by omega) (by omega)]
    refine Ok.bind (sm_ok hl hrd hs _ a (a + z) (a + 2 * z) h rfl (by omega) (by omega) c0 w) ?_
    rintro _ h2 ⟨rfl, w2⟩
    simp only [asTu_nil, Option.bind_some, List.isEmpty_nil, cond_t]
    rw [show IntKind.wrap .i64 (2 * ((z : Nat) : Int)) = ((2 * z : Nat) : Int) by rw [wrap64 (by omega) (by omega)]; omega, wadd (by omega) (by omega)]
    exact ih (l.length - (a + 2 * z)) (by omega) (a + 2 * z) h2 rfl c0 w2
  · rw [dec_f (by omega), cond_f]
    refine Ok.le ?_ slices_stableCmpFunc_after_Entry_int_j2_le
    rw [wadd (by omega) (by omega)]
    by_cases c1 : a + z < l.length
    · rw [dec_t (by omega), cond_t]
      refine Ok.bind (sm_ok hl hrd hs _ a (a + z) l.length h rfl (by omega) c1 (Nat.le_refl _) w) ?_
      rintro _ h2 ⟨rfl, w2⟩
      simp only [asTu_nil, Option.bind_some, List.isEmpty_nil, cond_t]
      exact K h2 w2
    · rw [dec_f (by omega), cond_f]
      exact K h w
theorem st_L1 (hl : l.length < 100000000) (hrd : HR l cells) (hs : Srt l) {F : List Asr} : ∀ (n z : Nat) (h : AH), l.length - z = n → 0 < z → z < 300000000 → H h (Pt b (.cells cells true false 3) :: F) →
    Ok (slices_stableCmpFunc_after_Entry_int_L1 l.length (some ⟨b, 0, none⟩) l.length c fC (z : Nat) h) (QT b cells F) := by
  intro n
  induction n using Nat.strongRecOn with
  | _ n ih =>
  intro z h hn hz hz2 w
  refine Ok.le ?_ slices_stableCmpFunc_after_Entry_int_L1_le
  by_cases c0 : z < l.length
  · rw [dec_t (by omega), cond_t]
    refine Ok.le ?_ slices_stableCmpFunc_after_Entry_int_j4_le
    rw [show IntKind.wrap .i64 (2 * ((z : Nat) : Int)) = ((0 + 2 * z : Nat) : Int) by rw [wrap64 (by omega) (by omega)]; omega]
    refine st_L2 hl hrd hs hz c0 (fun h w => ?_) _ 0 h rfl (by omega) w
    refine Ok.le ?_ slices_stableCmpFunc_after_Entry_int_j1_le
    rw [show IntKind.wrap .i64 (((z : Nat) : Int) * 2) = ((z * 2 : Nat) : Int) by rw [wrap64 (by omega) (by omega)]; omega]
    exact ih (l.length - z * 2) (by omega) (z * 2) h rfl (by omega) (by omega) w
  · rw [dec_f (by omega), cond_f]
    exact Ok.some ⟨rfl, w⟩
theorem st_L3 (hl : l.length < 100000000) (h0 : 0 < l.length) (hrd : HR l cells) (hs : Srt l) {F : List Asr} : ∀ (n a : Nat) (h : AH), l.length - a = n → a ≤ l.length → H h (Pt b (.cells cells true false 3) :: F) →
    Ok (slices_stableCmpFunc_after_Entry_int_L3 l.length (some ⟨b, 0, none⟩) l.length c fC (a : Nat) ((a + 20 : Nat) : Int) h) (QT b cells F) := by
  intro n
  induction n using Nat.strongRecOn with
  | _ n ih =>
  intro a h hn ha w
  refine Ok.le ?_ slices_stableCmpFunc_after_Entry_int_L3_le
  by_cases c0 : a + 20 ≤ l.length
  · rw [dec_t (by omega), cond_t]
    refine Ok.le ?_ slices_stableCmpFunc_after_Entry_int_j6_le
    refine Ok.bind (ins_ok hl hrd hs (by omega) c0 w) ?_
    rintro _ h2 ⟨rfl, w2⟩
    simp only [asTu_nil, Option.bind_some, List.isEmpty_nil, cond_t]
    rw [show IntKind.wrap .i64 (((a + 20 : Nat) : Int) + 20) = ((a + 20 + 20 : Nat) : Int) by rw [wrap64 (by omega) (by omega)]; omega]
    exact ih (l.length - (a + 20)) (by omega) (a + 20) h2 rfl c0 w2
  · rw [dec_f (by omega), cond_f]
    refine Ok.le ?_ slices_stableCmpFunc_after_Entry_int_j5_le
    have last : Ok (C k_slices_insertionSortCmpFunc_after_Entry_int [.slice (some ⟨b, 0, none⟩) l.length c, .int .i64 (a : Nat), .int .i64 (l.length : Nat), fnV fC] h) (QT b cells F) := by
      by_cases c1 : a < l.length
      · exact ins_ok hl hrd hs c1 (Nat.le_refl _) w
      · refine Ok.le ?_ slices_insertionSortCmpFunc_after_Entry_int_le
        unfold F_slices_insertionSortCmpFunc_after_Entry_int
        rw [wadd1 (by omega)]
        refine Ok.le ?_ slices_insertionSortCmpFunc_after_Entry_int_L1_le
        rw [dec_f (by omega), cond_f]
        exact Ok.some ⟨rfl, w⟩
    refine Ok.bind last ?_
    rintro _ h2 ⟨rfl, w2⟩
    simp only [asTu_nil, Option.bind_some, List.isEmpty_nil, cond_t]
    exact st_L1 hl hrd hs _ 20 h2 rfl (by decide) (by decide) w2
end
/-- SortStableFunc of what is in order -/
theorem sortS {l : List En} {a : Option Addr} {c n : Nat} {h : AH} {F : List Asr} (hl : l.length < 100000000) (hs : Srt l) (hn : n = l.length) (w : H h (aOs a n c (l.flatMap encN) :: F)) :
    Ok (C k_slices_SortStableFunc_after_Entry_int_after_Entry_int [.slice a n c, fnV fC] h) fun v h' => v = .tuple #[] ∧ H h' (aOs a n c (l.flatMap encN) :: F) := by
  refine Ok.le ?_ slices_SortStableFunc_after_Entry_int_after_Entry_int_le
  unfold F_slices_SortStableFunc_after_Entry_int_after_Entry_int
  have ho : OwS h 3 a n c (l.flatMap encN) := H.of_up w
  have fin : ∀ {Q : Value → AH → Prop}, Ok (C k_slices_stableCmpFunc_after_Entry_int [.slice a n c, .int .i64 ((n : Nat) : Int), fnV fC] h) (fun v h' => v = .tuple #[] ∧ H h' (aOs a n c (l.flatMap encN) :: F)) →
      Ok ((C k_slices_stableCmpFunc_after_Entry_int [.slice a n c, .int .i64 ((n : Nat) : Int), fnV fC] h).bind fun r6 => ((asTu r6.1).bind fun g7 => (cond g7.isEmpty (some ((.tuple #[]), r6.2)) none))) fun v h' => v = .tuple #[] ∧ H h' (aOs a n c (l.flatMap encN) :: F) := fun k => by
    refine Ok.bind k ?_
    rintro _ h2 ⟨rfl, w2⟩
    simp only [asTu_nil, Option.bind_some, List.isEmpty_nil, cond_t]
    exact Ok.some ⟨rfl, w2⟩
  refine fin (Q := fun _ _ => True) ?_
  refine Ok.le ?_ slices_stableCmpFunc_after_Entry_int_le
  unfold F_slices_stableCmpFunc_after_Entry_int
  generalize hcs : l.flatMap encN = cs at ho w ⊢
  cases ho with
  | nil =>
    refine Ok.le ?_ slices_stableCmpFunc_after_Entry_int_L3_le
    rw [dec_f (by decide), cond_f]
    refine Ok.le ?_ slices_stableCmpFunc_after_Entry_int_j5_le
    have last : Ok (C k_slices_insertionSortCmpFunc_after_Entry_int [.slice none 0 0, .int .i64 0, .int .i64 ((0 : Nat) : Int), fnV fC] h) (fun v h' => v = .tuple #[] ∧ H h' (aOs none 0 0 [] :: F)) := by
      refine Ok.le ?_ slices_insertionSortCmpFunc_after_Entry_int_le
      unfold F_slices_insertionSortCmpFunc_after_Entry_int
      refine Ok.le ?_ slices_insertionSortCmpFunc_after_Entry_int_L1_le
      rw [dec_f (by decide), cond_f]
      exact Ok.some ⟨rfl, w⟩
    refine Ok.bind last ?_
    rintro _ h2 ⟨rfl, w2⟩
    simp only [asTu_nil, Option.bind_some, List.isEmpty_nil, cond_t]
    refine Ok.le ?_ slices_stableCmpFunc_after_Entry_int_L1_le
    rw [dec_f (by decide), cond_f]
    exact Ok.some ⟨rfl, w2⟩
  | @mk b _ m _ rest hb1 hl1 hr1 hn1 =>
    subst hn
    have w2 : H h (Pt b (.cells (cs ++ rest) true false 3) :: F) := up_pt w hb1
    have hrd : HR l (cs ++ rest) := fun k x hx r hr => by
      have hk := (List.getElem?_eq_some_iff.mp hx).1
      rw [List.getElem?_append_left (by omega), ← hcs]
      have := flat_get (enc := encN) encN_len hr l k
      rw [this, hx]; rfl
    by_cases h0 : 0 < l.length
    · refine Ok.mono (st_L3 hl h0 hrd hs _ 0 h rfl (by omega) w2) ?_
      rintro _ h3 ⟨rfl, w3⟩
      exact ⟨rfl, pt_os w3 hl1 hr1⟩
    · have e0 : l.length = 0 := by omega
      rw [e0] at hl1 ⊢
      refine Ok.le ?_ slices_stableCmpFunc_after_Entry_int_L3_le
      rw [dec_f (by decide), cond_f]
      refine Ok.le ?_ slices_stableCmpFunc_after_Entry_int_j5_le
      have last : Ok (C k_slices_insertionSortCmpFunc_after_Entry_int [.slice (some ⟨b, 0, none⟩) 0 opn, .int .i64 0, .int .i64 ((0 : Nat) : Int), fnV fC] h) (fun v h' => v = .tuple #[] ∧ H h' (Pt b (.cells (cs ++ rest) true false 3) :: F)) := by
        refine Ok.le ?_ slices_insertionSortCmpFunc_after_Entry_int_le
        unfold F_slices_insertionSortCmpFunc_after_Entry_int
        refine Ok.le ?_ slices_insertionSortCmpFunc_after_Entry_int_L1_le
        rw [dec_f (by decide), cond_f]
        exact Ok.some ⟨rfl, w2⟩
      refine Ok.bind last ?_
      rintro _ h2 ⟨rfl, w2⟩
      simp only [asTu_nil, Option.bind_some, List.isEmpty_nil, cond_t]
      refine Ok.le ?_ slices_stableCmpFunc_after_Entry_int_L1_le
      rw [dec_f (by decide), cond_f]
      exact Ok.some ⟨rfl, pt_os w2 hl1 hr1⟩
end Go.Lg.Try

namespace Go.Lg.Try
set_option linter.unusedVariables false
set_option linter.unusedSimpArgs false
open Go Go.Proofs
/-- several elements more -/
theorem osAppM {h : AH} {by_ : Nat} {a : Option Addr} {n c k : Nat} {cs xs : List Value} {x : Value} (ho : OwS h 3 a n c cs) (hx : newCells h 3 x = some (k, xs)) (hm : xs.length = k * 3) (hr : (n + k) * by_ ≤ 1099511627776) (hr2 : n + k ≤ 1099511627776) :
    ∃ a' c' h', appE 3 by_ (.slice a n c) x h = some (.slice a' (n + k) c', h') ∧ OwS h' 3 a' (n + k) c' (cs ++ xs) ∧ h.n ≤ h'.n ∧ (∀ b, b < h.n → ¬ blk a b → h'.get b = h.get b) ∧ (∀ b, blk a' b → blk a b ∨ h.n ≤ b) := by
  have h5 : Nat.blt opn opn = false := by show Nat.blt 4611686018427387904 4611686018427387904 = false; rfl
  have hbeq : Nat.beq xs.length (k * 3) = true := by rw [hm]; exact Nat.beq_refl _
  cases ho with
  | nil =>
    simp only [Nat.zero_add] at hr hr2
    cases k with
    | zero =>
      have : xs = [] := List.eq_nil_of_length_eq_zero (by omega)
      subst this
      refine ⟨none, 0, h, ?_, .nil, Nat.le_refl _, fun _ _ _ => rfl, fun b hb => .inl hb⟩
      simp only [appE, hx, Option.bind_some, Nat.zero_add, roomOk_t hr hr2, Bool.true_and, hbeq, cond_true]
      rfl
    | succ k =>
      refine ⟨_, _, h.push (.cells xs true false 3), ?_, .mk (rest := []) (m := 0) (by rw [AH.get_push_eq, List.append_nil]; rfl) (by simp [hm]) (by simp) (by simp [AH.push]), by simp [AH.push], fun b hb _ => AH.get_push_ne _ (by omega), fun b hb => ?_⟩
      · simp only [appE, hx, Option.bind_some, Nat.zero_add, roomOk_t hr hr2, Bool.true_and, hbeq, cond_true]
        rfl
      · obtain rfl : h.n = b := hb; exact .inr (Nat.le_refl _)
  | @mk b _ m _ rest hb hl hrl hn =>
    by_cases hroom : k * 3 ≤ rest.length
    · refine ⟨some ⟨b, 0, none⟩, opn, h.set b (some (.cells (cs ++ xs ++ rest.drop xs.length) true false 3)), ?_, .mk (m := m - k) (by rw [AH.get_set_eq]) (by rw [List.length_append, hl, hm, Nat.add_mul]) ?_ hn, Nat.le_refl _, fun b' hb' hne => AH.get_set_ne _ (fun e => hne (by subst e; rfl)), fun b' hb' => .inl hb'⟩
      · have h3 : Nat.ble (0 + (n + k) * 3) (cs ++ rest).length = true := Nat.ble_eq_true_of_le (by rw [List.length_append, hl, Nat.add_mul]; omega)
        have hst : h.st b (0 + n * 3) xs = some (h.set b (some (.cells (cs ++ xs ++ rest.drop xs.length) true false 3))) := by
          rw [AH.st_of hb (by rw [List.length_append, hl, hm]; omega), Nat.zero_add, ← hl, setL_app (by omega)]
        simp only [appE, hx, Option.bind_some, roomOk_t hr hr2, Bool.true_and, hbeq, cond_true, h5, cond_false, hb, Nat.beq_refl, h3, hst]
      · rw [List.length_drop, hrl, hm]; omega
    · have h3 : Nat.ble (0 + (n + k) * 3) (cs ++ rest).length = false := by
        cases hq : Nat.ble (0 + (n + k) * 3) (cs ++ rest).length with
        | false => rfl
        | true => have := Nat.le_of_ble_eq_true hq; rw [List.length_append] at this; omega
      have h4 : Nat.ble (0 + n * 3) (cs ++ rest).length = true := Nat.ble_eq_true_of_le (by rw [List.length_append]; omega)
      have htk : ((cs ++ rest).drop 0).take (n * 3) = cs := by rw [List.drop_zero, List.take_append_of_le_length (by omega), List.take_of_length_le (Nat.le_of_eq hl)]
      refine ⟨some ⟨h.n, 0, none⟩, opn, (h.set b none).push (.cells (cs ++ xs) true false 3), ?_, .mk (rest := []) (m := 0) ?_ ?_ (by simp) ?_, by simp [AH.push, AH.set], fun b' hb' hne => ?_, fun b' hb' => ?_⟩
      · simp only [appE, hx, Option.bind_some, roomOk_t hr hr2, Bool.true_and, hbeq, cond_true, h5, cond_false, hb, Nat.beq_refl, h3, h4, htk]
      · rw [List.append_nil]; exact AH.get_push_eq (h.set b none) _
      · rw [List.length_append, hl, hm, Nat.add_mul]
      · show h.n < h.n + 1; omega
      · rw [AH.get_push_ne _ (by show b' ≠ h.n; omega), AH.get_set_ne _ (fun e => hne (by subst e; rfl))]
      · obtain rfl : h.n = b' := hb'; exact .inr (Nat.le_refl _)
theorem newOs {h : AH} {a : Option Addr} {n c : Nat} {cs : List Value} (ho : OwS h 3 a n c cs) : newCells h 3 (.slice a n c) = some (n, cs) := by
  cases ho with
  | nil => rfl
  | @mk b _ m _ rest hb hl hr hn =>
    have h1 : Nat.ble (0 + n * 3) (cs ++ rest).length = true := Nat.ble_eq_true_of_le (by rw [List.length_append]; omega)
    simp only [newCells, ldRow, hb, h1, cond_true, Option.bind_some, List.drop_zero, List.take_append_of_le_length (Nat.le_of_eq hl.symm), List.take_of_length_le (Nat.le_of_eq hl)]
/-- append of such a slice to another one -/
theorem appOs {h : AH} {by_ : Nat} {a a1 : Option Addr} {n c n1 c1 : Nat} {cs xs : List Value} {F : List Asr} (hh : H h (aOs a n c cs :: aOs a1 n1 c1 xs :: F)) (hr : (n + n1) * by_ ≤ 1099511627776) (hr2 : n + n1 ≤ 1099511627776) :
    ∃ a' c' h', appE 3 by_ (.slice a n c) (.slice a1 n1 c1) h = some (.slice a' (n + n1) c', h') ∧ H h' (aOs a' (n + n1) c' (cs ++ xs) :: aOs a1 n1 c1 xs :: F) := by
  have ho : OwS h 3 a n c cs := H.of_up hh
  have ho1 : OwS h 3 a1 n1 c1 xs := H.of_up hh.u1
  obtain ⟨a', c', h', e1, o1, n2, g1, l1⟩ := osAppM (by_ := by_) ho (newOs ho1) ho1.len hr hr2
  exact ⟨a', c', h', e1, H.run hh n2 g1 l1 (fun b hb => osLive o1 b hb) fun h'' hg => osSame o1 hg⟩
section
variable {w d : List En} {q : Nat} {a1 a2 : Option Addr} {c1 c2 : Nat} {F : List Asr} {h : AH}
/-- a queue: what waits, what is due -/
abbrev aQ (q : Nat) (a1 : Option Addr) (c1 : Nat) (a2 : Option Addr) (c2 : Nat) (w d : List En) : List Asr := [Qb q a1 w.length c1 a2 d.length c2, aOs a1 w.length c1 (w.flatMap encN), aOs a2 d.length c2 (d.flatMap encN)]
def aQu (q : Nat) (w d : List En) : Asr := fun m => ∃ a1 : Option Addr, ∃ c1 : Nat, ∃ a2 : Option Addr, ∃ c2 : Nat, Lay (aQ q a1 c1 a2 c2 w d) m
theorem qOpen (hh : H h (aQu q w d :: F)) : ∃ a1 c1 a2 c2, H h (Qb q a1 w.length c1 a2 d.length c2 :: aOs a1 w.length c1 (w.flatMap encN) :: aOs a2 d.length c2 (d.flatMap encN) :: F) := by
  obtain ⟨a1, hh⟩ := hh.ex
  obtain ⟨c1, hh⟩ := hh.ex
  obtain ⟨a2, hh⟩ := hh.ex
  obtain ⟨c2, hh⟩ := hh.ex
  exact ⟨a1, c1, a2, c2, hh.opn_⟩
theorem qClose (hh : H h (Qb q a1 w.length c1 a2 d.length c2 :: aOs a1 w.length c1 (w.flatMap encN) :: aOs a2 d.length c2 (d.flatMap encN) :: F)) : H h (aQu q w d :: F) :=
  (H.cls (L := aQ q a1 c1 a2 c2 w d) hh).imp fun m hm => ⟨a1, c1, a2, c2, hm⟩
theorem qRight {n1 n2 : Nat} (hh : H h (Qb q a1 n1 c1 a2 n2 c2 :: F)) : C k_after_Queue_int_right [ptrN q] h = some (.bool true, h) := by
  refine after_Queue_int_right_le _ ?_
  simp only [F_after_Queue_int_right, Option.isNone_some, Bool.not_false, cond_t, Option.bind_some, AH.ldB_of (o := 0 + 0) hh.get rfl]
def laterM (w d : List En) (o a : Int) : Int × List En := if o < 1 then (2, w) else if 1024 ≤ w.length + d.length then (5, w) else (0, w ++ [⟨0, o, a⟩])
theorem later_ok (hw : w.length < 1000000) (hd : d.length < 1000000) (o a : Int) (hh : H h (aQu q w d :: F)) : Ok (C k_after_Queue_int_Later [ptrN q, .int .i64 o, .int .i64 a] h) fun v h' => v = .int .i64 (laterM w d o a).1 ∧ H h' (aQu q (laterM w d o a).2 d :: F) := by
  obtain ⟨a1, c1, a2, c2, w0⟩ := qOpen hh
  refine Ok.le ?_ after_Queue_int_Later_le
  simp only [F_after_Queue_int_Later, qRight w0, Option.bind_some, asB_b, Bool.not_true, cond_f]
  unfold laterM
  by_cases c0 : o < 1
  · rw [dec_t c0, cond_t, if_pos c0]; exact Ok.some ⟨rfl, hh⟩
  rw [dec_f c0, cond_f, if_neg c0]
  simp only [AH.ldS_of (o := 0 + 1) w0.get rfl, AH.ldS_of (o := 0 + 2) w0.get rfl, Option.bind_some]
  rw [show IntKind.wrap .i64 (((w.length : Nat) : Int) + ((d.length : Nat) : Int)) = ((w.length + d.length : Nat) : Int) by rw [wrap64 (by omega) (by omega)]; omega]
  by_cases c3 : 1024 ≤ w.length + d.length
  · rw [dec_f (show ¬((w.length + d.length : Nat) : Int) < 1024 by omega), Bool.not_false, cond_t, if_pos c3]; exact Ok.some ⟨rfl, hh⟩
  rw [dec_t (show ((w.length + d.length : Nat) : Int) < 1024 by omega), Bool.not_true, cond_f, if_neg c3]
  refine Ok.le ?_ after_Queue_int_Later_j1_le
  obtain ⟨a', h15, e15, w15⟩ := appN (by_ := 24) (xs := [.int .i64 0, .int .i64 o, .int .i64 a]) w0.u1 (c' := 1) rfl (by omega) (by omega)
  obtain ⟨h18, s18, w18, n18⟩ := (w15.u1).st (o := 0 + 1) [.slice a' (w.length + 1) opn] (by simp)
  simp only [AH.ldS_of (o := 0 + 1) w0.get rfl, Option.bind_some, e15, asS_s, s18]
  refine Ok.some ⟨rfl, ?_⟩
  have hlen : (w ++ [⟨0, o, a⟩] : List En).length = w.length + 1 := by simp
  have hfl : (w ++ [⟨0, o, a⟩] : List En).flatMap encN = w.flatMap encN ++ [.int .i64 0, .int .i64 o, .int .i64 a] := by simp [encN]
  refine qClose (a1 := a') (c1 := opn) (a2 := a2) (c2 := c2) ?_
  rw [hlen, hfl]
  exact w18
/-- the versions of those that become due -/
def setV (v : Int) (l : List En) (k : Nat) : List En := (l.take k).map (fun x => { x with v := v }) ++ l.drop k
theorem setV_len (v : Int) (l : List En) (k : Nat) : (setV v l k).length = l.length := by simp [setV]; omega
end
end Go.Lg.Try

namespace Go.Lg.Try
set_option linter.unusedVariables false
set_option linter.unusedSimpArgs false
open Go Go.Proofs
theorem dO0 {o : Int} {l : List En} {k : Nat} {x : En} (hx : l[k]? = some x) : dO o 0 l k = decide (x.o = o) := by
  unfold dO
  rw [hx]
  simp only
  rw [show decide ((0 : Int) - (cntO o (l.take k) : Nat) - 1 < 0) = true from decide_eq_true (by omega), Bool.and_true]
theorem out0 (o : Int) (l : List En) : ∀ k, k ≤ l.length → outO o 0 l k = (l.take k).filter fun x => decide (x.o = o)
  | 0, _ => rfl
  | k + 1, hk => by
    obtain ⟨x, hx⟩ : ∃ x, l[k]? = some x := ⟨_, List.getElem?_eq_getElem (by omega)⟩
    rw [outO_succ hx, out0 o l k (by omega), dO0 hx, List.take_add_one, hx, List.filter_append]
    congr 1
    by_cases c : x.o = o <;> simp [c]
theorem stay_pre (o keep : Int) (l : List En) : ∀ k, k ≤ l.length → keep = 0 → keepF (dO o keep l) 0 (l.take k) = (l.take k).filter fun x => !decide (x.o = o)
  | 0, _, _ => rfl
  | k + 1, hk, h0 => by
    subst h0
    obtain ⟨x, hx⟩ : ∃ x, l[k]? = some x := ⟨_, List.getElem?_eq_getElem (by omega)⟩
    rw [List.take_add_one, hx]
    show keepF _ 0 (l.take k ++ [x]) = _
    rw [keepF_snoc, stay_pre o 0 l k (by omega) rfl, List.length_take, Nat.min_eq_left (by omega), Nat.zero_add, dO0 hx, List.filter_append]
    congr 1
    by_cases c : x.o = o <;> simp [c]
def ofO (o : Int) (l : List En) : List En := l.filter fun x => decide (x.o = o)
def notO (o : Int) (l : List En) : List En := l.filter fun x => !decide (x.o = o)
theorem out0_all (o : Int) (l : List En) : outO o 0 l l.length = ofO o l := by rw [out0 o l _ (Nat.le_refl _), List.take_length]; rfl
theorem stay0_all (o : Int) (l : List En) : stayO o 0 l = notO o l := by
  have := stay_pre o 0 l l.length (Nat.le_refl _) rfl
  rw [List.take_length] at this
  exact this
theorem ofO_le (o : Int) (l : List En) : (ofO o l).length ≤ l.length := List.length_filter_le _ _
theorem notO_le (o : Int) (l : List En) : (notO o l).length ≤ l.length := List.length_filter_le _ _
theorem setL_left {A R vs : List Value} {o : Nat} (hl : o + vs.length ≤ A.length) : AH.setL (A ++ R) o vs = AH.setL A o vs ++ R := by
  apply List.ext_getElem?
  intro k
  rw [AH.setL_get _ _ _ _ (by rw [List.length_append]; omega)]
  by_cases h1 : k < A.length
  · rw [List.getElem?_append_left h1, List.getElem?_append_left (show k < (AH.setL A o vs).length by rw [AH.setL_length]; exact h1), AH.setL_get _ _ _ _ hl]
  · rw [if_neg (by omega), List.getElem?_append_right (show A.length ≤ k by omega), List.getElem?_append_right (show (AH.setL A o vs).length ≤ k by rw [AH.setL_length]; omega), AH.setL_length]
theorem setV_succ {v : Int} {l : List En} {k : Nat} {x : En} (hx : l[k]? = some x) : setV v l (k + 1) = (setV v l k).set k { x with v := v } := by
  have hk := (List.getElem?_eq_some_iff.mp hx).1
  have hd : l.drop k = x :: l.drop (k + 1) := by
    rw [List.drop_eq_getElem_cons hk]
    congr 1
    exact (List.getElem?_eq_some_iff.mp hx).2
  unfold setV
  rw [List.set_append_right _ _ (by simp; omega), hd, List.take_add_one, hx]
  simp only [List.length_map, List.length_take, Nat.min_eq_left (Nat.le_of_lt hk), Nat.sub_self, List.set_cons_zero, Option.toList_some, List.map_append, List.map_cons, List.map_nil, List.append_assoc, List.cons_append, List.nil_append]
theorem setV_get {v : Int} {l : List En} {k : Nat} : (setV v l k)[k]? = l[k]? := by
  unfold setV
  rcases Nat.lt_or_ge k l.length with h | h
  · rw [List.getElem?_append_right (by simp; omega), List.getElem?_drop]
    congr 1
    simp; omega
  · rw [List.getElem?_eq_none h, List.getElem?_eq_none (by simp; omega)]
theorem setV_all (v : Int) (l : List En) : setV v l l.length = l.map fun x => { x with v := v } := by simp [setV]
section
variable {w d T : List En} {q : Nat} {a : Option Addr} {b c : Nat} {F : List Asr} {h : AH}
theorem com_loop (hl : T.length < 1000000) (v : Int) {Q : Value → AH → Prop} {rest : List Value} (K : ∀ h, H h (Pt b (.cells ((setV v T T.length).flatMap encN ++ rest) true false 3) :: F) → Ok (after_Queue_int_Commit_j1 (some ⟨q, 0, none⟩) h (some ⟨b, 0, none⟩) T.length c) Q) : ∀ (n k : Nat) (h : AH), T.length - k = n → k ≤ T.length →
    H h (Pt b (.cells ((setV v T k).flatMap encN ++ rest) true false 3) :: F) → Ok (after_Queue_int_Commit_L1 v (some ⟨q, 0, none⟩) (some ⟨b, 0, none⟩) T.length c ((T.length : Nat) : Int) (k : Nat) h) Q := by
  intro n
  induction n with
  | zero =>
    intro k h hn hk w
    obtain rfl : k = T.length := by omega
    refine Ok.le ?_ after_Queue_int_Commit_L1_le
    refine Ok.le ?_ after_Queue_int_Commit_j4_le
    rw [dec_f (by omega), cond_f]
    exact K h w
  | succ n ih =>
    intro k h hn hk w
    obtain ⟨x, hx⟩ : ∃ x, T[k]? = some x := ⟨_, List.getElem?_eq_getElem (by omega)⟩
    refine Ok.le ?_ after_Queue_int_Commit_L1_le
    refine Ok.le ?_ after_Queue_int_Commit_j4_le
    rw [dec_t (by omega), cond_t]
    refine Ok.le ?_ after_Queue_int_Commit_j3_le
    have hi : inB ((k : Nat) : Int) T.length = true := inB_t (by omega) (by omega)
    have hfl : ((setV v T k).flatMap encN).length = T.length * 3 := by rw [flat_len encN_len, setV_len]
    obtain ⟨h18, s18, w18, n18⟩ := w.st (o := 0 + k * 3 + 0) [.int .i64 v] (by rw [List.length_append, hfl]; simp; omega)
    simp only [Option.bind_some, hi, cond_t, Int.toNat_natCast, s18]
    refine Ok.le ?_ after_Queue_int_Commit_j2_le
    rw [wadd1 (by omega)]
    refine ih (k + 1) h18 (by omega) (by omega) ?_
    rw [Nat.zero_add, setL_left (by rw [hfl]; simp; omega), flat_set (enc := encN) encN_len (i := k) (j := 0) (a := x) (a' := { x with v := v }) (by rw [setV_get]; exact hx) (by simp) rfl, ← setV_succ hx] at w18
    exact w18
/-- Commit -/
theorem commit_ok {o v : Int} (ho : 1 ≤ o) (hv : 0 ≤ v) (hw : w.length < 1000000) (hd : d.length < 1000000) (hs : Srt (d ++ (ofO o w).map fun x => { x with v := v })) (hh : H h (aQu q w d :: F)) :
    Ok (C k_after_Queue_int_Commit [ptrN q, .int .i64 o, .int .i64 v] h) fun r h' => r = .tuple #[.int .i64 ((ofO o w).length : Nat), .int .i64 0] ∧ H h' (aQu q (notO o w) (d ++ (ofO o w).map fun x => { x with v := v }) :: F) := by
  obtain ⟨a1, c1, a2, c2, w0⟩ := qOpen hh
  have hol := ofO_le o w
  refine Ok.le ?_ after_Queue_int_Commit_le
  simp only [F_after_Queue_int_Commit, qRight w0, Option.bind_some, asB_b, Bool.not_true, cond_f]
  rw [dec_f (by omega), cond_f, dec_f (by omega), cond_f]
  refine Ok.le ?_ after_Queue_int_Commit_j5_le
  refine Ok.bind (own_ok (o := o) (keep := 0) (by decide) (by decide) hw w0) ?_
  rintro _ h8 ⟨a, c, rfl, w8⟩
  rw [out0_all, stay0_all] at w8
  rw [out0_all]
  simp only [asS_s, Option.bind_some]
  -- what follows the loop
  have J1 : ∀ h, H h (aOs a (ofO o w).length c (((ofO o w).map fun x => { x with v := v }).flatMap encN) :: Qb q a1 (notO o w).length c1 a2 d.length c2 :: aOs a1 (notO o w).length c1 ((notO o w).flatMap encN) :: aOs a2 d.length c2 (d.flatMap encN) :: F) →
      Ok (after_Queue_int_Commit_j1 (some ⟨q, 0, none⟩) h a (ofO o w).length c) fun r h' => r = .tuple #[.int .i64 ((ofO o w).length : Nat), .int .i64 0] ∧ H h' (aQu q (notO o w) (d ++ (ofO o w).map fun x => { x with v := v }) :: F) := fun h w9 => by
    refine Ok.le ?_ after_Queue_int_Commit_j1_le
    have w10 : H h (aOs a2 d.length c2 (d.flatMap encN) :: aOs a (ofO o w).length c (((ofO o w).map fun x => { x with v := v }).flatMap encN) :: Qb q a1 (notO o w).length c1 a2 d.length c2 :: aOs a1 (notO o w).length c1 ((notO o w).flatMap encN) :: F) := w9.pm [3, 0, 1, 2]
    obtain ⟨a', c', h21, e21, w21⟩ := appOs (by_ := 24) w10 (by omega) (by omega)
    have w22 : H h21 (Qb q a1 (notO o w).length c1 a2 d.length c2 :: aOs a1 (notO o w).length c1 ((notO o w).flatMap encN) :: aOs a' (d.length + (ofO o w).length) c' (d.flatMap encN ++ ((ofO o w).map fun x => { x with v := v }).flatMap encN) :: F) := (w21.pm [2, 3, 0, 1]).rm 3 rfl
    obtain ⟨h24, s24, w24, n24⟩ := w22.st (o := 0 + 2) [.slice a' (d.length + (ofO o w).length) c'] (by simp)
    have w25 : H h24 (Qb q a1 (notO o w).length c1 a' (d.length + (ofO o w).length) c' :: aOs a1 (notO o w).length c1 ((notO o w).flatMap encN) :: aOs a' (d.length + (ofO o w).length) c' (d.flatMap encN ++ ((ofO o w).map fun x => { x with v := v }).flatMap encN) :: F) := w24
    simp only [Option.bind_some, AH.ldS_of (o := 0 + 2) (w9.g 1 rfl) rfl, e21, asS_s, s24, AH.ldS_of (o := 0 + 2) w25.get rfl]
    have hlen : (d ++ (ofO o w).map fun x => ({ x with v := v } : En)).length = d.length + (ofO o w).length := by simp
    have hfl : (d ++ (ofO o w).map fun x => ({ x with v := v } : En)).flatMap encN = d.flatMap encN ++ ((ofO o w).map fun x => ({ x with v := v } : En)).flatMap encN := List.flatMap_append
    have w26 : H h24 (aOs a' (d.length + (ofO o w).length) c' ((d ++ (ofO o w).map fun x => ({ x with v := v } : En)).flatMap encN) :: Qb q a1 (notO o w).length c1 a' (d.length + (ofO o w).length) c' :: aOs a1 (notO o w).length c1 ((notO o w).flatMap encN) :: F) := by
      rw [hfl]; exact w25.pm [2, 0, 1]
    refine Ok.bind (sortS (by rw [hlen]; omega) hs hlen.symm w26) ?_
    rintro _ h27 ⟨rfl, w27⟩
    simp only [asTu_nil, Option.bind_some, List.isEmpty_nil, cond_t]
    refine Ok.some ⟨rfl, qClose (a1 := a1) (c1 := c1) (a2 := a') (c2 := c') ?_⟩
    rw [hlen]
    exact w27.pm [1, 2, 0]
  have ho8 : OwS h8 3 a (ofO o w).length c ((ofO o w).flatMap encN) := H.of_up w8
  generalize hT : ofO o w = T at *
  generalize hcs : T.flatMap encN = cs at ho8 w8
  generalize hn : T.length = n at ho8 w8
  cases ho8 with
  | nil =>
    have e0 : T = [] := List.eq_nil_of_length_eq_zero hn
    subst e0
    refine Ok.le ?_ after_Queue_int_Commit_L1_le
    refine Ok.le ?_ after_Queue_int_Commit_j4_le
    rw [dec_f (by decide), cond_f]
    exact J1 h8 w8
  | @mk b _ m _ rest hb1 hl1 hr1 hn1 =>
    subst hn
    have w9 := up_pt w8 hb1
    rw [← hcs] at w9
    refine com_loop (by omega) v (rest := rest) (fun h w10 => ?_) _ 0 h8 rfl (by omega) w9
    rw [setV_all] at w10
    exact J1 h (pt_os w10 (by rw [flat_len encN_len, List.length_map]) hr1)
theorem back_ok {o : Int} (hw : w.length < 1000000) (hh : H h (aQu q w d :: F)) :
    Ok (C k_after_Queue_int_Back [ptrN q, .int .i64 o, .int .i64 0] h) fun r h' => r = .int .i64 ((ofO o w).length : Nat) ∧ H h' (aQu q (notO o w) d :: F) := by
  obtain ⟨a1, c1, a2, c2, w0⟩ := qOpen hh
  refine Ok.le ?_ after_Queue_int_Back_le
  simp only [F_after_Queue_int_Back, qRight w0, Option.bind_some, asB_b, Bool.not_true, cond_f]
  rw [dec_f (by omega), cond_f]
  refine Ok.le ?_ after_Queue_int_Back_j1_le
  refine Ok.bind (own_ok (o := o) (keep := 0) (by decide) (by decide) hw w0) ?_
  rintro _ h8 ⟨a, c, rfl, w8⟩
  rw [out0_all, stay0_all] at w8
  rw [out0_all]
  simp only [asS_s, Option.bind_some]
  exact Ok.some ⟨rfl, qClose w8.drop⟩
theorem drop_ok {o : Int} (hw : w.length < 1000000) (hh : H h (aQu q w d :: F)) :
    Ok (C k_after_Queue_int_Drop [ptrN q, .int .i64 o] h) fun r h' => r = .int .i64 ((ofO o w).length : Nat) ∧ H h' (aQu q (notO o w) d :: F) := by
  refine Ok.le ?_ after_Queue_int_Drop_le
  unfold F_after_Queue_int_Drop
  refine Ok.bind (back_ok hw hh) ?_
  rintro _ h2 ⟨rfl, w2⟩
  simp only [asI_i64, Option.bind_some]
  exact Ok.some ⟨rfl, w2⟩
theorem len_ok (hh : H h (aQu q w d :: F)) : C k_after_Queue_int_Len [ptrN q] h = some (.tuple #[.int .i64 (w.length : Nat), .int .i64 (d.length : Nat)], h) := by
  obtain ⟨a1, c1, a2, c2, w0⟩ := qOpen hh
  refine after_Queue_int_Len_le _ ?_
  simp only [F_after_Queue_int_Len, qRight w0, Option.bind_some, asB_b, Bool.not_true, cond_f]
  refine after_Queue_int_Len_j1_le _ ?_
  simp only [Option.bind_some, AH.ldS_of (o := 0 + 1) w0.get rfl, AH.ldS_of (o := 0 + 2) w0.get rfl]
end
end Go.Lg.Try

namespace Go.Lg.Try
set_option linter.unusedVariables false
set_option linter.unusedSimpArgs false
open Go Go.Proofs
/-- a copy -/
theorem cloneN {h : AH} {F : List Asr} {a : Option Addr} {n c : Nat} {cs : List Value} (w : H h F) (ho : OwS h 3 a n c cs) (hn : n < 1000000) : Ok (C k_slices_Clone_after_Entry_int_after_Entry_int [.slice a n c] h) fun v h' => ∃ a' c', v = .slice a' n c' ∧ H h' (aRd a' cs :: F) ∧
    (∀ b, b < h.n → h'.get b = h.get b) ∧ h.n ≤ h'.n := by
  refine Ok.le ?_ slices_Clone_after_Entry_int_after_Entry_int_le
  unfold F_slices_Clone_after_Entry_int_after_Entry_int
  have hx := newOs ho
  have hlen := ho.len
  have noRd : ∀ {h' : AH} {F : List Asr} (a' : Option Addr), H h' F → H h' (aRd a' [] :: F) := fun a' w => w.fresh (Nat.le_refl _) (fun _ _ => rfl) (fun b hb => absurd rfl hb.1) (fun b hb => absurd rfl hb.1) fun _ _ => .inl rfl
  cases ho with
  | nil =>
    simp only [Option.isNone_none, cond_t]
    exact Ok.some ⟨none, 0, rfl, noRd none w, fun _ _ => rfl, Nat.le_refl _⟩
  | @mk b _ m _ rest hb hl hr hlt =>
    simp only [Option.isNone_some, cond_f]
    refine Ok.le ?_ slices_Clone_after_Entry_int_after_Entry_int_j1_le
    have w5 := w.push (.cells [] false false 3)
    have g5 : (h.push (.cells [] false false 3)).get h.n = some (.cells [] false false 3) := AH.get_push_eq _ _
    have gb : (h.push (.cells [] false false 3)).get b = some (.cells (cs ++ rest) true false 3) := by rw [AH.get_push_ne _ (by omega)]; exact hb
    have n5 : (h.push (.cells [] false false 3)).n = h.n + 1 := rfl
    have o5 : ∀ b, b < h.n → (h.push (.cells [] false false 3)).get b = h.get b := fun b hb => AH.get_push_ne _ (by omega)
    generalize h.push (.cells [] false false 3) = h5 at w5 g5 gb n5 o5
    have hx5 : newCells h5 3 (.slice (some ⟨b, 0, none⟩) n opn) = some (n, cs) := newOs (.mk (rest := rest) (m := m) gb hl hr (by omega))
    have hroom : roomOk (0 + n) 24 = true := roomOk_t (by omega) (by omega)
    have hbeq : Nat.beq cs.length (n * 3) = true := by rw [hl]; exact Nat.beq_refl _
    have hb0 : Nat.blt 0 opn = true := blt_small (by decide)
    cases n with
    | zero =>
      have e0 : cs = [] := List.eq_nil_of_length_eq_zero (by omega)
      subst e0
      obtain ⟨h6, s6, w6, n6⟩ := w5.st (o := 0 + 0 * 3) [] (by simp)
      have hble : Nat.ble (0 + 0) 0 = true := rfl
      simp only [appE, hx5, Option.bind_some, hroom, hbeq, Bool.and_self, cond_t, hb0, hble, s6, asS_s]
      have e6 : h6 = h5.set h.n (some (.cells (AH.setL [] (0 + 0 * 3) []) false false 3)) := by
        have := AH.st_of (vs := []) (o := 0 + 0 * 3) g5 (by simp)
        rw [s6] at this; exact Option.some.inj this
      refine Ok.some ⟨_, _, rfl, noRd _ w6.drop, fun b hb => ?_, by omega⟩
      rw [e6, AH.get_set_ne _ (by omega)]; exact o5 b hb
    | succ n =>
      have hble : Nat.ble (0 + (n + 1)) 0 = false := by
        cases hq : Nat.ble (0 + (n + 1)) 0 with
        | false => rfl
        | true => have := Nat.le_of_ble_eq_true hq; omega
      have hrow : ldRow h5 h.n 0 (0 * 3) = some [] := by simp only [ldRow, g5]; rfl
      simp only [appE, hx5, Option.bind_some, hroom, hbeq, Bool.and_self, cond_t, hb0, hble, cond_f, hrow, asS_s, List.nil_append]
      have w6 := w5.drop.push (.cells cs true false 3)
      refine Ok.some ⟨some ⟨h5.n, 0, none⟩, opn, by rw [Nat.zero_add], ?_, fun b hb => ?_, by rw [AH.n_push]; omega⟩
      · have hne : cs ≠ [] := fun e => by rw [e] at hl; simp at hl
        obtain ⟨m, h1, m1, r, d, rfl, ha, hbb⟩ := pt_up (Φ := fun h' => Rd h' (some ⟨h5.n, 0, none⟩) cs) w6 fun h' g l => .inr ⟨_, cs, _, _, _, rfl, g, l, fun k v hk => by rw [Nat.zero_add]; exact hk⟩
        exact ⟨_, h1, m1, r, d, rfl, ⟨fun b => by rw [ha.1 b]; exact ⟨fun x => ⟨hne, x⟩, fun x => x.2⟩, ha.2⟩, hbb⟩
      · rw [AH.get_push_ne _ (by omega)]; exact o5 b hb
theorem bndz (d top : Nat) (K : Nat → Res) : boundOf (some (.int .i64 0)) d top K = K 0 := bnd (i := 0) (k := 0) rfl (Nat.zero_le _) .i64 d K
/-- the first ones are let go -/
theorem delN {l : List En} {k : Nat} (hk : k ≤ l.length) (hl : l.length < 1000000) {h : AH} {F : List Asr} {a : Option Addr} {n c : Nat} (hn : n = l.length) (w : H h (aOs a n c (l.flatMap encN) :: F)) :
    Ok (C k_slices_Delete_after_Entry_int_after_Entry_int [.slice a n c, .int .i64 0, .int .i64 (k : Nat)] h) fun v h' => v = .slice a (l.length - k) c ∧ H h' (aOs a (l.length - k) c ((l.drop k).flatMap encN) :: F) := by
  refine Ok.le ?_ slices_Delete_after_Entry_int_after_Entry_int_le
  unfold F_slices_Delete_after_Entry_int_after_Entry_int
  have ho : OwS h 3 a n c (l.flatMap encN) := H.of_up w
  have hb10 : Nat.beq 3 0 = false := rfl
  generalize hcs : l.flatMap encN = cs at ho w
  cases ho with
  | nil =>
    have e0 : l = [] := List.eq_nil_of_length_eq_zero hn.symm
    subst e0
    obtain rfl : k = 0 := by simpa using hk
    have q1 : slcE 3 none 0 0 (some (.int .i64 0)) (some (.int .i64 ((0 : Nat) : Int))) (some (.int .i64 ((0 : Nat) : Int))) h = some (.slice none 0 0, h) := rfl
    simp only [q1, Option.bind_some, asS_s]
    rw [dec_t (show (0 : Int) = ((0 : Nat) : Int) from rfl), cond_t]
    exact Ok.some ⟨rfl, w⟩
  | @mk b _ m _ rest hb1 hl1 hr1 hn1 =>
    subst hn
    have w2 := up_pt w hb1
    have hcl : (cs ++ rest).length = (l.length + m) * 3 := by rw [List.length_append, hl1, hr1, Nat.add_mul]
    have htop : ((cs ++ rest).length - 0) / 3 = l.length + m := by rw [hcl]; omega
    have q1 : slcE 3 (some ⟨b, 0, none⟩) l.length opn (some (.int .i64 0)) (some (.int .i64 ((k : Nat) : Int))) (some (.int .i64 ((l.length : Nat) : Int))) h = some (.slice (some ⟨b, 0 + cond (Nat.beq 0 l.length) 0 (0 * 3), none⟩) (k - 0) (l.length - 0), h) := by
      simp only [slcE, blt_opn, cond_f, hb1, Nat.beq_refl, cond_t, Option.isSome_some, htop, hb10]
      rw [bnd rfl (by omega), blt_small (by omega), cond_t, bnd (k := k) rfl (by omega), bndz]
    simp only [q1, Option.bind_some, asS_s]
    by_cases c0 : k = 0
    · subst c0
      rw [dec_t (show (0 : Int) = ((0 : Nat) : Int) from rfl), cond_t]
      rw [List.drop_zero, hcs, Nat.sub_zero]
      exact Ok.some ⟨rfl, w⟩
    rw [dec_f (by omega), cond_f]
    refine Ok.le ?_ slices_Delete_after_Entry_int_after_Entry_int_j1_le
    have q2 : slcE 3 (some ⟨b, 0, none⟩) l.length opn none (some (.int .i64 0)) none h = some (.slice (some ⟨b, 0 + 0 * 3, none⟩) (0 - 0) opn, h) := by
      simp only [slcE, blt_opn, cond_f, hb1, Nat.beq_refl, cond_t, htop, hb10]
      rw [bndz]; rfl
    have q3 : slcE 3 (some ⟨b, 0, none⟩) l.length opn (some (.int .i64 ((k : Nat) : Int))) none none h = some (.slice (some ⟨b, 0 + k * 3, none⟩) (l.length - k) opn, h) := by
      simp only [slcE, blt_opn, cond_f, hb1, Nat.beq_refl, cond_t, htop, hb10]
      rw [bnd0, bnd (k := k) rfl hk]
    have hdl : ((l.drop k).flatMap encN).length = (l.length - k) * 3 := by rw [flat_len encN_len, List.length_drop]
    have hrow : newCells h 3 (.slice (some ⟨b, 0 + k * 3, none⟩) (l.length - k) opn) = some (l.length - k, (l.drop k).flatMap encN) := by
      have e1 : Nat.ble (0 + k * 3 + (l.length - k) * 3) (cs ++ rest).length = true := Nat.ble_eq_true_of_le (by rw [hcl]; omega)
      have e2 : ((cs ++ rest).drop (0 + k * 3)).take ((l.length - k) * 3) = (l.drop k).flatMap encN := by
        have hsp : cs ++ rest = (l.take k).flatMap encN ++ ((l.drop k).flatMap encN ++ rest) := by
          rw [← hcs, ← List.append_assoc, ← List.flatMap_append, List.take_append_drop]
        have hkl : ((l.take k).flatMap encN).length = 0 + k * 3 := by rw [flat_len encN_len, List.length_take]; omega
        rw [hsp, ← hkl, List.drop_left, ← hdl, List.take_left]
      simp only [newCells, ldRow, hb1, e1, cond_true, Option.bind_some, e2]
    obtain ⟨h13, s13, w13, n13⟩ := w2.st (o := 0 + 0 * 3 + (0 - 0) * 3) ((l.drop k).flatMap encN) (by rw [hcl, hdl]; omega)
    have hn0 : 0 - 0 + (l.length - k) = l.length - k := by omega
    have q4 : appE 3 24 (.slice (some ⟨b, 0 + 0 * 3, none⟩) (0 - 0) opn) (.slice (some ⟨b, 0 + k * 3, none⟩) (l.length - k) opn) h = some (.slice (some ⟨b, 0, none⟩) (l.length - k) opn, h13) := by
      have e1 : roomOk (0 - 0 + (l.length - k)) 24 = true := roomOk_t (by omega) (by omega)
      have e2 : Nat.beq ((l.drop k).flatMap encN).length ((l.length - k) * 3) = true := by rw [hdl]; exact Nat.beq_refl _
      have e3 : Nat.ble (0 + 0 * 3 + (0 - 0 + (l.length - k)) * 3) (cs ++ rest).length = true := Nat.ble_eq_true_of_le (by rw [hcl]; omega)
      simp only [appE, hrow, Option.bind_some, e1, e2, Bool.true_and, cond_t, blt_opn, cond_f, hb1, Nat.beq_refl, e3, s13]
      rw [hn0]
    have hz : (0 + 0 * 3 + (0 - 0) * 3 : Nat) = ([] : List Value).length := rfl
    have w13' : H h13 (Pt b (.cells ((l.drop k).flatMap encN ++ (cs ++ rest).drop ((l.length - k) * 3)) true false 3) :: F) := by
      have := setL_app (cs := []) (xs := (l.drop k).flatMap encN) (rest := cs ++ rest) (by rw [hcl, hdl]; omega)
      rw [List.nil_append, List.nil_append] at this
      rw [hz, this, hdl] at w13; exact w13
    have hcl2 : ((l.drop k).flatMap encN ++ (cs ++ rest).drop ((l.length - k) * 3)).length = (l.length + m) * 3 := by rw [List.length_append, List.length_drop, hdl, hcl]; omega
    have htop2 : (((l.drop k).flatMap encN ++ (cs ++ rest).drop ((l.length - k) * 3)).length - 0) / 3 = l.length + m := by rw [hcl2]; omega
    have q5 : slcE 3 (some ⟨b, 0, none⟩) (l.length - k) opn (some (.int .i64 ((l.length - k : Nat) : Int))) (some (.int .i64 ((l.length : Nat) : Int))) none h13 = some (.slice (some ⟨b, 0 + (l.length - k) * 3, none⟩) (l.length - (l.length - k)) opn, h13) := by
      simp only [slcE, blt_opn, cond_f, w13'.get, Nat.beq_refl, cond_t, htop2, hb10]
      rw [bnd rfl (by omega), bnd rfl (by omega)]
    obtain ⟨k0, hk0⟩ : ∃ k0, l.length - (l.length - k) = k0 + 1 := ⟨k - 1, by omega⟩
    have hrl : (repL [Value.int .i64 0, .int .i64 0, .int .i64 0] (k0 + 1)).length = (k0 + 1) * 3 := by
      have : ∀ n, (repL [Value.int .i64 0, .int .i64 0, .int .i64 0] n).length = n * 3 := fun n => by
        induction n with
        | zero => rfl
        | succ n ih => simp only [repL, List.length_append, ih]; simp; omega
      exact this _
    obtain ⟨h17, s17, w17, n17⟩ := w13'.st (o := 0 + (l.length - k) * 3) (repL [.int .i64 0, .int .i64 0, .int .i64 0] (k0 + 1)) (by rw [hcl2, hrl]; omega)
    have q6 : clrE [.int .i64 0, .int .i64 0, .int .i64 0] (some ⟨b, 0 + (l.length - k) * 3, none⟩) (l.length - (l.length - k)) h13 = some h17 := by rw [hk0]; exact s17
    simp only [q2, q3, q4, q5, q6, Option.bind_some, asS_s]
    rw [Nat.zero_add, ← hdl, setL_app (by rw [hrl, List.length_drop, hcl, hdl]; omega), List.append_assoc] at w17
    refine Ok.some ⟨rfl, pt_os (m := m + k) w17 (by rw [hdl]) ?_⟩
    simp only [List.length_append, List.length_drop, hrl, hcl, hdl]
    omega
/-- what is taken -/
def tkN (upto : Int) : List En → Nat
  | [] => 0
  | x :: l => if x.v ≤ upto then tkN upto l + 1 else 0
theorem tkN_le (upto : Int) : ∀ l : List En, tkN upto l ≤ l.length
  | [] => Nat.le_refl _
  | x :: l => by
    have := tkN_le upto l
    unfold tkN
    split <;> simp <;> omega
theorem tkN_lt {upto : Int} : ∀ {l : List En} {k : Nat} {x : En}, k < tkN upto l → l[k]? = some x → x.v ≤ upto
  | [], k, x, h, hx => by simp at hx
  | y :: l, k, x, h, hx => by
    unfold tkN at h
    split at h
    · rename_i c
      cases k with
      | zero => obtain rfl : y = x := by simpa using hx
                exact c
      | succ k => exact tkN_lt (l := l) (k := k) (by omega) (by simpa using hx)
    · omega
theorem tkN_at {upto : Int} : ∀ {l : List En} {x : En}, l[tkN upto l]? = some x → ¬ x.v ≤ upto
  | [], x, hx => by simp at hx
  | y :: l, x, hx => by
    unfold tkN at hx
    split at hx
    · exact tkN_at (l := l) (by simpa using hx)
    · rename_i c
      obtain rfl : y = x := by simpa using hx
      exact c
section
variable {w d : List En} {q : Nat} {F : List Asr} {h : AH}
theorem take_ok {upto : Int} (hw : w.length < 1000000) (hd : d.length < 1000000) (hh : H h (aQu q w d :: F)) :
    Ok (C k_after_Queue_int_Take [ptrN q, .int .i64 upto] h) fun r h' => ∃ a c, r = .slice a (tkN upto d) c ∧ H h' (aRd a ((d.take (tkN upto d)).flatMap encN) :: aQu q w (d.drop (tkN upto d)) :: F) := by
  obtain ⟨a1, c1, a2, c2, w0⟩ := qOpen hh
  have htk := tkN_le upto d
  refine Ok.le ?_ after_Queue_int_Take_le
  simp only [F_after_Queue_int_Take, qRight w0, Option.bind_some, asB_b, Bool.not_true, cond_f]
  refine Ok.le ?_ after_Queue_int_Take_j3_le
  have ho : OwS h 3 a2 d.length c2 (d.flatMap encN) := H.of_up (w0.mv 2 rfl)
  have J1 : Ok (after_Queue_int_Take_j1 (some ⟨q, 0, none⟩) h (tkN upto d : Nat)) fun r h' => ∃ a c, r = .slice a (tkN upto d) c ∧ H h' (aRd a ((d.take (tkN upto d)).flatMap encN) :: aQu q w (d.drop (tkN upto d)) :: F) := by
    refine Ok.le ?_ after_Queue_int_Take_j1_le
    obtain ⟨s1, o1⟩ := osCut (by decide) ho htk (i := ((tkN upto d : Nat) : Int)) rfl
    have ef : (d.flatMap encN).take (tkN upto d * 3) = (d.take (tkN upto d)).flatMap encN := by
      have hkl : ((d.take (tkN upto d)).flatMap encN).length = tkN upto d * 3 := by rw [flat_len encN_len, List.length_take]; omega
      have hsp : d.flatMap encN = (d.take (tkN upto d)).flatMap encN ++ (d.drop (tkN upto d)).flatMap encN := by rw [← List.flatMap_append, List.take_append_drop]
      rw [hsp, ← hkl, List.take_left]
    rw [ef] at o1
    simp only [Option.bind_some, AH.ldS_of (o := 0 + 2) w0.get rfl, s1, asS_s]
    refine Ok.bind (cloneN w0 o1 (by omega)) ?_
    rintro _ h2 ⟨a, c, rfl, w2, _, _⟩
    have w3 : H h2 (aOs a2 d.length c2 (d.flatMap encN) :: aRd a ((d.take (tkN upto d)).flatMap encN) :: Qb q a1 w.length c1 a2 d.length c2 :: aOs a1 w.length c1 (w.flatMap encN) :: F) := w2.pm [3, 0, 1, 2]
    simp only [Option.bind_some, AH.ldS_of (o := 0 + 2) (w3.g 2 rfl) rfl, asS_s]
    refine Ok.bind (delN htk hd rfl w3) ?_
    rintro _ h4 ⟨rfl, w4⟩
    obtain ⟨h26, s26, w26, n26⟩ := (w4.u2).st (o := 0 + 2) [.slice a2 (d.length - tkN upto d) c2] (by simp)
    simp only [Option.bind_some, asS_s, s26]
    refine Ok.some ⟨a, c, rfl, ?_⟩
    have hdl : (d.drop (tkN upto d)).length = d.length - tkN upto d := List.length_drop
    have w27 : H h26 (Qb q a1 w.length c1 a2 (d.drop (tkN upto d)).length c2 :: aOs a1 w.length c1 (w.flatMap encN) :: aOs a2 (d.drop (tkN upto d)).length c2 ((d.drop (tkN upto d)).flatMap encN) :: aRd a ((d.take (tkN upto d)).flatMap encN) :: F) := by
      rw [hdl]; exact w26.pm [0, 3, 1, 2]
    exact (qClose w27).u1
  have loop : ∀ (n k : Nat), tkN upto d - k = n → k ≤ tkN upto d → Ok (after_Queue_int_Take_L1 (some ⟨q, 0, none⟩) upto (k : Nat) h) fun r h' => ∃ a c, r = .slice a (tkN upto d) c ∧ H h' (aRd a ((d.take (tkN upto d)).flatMap encN) :: aQu q w (d.drop (tkN upto d)) :: F) := by
    intro n
    induction n with
    | zero =>
      intro k hn hk
      obtain rfl : k = tkN upto d := by omega
      refine Ok.le ?_ after_Queue_int_Take_L1_le
      simp only [Option.bind_some, AH.ldS_of (o := 0 + 2) w0.get rfl]
      by_cases c0 : tkN upto d < d.length
      · obtain ⟨x, hx⟩ : ∃ x, d[tkN upto d]? = some x := ⟨_, List.getElem?_eq_getElem c0⟩
        rw [dec_t (by omega), cond_t]
        have hi : inB ((tkN upto d : Nat) : Int) d.length = true := inB_t (by omega) (by omega)
        have hc0 : (d.flatMap encN)[tkN upto d * 3 + 0]? = some (.int .i64 x.v) := by rw [flat_get_some encN_len (by decide) hx]; rfl
        rcases ho.rd with e | ⟨ad, c, op, ro, e, ha, h1, h2, h3⟩
        · rw [e] at hc0; simp at hc0
        · subst ha
          have := h3 _ _ hc0
          simp only [Option.bind_some, hi, cond_t, Int.toNat_natCast, AH.ldI_of (k := .i64) (o := ad.off + tkN upto d * 3 + 0) h1 (by rw [Nat.add_assoc]; exact this)]
          rw [dec_f (tkN_at hx), cond_f]
          exact J1
      · rw [dec_f (by omega), cond_f]
        exact J1
    | succ n ih =>
      intro k hn hk
      have hkd : k < d.length := by omega
      obtain ⟨x, hx⟩ : ∃ x, d[k]? = some x := ⟨_, List.getElem?_eq_getElem hkd⟩
      refine Ok.le ?_ after_Queue_int_Take_L1_le
      simp only [Option.bind_some, AH.ldS_of (o := 0 + 2) w0.get rfl]
      rw [dec_t (by omega), cond_t]
      have hi : inB ((k : Nat) : Int) d.length = true := inB_t (by omega) (by omega)
      have hc0 : (d.flatMap encN)[k * 3 + 0]? = some (.int .i64 x.v) := by rw [flat_get_some encN_len (by decide) hx]; rfl
      rcases ho.rd with e | ⟨ad, c, op, ro, e, ha, h1, h2, h3⟩
      · rw [e] at hc0; simp at hc0
      · subst ha
        have := h3 _ _ hc0
        simp only [Option.bind_some, hi, cond_t, Int.toNat_natCast, AH.ldI_of (k := .i64) (o := ad.off + k * 3 + 0) h1 (by rw [Nat.add_assoc]; exact this)]
        rw [dec_t (tkN_lt (by omega) hx), cond_t]
        refine Ok.le ?_ after_Queue_int_Take_j2_le
        rw [wadd1 (by omega)]
        exact ih (k + 1) (by omega) (by omega)
  exact loop _ 0 rfl (by omega)
end
end Go.Lg.Try
