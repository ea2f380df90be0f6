/- AfterTells: the queue does exactly what the document defines. -/
import Derived.Test.YtmjcbpocciaafaaPref19c
import Derived.Test.YtmjcbpocciaafaaPok
import Derived.Test.YtmjcbpocciaafaaFlaw19
namespace Go.Lg.Try
set_option linter.unusedVariables false
set_option linter.unusedSimpArgs false
open Go Go.Proofs
namespace ATell
def Q : Value → AH → Prop := fun v _ => v = .bool true
structure Op where
  k : Int
  o : Int
  a : Int
  v : Int
def encOp (x : Op) : List Value := [.int .i64 x.k, .int .i64 x.o, .int .i64 x.a, .int .i64 x.v]
theorem encOp_len (x : Op) : (encOp x).length = 4 := rfl
def goodOp (x : Op) : Prop := (Lit.int .i64 x.k).wf = true ∧ (Lit.int .i64 x.o).wf = true ∧ (Lit.int .i64 x.a).wf = true ∧ (Lit.int .i64 x.v).wf = true
theorem veqI (n : Int) : veqO (some (.int .i64 n)) (some (.int .i64 n)) = true := by simp [veqO, veq, veq2, veq1]
theorem rd4 {h : AH} {a : Option Addr} {l : List Op} (hr : Rd h a (l.flatMap encOp)) {k : Nat} {x : Op} (hx : l[k]? = some x) : ∃ ad, a = some ad ∧ h.ldI .i64 ad.block (ad.off + k * 4) = some x.k ∧ h.ldI .i64 ad.block (ad.off + k * 4 + 1) = some x.o ∧ h.ldI .i64 ad.block (ad.off + k * 4 + 2) = some x.a ∧ h.ldI .i64 ad.block (ad.off + k * 4 + 3) = some x.v := by
  have c0 : (l.flatMap encOp)[k * 4 + 0]? = some (.int .i64 x.k) := by rw [flat_get_some encOp_len (by decide) hx]; rfl
  have c1 : (l.flatMap encOp)[k * 4 + 1]? = some (.int .i64 x.o) := by rw [flat_get_some encOp_len (by decide) hx]; rfl
  have c2 : (l.flatMap encOp)[k * 4 + 2]? = some (.int .i64 x.a) := by rw [flat_get_some encOp_len (by decide) hx]; rfl
  have c3 : (l.flatMap encOp)[k * 4 + 3]? = some (.int .i64 x.v) := by rw [flat_get_some encOp_len (by decide) hx]; rfl
  rcases hr with e | ⟨ad, c, op, ro, e, ha, h1, h2, h3⟩
  · rw [e] at c0; simp at c0
  · refine ⟨ad, ha, AH.ldI_of h1 (h3 _ _ c0), AH.ldI_of h1 ?_, AH.ldI_of h1 ?_, AH.ldI_of h1 ?_⟩
    · rw [Nat.add_assoc]; exact h3 _ _ c1
    · rw [Nat.add_assoc]; exact h3 _ _ c2
    · rw [Nat.add_assoc]; exact h3 _ _ c3
theorem rdE {h : AH} {a : Option Addr} {l : List En} (hr : Rd h a (l.flatMap encN)) {k : Nat} {x : En} (hx : l[k]? = some x) : ∃ ad, a = some ad ∧ h.ldI .i64 ad.block (ad.off + k * 3) = some x.v ∧ h.ldI .i64 ad.block (ad.off + k * 3 + 1) = some x.o ∧ h.ldI .i64 ad.block (ad.off + k * 3 + 2) = some x.a := by
  have c0 : (l.flatMap encN)[k * 3 + 0]? = some (.int .i64 x.v) := by rw [flat_get_some encN_len (by decide) hx]; rfl
  have c1 : (l.flatMap encN)[k * 3 + 1]? = some (.int .i64 x.o) := by rw [flat_get_some encN_len (by decide) hx]; rfl
  have c2 : (l.flatMap encN)[k * 3 + 2]? = some (.int .i64 x.a) := by rw [flat_get_some encN_len (by decide) hx]; rfl
  rcases hr with e | ⟨ad, c, op, ro, e, ha, h1, h2, h3⟩
  · rw [e] at c0; simp at c0
  · refine ⟨ad, ha, AH.ldI_of h1 (h3 _ _ c0), AH.ldI_of h1 ?_, AH.ldI_of h1 ?_⟩
    · rw [Nat.add_assoc]; exact h3 _ _ c1
    · rw [Nat.add_assoc]; exact h3 _ _ c2
theorem tk_filter {upto : Int} : ∀ {d : List En}, Sd d → (d.filter fun x => decide (x.v ≤ upto)) = d.take (tkN upto d) ∧ (d.filter fun x => !decide (x.v ≤ upto)) = d.drop (tkN upto d)
  | [], _ => ⟨rfl, rfl⟩
  | x :: d, h => by
    unfold Sd at h
    rw [List.pairwise_cons] at h
    obtain ⟨i1, i2⟩ := tk_filter (upto := upto) h.2
    unfold tkN
    by_cases c : x.v ≤ upto
    · rw [if_pos c]; simp [c, i1, i2]
    · rw [if_neg c, List.take_zero, List.drop_zero]
      constructor
      · rw [List.filter_eq_nil_iff]
        intro y hy
        rcases List.mem_cons.mp hy with rfl | hy
        · simpa using c
        · have := h.1 y hy; simp; omega
      · rw [List.filter_eq_self]
        intro y hy
        rcases List.mem_cons.mp hy with rfl | hy
        · simpa using c
        · have := h.1 y hy; simp; omega
theorem of_not_len (o : Int) : ∀ w : List En, (ofO o w).length + (notO o w).length = w.length
  | [] => rfl
  | x :: w => by
    have := of_not_len o w
    unfold ofO notO at *
    by_cases c : x.o = o <;> simp [c] <;> omega
theorem stay_le (o m : Int) (w : List En) : (stayO o m w).length ≤ w.length := keepF_le _ _ _
theorem rCommit_bad {o v : Int} {r : Nat} {h : AH} (hb : o < 1 ∨ v < 0) : Ok (C k_ref19_Queue_Commit [ptrN r, .int .i64 o, .int .i64 v] h) fun t h' => t = .tuple #[.int .i64 0, .int .i64 2] ∧ h' = h := by
  refine Ok.le ?_ ref19_Queue_Commit_le
  unfold F_ref19_Queue_Commit
  by_cases c0 : o < 1
  · rw [dec_t c0, cond_t]; exact Ok.some ⟨rfl, rfl⟩
  · rw [dec_f c0, cond_f, dec_t (by omega), cond_t]; exact Ok.some ⟨rfl, rfl⟩
theorem rBack_neg {o m : Int} {r : Nat} {h : AH} (hm : m < 0) : Ok (C k_ref19_Queue_Back [ptrN r, .int .i64 o, .int .i64 m] h) fun v h' => v = .int .i64 0 ∧ h' = h := by
  refine Ok.le ?_ ref19_Queue_Back_le
  unfold F_ref19_Queue_Back
  rw [dec_t hm, cond_t]
  exact Ok.some ⟨rfl, rfl⟩
/-- what holds of both -/
structure OI (w d : List En) : Prop where
  s : Sd d
  n : w.length + d.length ≤ 1024
section
variable {q r l2 c3 : Nat} {a1 : Option Addr} {A : List (Option Addr × List Value)} {G : List Asr} {k : Nat} {w d : List En} {h : AH}
abbrev J4T (q r l2 c3 k : Nat) (a1 : Option Addr) (A : List (Option Addr × List Value)) : Prop := ∀ (h : AH) (w d : List En) (x y : Int) (G : List Asr), OI w d → H h (aQu q w d :: aRQ r w d :: aRds A :: G) → Ok (law19_AfterTells_j4 (some ⟨q, 0, none⟩) l2 a1 c3 (some ⟨r, 0, none⟩) (k : Nat) x x y y h) Q
/-- what is taken is the same -/
theorem tk_loop {T : List En} {a a' : Option Addr} {c c' : Nat} (hT : T.length ≤ 1024) (J : J4T q r l2 c3 k a1 A) (oi : OI w d) : ∀ (n i : Nat) (h : AH), T.length - i = n → i ≤ T.length → H h (aRd a (T.flatMap encN) :: aRl a' c' T :: aQu q w d :: aRQ r w d :: aRds A :: G) →
    Ok (law19_AfterTells_L2 T.length a a' T.length c' c (k : Nat) (some ⟨r, 0, none⟩) (some ⟨q, 0, none⟩) a1 l2 c3 (i : Nat) h) Q := by
  intro n
  induction n with
  | zero =>
    intro i h hn hi w0
    refine Ok.le ?_ law19_AfterTells_L2_le
    rw [dec_f (by omega), cond_f]
    exact J h w d 0 0 G oi w0.drop.drop
  | succ n ih =>
    intro i h hn hi w0
    obtain ⟨x, hx⟩ : ∃ x, T[i]? = some x := ⟨_, List.getElem?_eq_getElem (by omega)⟩
    refine Ok.le ?_ law19_AfterTells_L2_le
    rw [dec_t (by omega), cond_t]
    refine Ok.le ?_ law19_AfterTells_j6_le
    obtain ⟨ad, e1, x1, x2, x3⟩ := rdE w0.rd hx
    have ho : OwS h 3 a' T.length c' (T.flatMap encR) := H.of_up w0.u1
    obtain ⟨ad', e2, y1, y2, y3⟩ := rdR ho.rd hx
    have hii : inB ((i : Nat) : Int) T.length = true := inB_t (by omega) (by omega)
    simp only [e1, e2, Option.bind_some, hii, cond_t, Int.toNat_natCast, Nat.add_zero, x1, x2, x3, y1, y2, y3, decide_true, Bool.and_self, Bool.not_true, cond_f]
    refine Ok.le ?_ law19_AfterTells_j5_le
    rw [wadd1 (by omega), ← e1, ← e2]
    exact ih (i + 1) h (by omega) (by omega) w0
theorem law_loop {ops : List Op} (hg : ∀ x ∈ ops, goodOp x) (hA : (a1, ops.flatMap encOp) ∈ A) : ∀ (n k : Nat) (h : AH) (w d : List En) (G : List Asr), 1200 - k = n → k ≤ 1200 → OI w d → H h (aQu q w d :: aRQ r w d :: aRds A :: G) →
    Ok (law19_AfterTells_L1 ops.length a1 (some ⟨q, 0, none⟩) c3 (some ⟨r, 0, none⟩) (k : Nat) h) Q := by
  intro n
  have end_ : ∀ h : AH, Ok (law19_AfterTells_j1 h) Q := fun h => by
    refine Ok.le ?_ law19_AfterTells_j1_le
    simp only [C_closed (f := k_law19_awake) rfl h, Option.bind_some, asB_b]
    exact Ok.some rfl
  induction n with
  | zero =>
    intro k h w d G hn hk oi w0
    refine Ok.le ?_ law19_AfterTells_L1_le
    rw [dec_f (show ¬((k : Nat) : Int) < 1200 by omega), cond_f]
    by_cases c : ((k : Nat) : Int) < ((ops.length : Nat) : Int)
    · rw [dec_t c, cond_t]; exact end_ h
    · rw [dec_f c, cond_f]; exact end_ h
  | succ n ih =>
    intro k h w d G hn hk oi w0
    refine Ok.le ?_ law19_AfterTells_L1_le
    by_cases c : k < ops.length
    rotate_left
    · rw [dec_f (by omega), cond_f]; exact end_ h
    rw [dec_t (by omega), cond_t, dec_t (by omega), cond_t]
    obtain ⟨x, hx⟩ : ∃ x, ops[k]? = some x := ⟨_, List.getElem?_eq_getElem c⟩
    obtain ⟨g1, g2, g3, g4⟩ := hg x (List.mem_of_getElem? hx)
    have ga := wf_i64 g3
    refine Ok.le ?_ law19_AfterTells_j9_le
    have hii : inB ((k : Nat) : Int) ops.length = true := inB_t (by omega) (by omega)
    obtain ⟨ad, ha, x1, x2, x3, x4⟩ := rd4 ((w0.mv 2 rfl : H h (aRds A :: _)).rds hA) hx
    have J4 : J4T q r ops.length c3 k a1 A := fun h w d x y G oi w0 => by
      refine Ok.le ?_ law19_AfterTells_j4_le
      obtain ⟨b1, s1, b2, s2, w1⟩ := rOpen (w0.mv 1 rfl : H h (aRQ r w d :: _))
      rw [len_ok w0]
      simp only [Option.bind_some, asTu_t, hdO_c, asI_i64, List.isEmpty_nil, cond_t, decide_true, Bool.not_true, cond_f, AH.ldS_of (o := 0 + 0) w1.get rfl, AH.ldS_of (o := 0 + 1) w1.get rfl]
      refine Ok.le ?_ law19_AfterTells_j3_le
      rw [cond_f]
      refine Ok.le ?_ law19_AfterTells_j2_le
      rw [wadd1 (by omega)]
      exact ih (k + 1) h w d G (by omega) (by omega) oi w0
    subst ha
    obtain ⟨h28, s28, w28, n28⟩ := w0.var [.int .i64 0, .int .i64 0, .int .i64 0, .int .i64 0] [.int .i64 x.k, .int .i64 x.o, .int .i64 x.a, .int .i64 x.v] 4 rfl
    have w29 : H h28 (aQu q w d :: aRQ r w d :: aRds A :: Cs h.n [.int .i64 x.k, .int .i64 x.o, .int .i64 x.a, .int .i64 x.v] 4 :: G) := w28.pm [1, 2, 3, 0]
    have g28 := w28.get
    simp only [Option.bind_some, hii, cond_t, Int.toNat_natCast, x1, x2, x3, x4, s28, AH.ldI_of (k := .i64) (o := 0 + 0) g28 rfl]
    generalize h.n = ob at *
    have hn := oi.n
    -- what is read of the call
    have ld : ∀ {h' : AH}, h'.get ob = some (.cells [.int .i64 x.k, .int .i64 x.o, .int .i64 x.a, .int .i64 x.v] false false 4) → h'.ldI .i64 ob (0 + 1) = some x.o ∧ h'.ldI .i64 ob (0 + 2) = some x.a ∧ h'.ldI .i64 ob (0 + 3) = some x.v := fun hg =>
      ⟨AH.ldI_of hg rfl, AH.ldI_of hg rfl, AH.ldI_of hg rfl⟩
    obtain ⟨l1, l2', l3⟩ := ld g28
    have J8 : ∀ b : Bool, (b = true → x.k = 0 ∨ x.k = 1) → Ok (law19_AfterTells_j8 h28 (some ⟨q, 0, none⟩) (some ⟨r, 0, none⟩) ops.length (some ad) c3 (k : Nat) x.k (some ⟨ob, 0, none⟩) b) Q := by
      intro b _
      refine Ok.le ?_ law19_AfterTells_j8_le
      cases b with
      | true =>
        rw [cond_t]
        simp only [Option.bind_some, l1, l2']
        refine Ok.bind (later_ok (by omega) (by omega) x.o x.a w29) ?_
        rintro _ h2 ⟨rfl, w2⟩
        obtain ⟨m1, m2, m3⟩ := ld ((w2.g 3 rfl : h2.get ob = _))
        simp only [Option.bind_some, asI_i64, m1, m2, veqI, cond_t]
        refine Ok.bind (rLater_ok hn x.o x.a (w2.mv 1 rfl : H h2 (aRQ r w d :: _))) ?_
        rintro _ h4 ⟨rfl, w4⟩
        simp only [Option.bind_some, asI_i64]
        refine J4 h4 _ d _ 0 _ ⟨oi.s, ?_⟩ (w4.mv 1 rfl)
        unfold laterM
        split
        · exact hn
        · split
          · exact hn
          · simp only [List.length_append, List.length_cons, List.length_nil]; omega
      | false =>
        rw [cond_f]
        by_cases k2 : x.k = 2
        · rw [dec_t k2, cond_t]
          simp only [Option.bind_some, l1, l3]
          by_cases hb : x.o < 1 ∨ x.v < 0
          · refine Ok.bind (commit_bad hb w29) ?_
            rintro _ h2 ⟨rfl, e⟩
            rw [e]
            simp only [asTu_t, hdO_c, asI_i64, List.isEmpty_nil, cond_t, Option.bind_some, l1, l3]
            refine Ok.bind (rCommit_bad hb) ?_
            rintro _ h2 ⟨rfl, e⟩
            rw [e]
            simp only [asTu_t, hdO_c, asI_i64, List.isEmpty_nil, cond_t, Option.bind_some]
            exact J4 h28 w d _ _ _ oi w29
          · refine Ok.bind (commitU (by omega) (by omega) (by omega) (by omega) w29) ?_
            rintro _ h2 ⟨rfl, M, t, w2⟩
            obtain ⟨m1, m2, m3⟩ := ld ((w2.g 3 rfl : h2.get ob = _))
            simp only [asTu_t, hdO_c, asI_i64, List.isEmpty_nil, cond_t, Option.bind_some, m1, m3]
            refine Ok.bind (rCommit_ok (by omega) (by omega) (by omega) (by omega) oi.s (w2.mv 1 rfl : H h2 (aRQ r w d :: _))) ?_
            rintro _ h4 ⟨rfl, M', t', w4⟩
            obtain rfl := t.uniq t'
            simp only [asTu_t, hdO_c, asI_i64, List.isEmpty_nil, cond_t, Option.bind_some]
            refine J4 h4 _ _ _ _ _ ⟨t.1, ?_⟩ (w4.mv 1 rfl)
            have := of_not_len x.o w
            rw [t.perm]
            simp only [List.length_append, List.length_map]; omega
        rw [dec_f k2, cond_f]
        by_cases k3 : x.k = 3
        · rw [dec_t k3, cond_t]
          simp only [Option.bind_some, l1]
          refine Ok.bind (drop_ok (by omega) w29) ?_
          rintro _ h2 ⟨rfl, w2⟩
          obtain ⟨m1, m2, m3⟩ := ld ((w2.g 3 rfl : h2.get ob = _))
          simp only [asI_i64, Option.bind_some, m1, veqI, cond_t]
          refine Ok.bind (rBack_ok (m := 0) (by omega) (by omega) (w2.mv 1 rfl : H h2 (aRQ r w d :: _))) ?_
          rintro _ h4 ⟨rfl, w4⟩
          rw [stay0_all] at w4
          simp only [asI_i64, Option.bind_some, out0_all]
          have := notO_le x.o w
          exact J4 h4 _ d _ _ _ ⟨oi.s, by omega⟩ (w4.mv 1 rfl)
        rw [dec_f k3, cond_f]
        by_cases k4 : x.k = 4
        · rw [dec_t k4, cond_t]
          simp only [Option.bind_some, l3]
          refine Ok.bind (take_ok (by omega) (by omega) w29) ?_
          rintro _ h2 ⟨a, c, rfl, w2⟩
          obtain ⟨m1, m2, m3⟩ := ld ((w2.g 4 rfl : h2.get ob = _))
          simp only [asS_s, Option.bind_some, m3, veqI, cond_t]
          refine Ok.bind (rTake_ok (upto := x.v) (by omega) (w2.mv 2 rfl : H h2 (aRQ r w d :: _))) ?_
          rintro _ h4 ⟨a', c', rfl, w4⟩
          obtain ⟨f1, f2⟩ := tk_filter (upto := x.v) oi.s
          rw [f1, f2] at w4
          rw [f1]
          have htl : tkN x.v d = (d.take (tkN x.v d)).length := by have := tkN_le x.v d; rw [List.length_take]; omega
          simp only [asS_s, Option.bind_some]
          have oi' : OI w (d.drop (tkN x.v d)) := ⟨by
            have := oi.s
            rw [← List.take_append_drop (tkN x.v d) d] at this
            exact this.right, by rw [List.length_drop]; omega⟩
          have hle : (d.take (tkN x.v d)).length ≤ 1024 := by rw [List.length_take]; omega
          generalize d.drop (tkN x.v d) = D at *
          generalize d.take (tkN x.v d) = T at *
          generalize tkN x.v d = m at *
          subst htl
          rw [dec_t rfl, Bool.not_true, cond_f]
          refine Ok.le ?_ law19_AfterTells_j7_le
          exact tk_loop (T := T) (c := c) (c' := c') (w := w) (d := D) hle J4 oi' T.length 0 h4 rfl (by omega) (w4.pm [2, 0, 3, 1])
        rw [dec_f k4, cond_f]
        by_cases k5 : x.k = 5
        · rw [dec_t k5, cond_t]
          simp only [Option.bind_some, l1]
          refine Ok.bind (mark_ok (by omega) w29) ?_
          rintro _ h2 ⟨rfl, w2⟩
          obtain ⟨m1, m2, m3⟩ := ld ((w2.g 3 rfl : h2.get ob = _))
          simp only [asI_i64, Option.bind_some, m1, veqI, cond_t]
          refine Ok.bind (rMark_ok (by omega) (w2.mv 1 rfl : H h2 (aRQ r w d :: _))) ?_
          rintro _ h3 ⟨rfl, e⟩
          rw [e]
          simp only [asI_i64, Option.bind_some]
          exact J4 h2 w d _ _ _ oi w2
        rw [dec_f k5, cond_f]
        by_cases k6 : x.k = 6
        · rw [dec_t k6, cond_t]
          simp only [Option.bind_some, l1, l2']
          by_cases hm : x.a < 0
          · refine Ok.bind (back_neg hm w29) ?_
            rintro _ h2 ⟨rfl, e⟩
            rw [e]
            simp only [asI_i64, Option.bind_some, l1, l2', veqI, cond_t]
            refine Ok.bind (rBack_neg hm) ?_
            rintro _ h2 ⟨rfl, e⟩
            rw [e]
            simp only [asI_i64, Option.bind_some]
            exact J4 h28 w d _ _ _ oi w29
          · refine Ok.bind (backU (by omega) (by omega) (by omega) w29) ?_
            rintro _ h2 ⟨rfl, w2⟩
            obtain ⟨m1, m2, m3⟩ := ld ((w2.g 3 rfl : h2.get ob = _))
            simp only [asI_i64, Option.bind_some, m1, m2, veqI, cond_t]
            refine Ok.bind (rBack_ok (by omega) (by omega) (w2.mv 1 rfl : H h2 (aRQ r w d :: _))) ?_
            rintro _ h4 ⟨rfl, w4⟩
            simp only [asI_i64, Option.bind_some]
            have := stay_le x.o x.a w
            exact J4 h4 _ d _ _ _ ⟨oi.s, by omega⟩ (w4.mv 1 rfl)
        rw [dec_f k6, cond_f]
        exact J4 h28 w d 0 0 _ oi w29
    by_cases k0 : x.k = 0
    · rw [dec_t k0, cond_t]; exact J8 true fun _ => .inl k0
    · rw [dec_f k0, cond_f]
      by_cases k1 : x.k = 1
      · rw [dec_t k1]; exact J8 true fun _ => .inr k1
      · rw [dec_f k1]; exact J8 false fun h => by cases h
theorem main (h : AH) {a1 : Option Addr} {l2 c3 : Nat} {ops : List Op} (hs : SlIn h encOp goodOp a1 l2 c3 ops) : Ok (C k_law19_AfterTells [.slice a1 l2 c3] h) Q := by
  have w : H h [aRds [(a1, ops.flatMap encOp)]] := H.args (by
    intro p hp
    simp only [List.mem_cons, List.not_mem_nil, or_false] at hp
    subst hp
    exact hs.rd)
  obtain rfl := hs.len
  refine Ok.le ?_ law19_AfterTells_le
  unfold F_law19_AfterTells
  have w1 := w.push (.cells [.bool true, .slice none 0 0, .slice none 0 0] false false 3)
  have e : C k_after_New_int [] h = some (.pointer (some ⟨h.n, 0, none⟩), h.push (.cells [.bool true, .slice none 0 0, .slice none 0 0] false false 3)) := after_New_int_le _ rfl
  simp only [e, Option.bind_some, asP_p, Option.isNone_some, cond_f]
  generalize h.push (.cells [.bool true, .slice none 0 0, .slice none 0 0] false false 3) = h1 at w1 ⊢
  have w2 : H h1 (Qb h.n none ([] : List En).length 0 none ([] : List En).length 0 :: aOs none ([] : List En).length 0 (([] : List En).flatMap encN) :: aOs none ([] : List En).length 0 (([] : List En).flatMap encN) :: aRds [(a1, ops.flatMap encOp)] :: []) := (os_nil (os_nil w1)).pm [2, 0, 1]
  have w3 := qClose w2
  refine Ok.le ?_ law19_AfterTells_j10_le
  have w4 := w3.push (.cells [.slice none 0 0, .slice none 0 0] false false 2)
  have w5 : H _ (Rb h1.n none ([] : List En).length 0 none ([] : List En).length 0 :: aRl none 0 [] :: aRl none 0 [] :: aQu h.n [] [] :: aRds [(a1, ops.flatMap encOp)] :: []) := (os_nil (os_nil w4)).pm [2, 0, 1]
  have w6 := (rClose w5).u1
  exact law_loop hs.good (by simp) 1200 0 _ [] [] [] rfl (by omega) ⟨sd_nil, by simp⟩ ((rClose w5).mv 1 rfl)
end
end ATell
end Go.Lg.Try
