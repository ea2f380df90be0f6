/- The laws' play on Sets[int]. -/
import Derived.Test.YtciiigaagggefaaPsets4
import Derived.Test.YtciiigaagggefaaFlaw15
import Derived.Test.YtciiigaagggefaaEv33
set_option linter.unusedVariables false
set_option linter.unusedSimpArgs false
namespace Go.Lg.Try
set_option linter.unusedVariables false
set_option linter.unusedSimpArgs false
open Go Go.Proofs
theorem Rd.same {h h' : AH} {a : Option Addr} {cs : List Value} (hr : Rd h a cs) (hg : ∀ b, b < h.n → blk a b → h'.get b = h.get b) (hn : h.n ≤ h'.n) : Rd h' a cs := by
  rcases hr with rfl | ⟨ad, c, op, ro, e, rfl, h1, h2, h3⟩
  · exact .inl rfl
  · exact .inr ⟨ad, c, op, ro, e, rfl, by rw [hg _ h2 rfl]; exact h1, Nat.lt_of_lt_of_le h2 hn, h3⟩
structure SOp where
  kind : Int
  i : Int
  v : Int
  ver : Int
def encSOp (x : SOp) : List Value := [.int .i64 x.kind, .int .i64 x.i, .int .i64 x.v, .int .i64 x.ver]
theorem encSOp_len (x : SOp) : (encSOp x).length = 4 := rfl
structure Wf (σ : St) (N : Nat) : Prop where
  rk : ∀ i ∈ σ.reads.map Prod.fst, 0 ≤ i ∧ i < 1024
  wk : ∀ i ∈ σ.writes.map Prod.fst, 0 ≤ i ∧ i < 1024
  pk : ∀ o ∈ σ.past, 0 ≤ o.i ∧ o.i < 1024
  ml : σ.marks.length ≤ 8
  m0 : ∀ x ∈ σ.marks, 0 ≤ x
  sz : σ.reads.length + σ.writes.length + σ.past.length ≤ N
theorem wk_of {l : List Int} (h : ∀ i ∈ l, 0 ≤ i ∧ i < 1024) : Wk l := fun x hx => by
  have := h x hx
  have e1 : IntKind.min .i64 = -9223372036854775808 := by decide
  have e2 : IntKind.max .i64 = 9223372036854775807 := by decide
  simp only [Lit.wf, Bool.and_eq_true, decide_eq_true_eq, e1, e2]
  omega
theorem put_keys {l : List (Int × Int)} (h : ∀ i ∈ l.map Prod.fst, 0 ≤ i ∧ i < 1024) {i : Int} (hi : 0 ≤ i ∧ i < 1024) (v : Int) : ∀ j ∈ (aputL l i v).map Prod.fst, 0 ≤ j ∧ j < 1024 := by
  intro j hj
  rw [keys_put] at hj
  split at hj
  · exact h j hj
  · rcases List.mem_append.mp hj with hj | hj
    · exact h j hj
    · obtain rfl : j = i := by simpa using hj
      exact hi
theorem put_len (l : List (Int × Int)) (i v : Int) : (aputL l i v).length ≤ l.length + 1 := by
  rw [len_put]; split <;> omega
theorem del_keys {l : List (Int × Int)} (h : ∀ i ∈ l.map Prod.fst, 0 ≤ i ∧ i < 1024) (i : Int) : ∀ j ∈ (adelL l i).map Prod.fst, 0 ≤ j ∧ j < 1024 := by
  intro j hj
  rw [keys_del] at hj
  exact h j (List.mem_of_mem_erase hj)
theorem del_len (l : List (Int × Int)) (i : Int) : (adelL l i).length ≤ l.length := by
  have := congrArg List.length (keys_del i l)
  rw [List.length_map] at this
  rw [this]
  exact Nat.le_trans (List.length_erase_le) (by rw [List.length_map]; exact Nat.le_refl _)
theorem backs_ok : ∀ (p : List Old) {w : List (Int × Int)}, (∀ i ∈ w.map Prod.fst, 0 ≤ i ∧ i < 1024) → (∀ o ∈ p, 0 ≤ o.i ∧ o.i < 1024) → (∀ i ∈ (p.foldl back w).map Prod.fst, 0 ≤ i ∧ i < 1024) ∧ (p.foldl back w).length ≤ w.length + p.length := by
  intro p
  induction p with
  | nil => intro w hw _; exact ⟨hw, by simp⟩
  | cons o p ih =>
    intro w hw hp
    have ho := hp o (by simp)
    have h1 : (∀ i ∈ (back w o).map Prod.fst, 0 ≤ i ∧ i < 1024) ∧ (back w o).length ≤ w.length + 1 := by
      unfold back
      split
      · exact ⟨del_keys hw _, by have := del_len w o.i; omega⟩
      · exact ⟨put_keys hw ho _, put_len _ _ _⟩
    obtain ⟨a, b⟩ := ih h1.1 fun o ho => hp o (by simp [ho])
    exact ⟨a, by simp only [List.foldl_cons, List.length_cons]; omega⟩
def pstep (b : Bool) (σ : St) (x : SOp) : St :=
  if x.kind = 0 ∨ x.kind = 1 then (σ.read x.i x.ver).2 else if x.kind = 2 ∨ x.kind = 3 then (σ.write x.i x.v).2
  else if x.kind = 4 then (if b then σ.mark.2 else σ) else if x.kind = 5 then (if b then σ.keep.2 else σ) else if x.kind = 6 then (if b then σ.undo.2 else σ) else σ
section
variable {σ : St} {N : Nat}
theorem Wf.more (w : Wf σ N) {M : Nat} (h : N ≤ M) : Wf σ M := ⟨w.rk, w.wk, w.pk, w.ml, w.m0, Nat.le_trans w.sz h⟩
theorem Wf.read (w : Wf σ N) (i v : Int) : Wf (σ.read i v).2 (N + 2) := by
  unfold St.read readM
  have hsz := w.sz
  by_cases a : i < 0 ∨ 1024 ≤ i
  · simp only [if_pos a]; exact w.more (by omega)
  · simp only [if_neg a]
    split
    · exact w.more (by omega)
    · split
      · split <;> exact w.more (by omega)
      · split
        · exact w.more (by omega)
        · exact ⟨put_keys w.rk (by omega) v, w.wk, w.pk, w.ml, w.m0, by have := put_len σ.reads i v; simp only; omega⟩
theorem Wf.write (w : Wf σ N) (i v : Int) : Wf (σ.write i v).2 (N + 2) := by
  unfold St.write
  have hsz := w.sz
  by_cases a : i < 0 ∨ 1024 ≤ i
  · simp only [if_pos a]; exact w.more (by omega)
  · simp only [if_neg a]
    split
    · exact w.more (by omega)
    · have hp := put_len σ.writes i v
      refine ⟨w.rk, put_keys w.wk (by omega) v, ?_, w.ml, w.m0, ?_⟩
      · intro o ho
        simp only at ho
        split at ho
        · exact w.pk o ho
        · rcases List.mem_append.mp ho with ho | ho
          · exact w.pk o ho
          · obtain rfl : o = oldOf σ.writes i := by simpa using ho
            show 0 ≤ i ∧ i < 1024
            omega
      · simp only
        split
        · omega
        · rw [List.length_append, List.length_singleton]; omega
theorem Wf.mark (w : Wf σ N) : Wf σ.mark.2 (N + 2) := by
  unfold St.mark
  have := w.ml
  split
  · exact w.more (by omega)
  · refine ⟨w.rk, w.wk, w.pk, by simp only [List.length_append, List.length_singleton]; omega, fun x hx => ?_, by have := w.sz; simp only; omega⟩
    rcases List.mem_append.mp hx with hx | hx
    · exact w.m0 x hx
    · obtain rfl : x = ((σ.past.length : Nat) : Int) := by simpa using hx
      omega
theorem Wf.keep (w : Wf σ N) : Wf σ.keep.2 (N + 2) := by
  unfold St.keep
  have hsz := w.sz
  split
  · exact w.more (by omega)
  · rename_i c
    have e : σ.last.2.2 = { σ with marks := σ.marks.take (σ.marks.length - 1) } := by simp only [St.last, if_neg c]
    have hm := w.ml
    refine ⟨by rw [e]; exact w.rk, by rw [e]; exact w.wk, fun o ho => ?_, by rw [e]; simp only [List.length_take]; omega, fun x hx => ?_, ?_⟩
    · simp only at ho
      split at ho
      · simp at ho
      · exact w.pk o ho
    · rw [e] at hx; exact w.m0 x (List.mem_of_mem_take hx)
    · rw [e]; simp only
      split
      · simp only [List.length_nil]; omega
      · omega
theorem Wf.undo (w : Wf σ N) : Wf σ.undo.2 (N + 2) := by
  unfold St.undo
  have hsz := w.sz
  split
  · exact w.more (by omega)
  · rename_i c
    have e : σ.last.2.2 = { σ with marks := σ.marks.take (σ.marks.length - 1) } := by simp only [St.last, if_neg c]
    have hm := w.ml
    obtain ⟨b1, b2⟩ := backs_ok (σ.past.drop σ.last.1.toNat).reverse w.wk (fun o ho => w.pk o (List.mem_of_mem_drop (List.mem_reverse.mp ho)))
    refine ⟨by rw [e]; exact w.rk, b1, fun o ho => w.pk o (List.mem_of_mem_take ho), by rw [e]; simp only [List.length_take]; omega, fun x hx => ?_, ?_⟩
    · rw [e] at hx; exact w.m0 x (List.mem_of_mem_take hx)
    · rw [e]; simp only
      rw [List.length_reverse, List.length_drop] at b2
      unfold backs
      rw [List.length_take]
      omega
theorem Wf.step (w : Wf σ N) (b : Bool) (x : SOp) : Wf (pstep b σ x) (N + 2) := by
  unfold pstep
  split
  · exact w.read _ _
  · split
    · exact w.write _ _
    · split
      · split
        · exact w.mark
        · exact w.more (by omega)
      · split
        · split
          · exact w.keep
          · exact w.more (by omega)
        · split
          · split
            · exact w.undo
            · exact w.more (by omega)
          · exact w.more (by omega)
theorem Wf.new : Wf {} 0 := ⟨fun _ h => by simp at h, fun _ h => by simp at h, fun _ h => by simp at h, by simp, fun _ h => by simp at h, by simp⟩
def plays (b : Bool) (σ : St) (l : List SOp) : St := l.foldl (pstep b) σ
theorem Wf.plays (b : Bool) : ∀ (l : List SOp) {σ : St} {N : Nat}, Wf σ N → Wf (plays b σ l) (N + 2 * l.length)
  | [], _, _, w => w
  | x :: l, _, _, w => by have := Wf.plays b l (w.step b x); refine this.more ?_; simp only [List.length_cons]; omega
end
theorem op_read {h : AH} {a : Option Addr} {ops : List SOp} (hr : Rd h a (ops.flatMap encSOp)) {k : Nat} {x : SOp} (hx : ops[k]? = some x) : ∃ ad, a = some ad ∧
    h.ldI .i64 ad.block (ad.off + k * 4) = some x.kind ∧ h.ldI .i64 ad.block (ad.off + k * 4 + 1) = some x.i ∧ h.ldI .i64 ad.block (ad.off + k * 4 + 2) = some x.v ∧ h.ldI .i64 ad.block (ad.off + k * 4 + 3) = some x.ver := by
  have hc : ∀ j, j < 4 → (ops.flatMap encSOp)[k * 4 + j]? = (encSOp x)[j]? := fun j hj => flat_get_some encSOp_len hj hx
  obtain ⟨ad, rfl, hrd⟩ := hr.some (by intro e; have := hc 0 (by decide); rw [e] at this; simp [encSOp] at this)
  exact ⟨ad, rfl, (hrd _).1 _ _ (hc 0 (by decide)), by rw [Nat.add_assoc]; exact (hrd _).1 _ _ (hc 1 (by decide)), by rw [Nat.add_assoc]; exact (hrd _).1 _ _ (hc 2 (by decide)), by rw [Nat.add_assoc]; exact (hrd _).1 _ _ (hc 3 (by decide))⟩
section
variable {a2 : Option Addr} {l3 c4 : Nat} {ops : List SOp} {s : Nat} {b5 : Bool}
theorem play_loop (hl : l3 = ops.length) : ∀ (n k : Nat) {h : AH} {A : SA} {σ : St} {N : Nat}, 200 - k = n → k ≤ 200 → SQ h s A σ → Wf σ N → N + 2 * n < 1000000 → Rd h a2 (ops.flatMap encSOp) → (∀ b, blk a2 b → ¬ own s A b) → (∀ b, blk a2 b → b < h.n) →
    Ok (law15_play_L1 l3 a2 (some ⟨s, 0, none⟩) b5 c4 k h) fun x h' => x = .tuple #[] ∧ ∃ A', SQ h' s A' (plays b5 σ ((ops.take 200).drop k)) ∧ Mv s A A' h h' := by
  intro n
  induction n with
  | zero =>
    intro k h A σ N hn hk hs hw hN hr ho hb
    refine Ok.le ?_ law15_play_L1_le
    have e : (ops.take 200).drop k = [] := List.drop_of_length_le (by rw [List.length_take]; omega)
    rw [e]
    rw [dec_f (show ¬((k : Nat) : Int) < 200 by omega), cond_f]
    cases decide (((k : Nat) : Int) < ((l3 : Nat) : Int)) <;> exact Ok.some ⟨rfl, A, hs, .refl _ _ _⟩
  | succ n ih =>
    intro k h A σ N hn hk hs hw hN hr ho hb
    refine Ok.le ?_ law15_play_L1_le
    by_cases c : k < ops.length
    · rw [dec_t (by omega), cond_t, dec_t (show ((k : Nat) : Int) < 200 by omega), cond_t]
      refine Ok.le ?_ law15_play_j4_le
      obtain ⟨x, hx⟩ : ∃ x, ops[k]? = some x := ⟨_, List.getElem?_eq_getElem c⟩
      obtain ⟨ad, rfl, r0, r1, r2, r3⟩ := op_read hr hx
      obtain ⟨h15, g1, g2, g3, g4⟩ := push_st h [.int .i64 0, .int .i64 0, .int .i64 0, .int .i64 0] (encSOp x) 4 rfl
      have g1' : (h.push (.cells [.int .i64 0, .int .i64 0, .int .i64 0, .int .i64 0] false false 4)).st h.n 0 [.int .i64 x.kind, .int .i64 x.i, .int .i64 x.v, .int .i64 x.ver] = some h15 := g1
      have d : ((ops.take 200).drop k) = x :: (ops.take 200).drop (k + 1) := by
        have hk' : k < (ops.take 200).length := by rw [List.length_take]; omega
        rw [List.drop_eq_getElem_cons hk']
        congr 1
        rw [List.getElem_take]
        exact Option.some.inj ((List.getElem?_eq_getElem c).symm.trans hx)
      simp only [Option.bind_some, inB_t (show (0 : Int) ≤ ((k : Nat) : Int) by omega) (show ((k : Nat) : Int) < ((l3 : Nat) : Int) by omega), cond_t, Int.toNat_natCast, r0, r1, r2, r3, g1', AH.ldI_of (k := .i64) (o := 0 + 0) g2 rfl]
      have hs15 := hs.fr g3
      have mv15 : Mv s A A h h15 := .fr g3
      have L1 : ∀ (b : Bool) {h' : AH} {A' : SA} {σ' : St}, SQ h' s A' σ' → Wf σ' (N + 2) → Mv s A A' h h' → σ' = pstep b5 σ x → Ok (law15_play_j1 l3 (some ad) (some ⟨s, 0, none⟩) b5 c4 k h') fun x h' => x = .tuple #[] ∧ ∃ A', SQ h' s A' (plays b5 σ ((ops.take 200).drop k)) ∧ Mv s A A' h h' := by
        intro _ h' A' σ' q1 q2 q3 q4
        refine Ok.le ?_ law15_play_j1_le
        have hwr : IntKind.wrap .i64 (((k : Nat) : Int) + 1) = ((k + 1 : Nat) : Int) := by rw [wrap64 (by omega) (by omega)]; omega
        rw [hwr]
        refine Ok.mono (ih (k + 1) (N := N + 2) (by omega) (by omega) q1 q2 (by omega) (Rd.same hr (fun b hb1 hb2 => q3.g b hb1 (ho b hb2)) q3.n) (fun b hb2 ho' => (q3.o b ho').elim (ho b hb2) fun h1 => by have := hb b hb2; omega) (fun b hb2 => Nat.lt_of_lt_of_le (hb b hb2) q3.n)) ?_
        rintro y h6 ⟨rfl, A6, t1, t2⟩
        refine ⟨rfl, A6, ?_, q3.trans t2⟩
        rw [d, plays, List.foldl_cons, ← q4]
        exact t1
      have stay : pstep b5 σ x = σ → Ok (law15_play_j1 l3 (some ad) (some ⟨s, 0, none⟩) b5 c4 k h15) fun x h' => x = .tuple #[] ∧ ∃ A', SQ h' s A' (plays b5 σ ((ops.take 200).drop k)) ∧ Mv s A A' h h' := fun e => L1 true hs15 (hw.more (by omega)) mv15 e.symm
      have j2 : ¬(x.kind = 0 ∨ x.kind = 1) → ∀ b, (b = true ↔ x.kind = 2 ∨ x.kind = 3) → Ok (law15_play_j2 (some ⟨h.n, 0, none⟩) h15 (some ⟨s, 0, none⟩) l3 (some ad) b5 c4 k x.kind b) fun x h' => x = .tuple #[] ∧ ∃ A', SQ h' s A' (plays b5 σ ((ops.take 200).drop k)) ∧ Mv s A A' h h' := by
        intro h0 b hb
        refine Ok.le ?_ law15_play_j2_le
        cases b with
        | true =>
          have e : pstep b5 σ x = (σ.write x.i x.v).2 := by rw [pstep, if_neg h0, if_pos (hb.mp rfl)]
          simp only [cond_t, Option.bind_some, AH.ldI_of (k := .i64) (o := 0 + 1) g2 rfl, AH.ldI_of (k := .i64) (o := 0 + 2) g2 rfl]
          refine Ok.bind (set_write hs15 (by have := hw.sz; omega) x.i x.v) ?_
          rintro _ h2 ⟨rfl, A2, q1, q2⟩
          simp only [asI_i64, Option.bind_some]
          exact L1 true q1 (hw.write _ _) (mv15.trans q2) e.symm
        | false =>
          have h1 : ¬(x.kind = 2 ∨ x.kind = 3) := fun e => by have := hb.mpr e; simp at this
          rw [cond_f]
          by_cases c4' : x.kind = 4
          · rw [dec_t c4', cond_t]
            have e : pstep b5 σ x = if b5 then σ.mark.2 else σ := by rw [pstep, if_neg h0, if_neg h1, if_pos c4']
            cases b5 with
            | true =>
              rw [cond_t]
              refine Ok.bind (set_mark hs15 hw.ml) ?_
              rintro _ h2 ⟨rfl, A2, q1, q2⟩
              simp only [asI_i64, Option.bind_some]
              exact L1 true q1 hw.mark (mv15.trans q2) (by rw [e]; rfl)
            | false => rw [cond_f]; exact stay (by rw [e]; rfl)
          · rw [dec_f c4', cond_f]
            by_cases c5 : x.kind = 5
            · rw [dec_t c5, cond_t]
              have e : pstep b5 σ x = if b5 then σ.keep.2 else σ := by rw [pstep, if_neg h0, if_neg h1, if_neg c4', if_pos c5]
              cases b5 with
              | true =>
                rw [cond_t]
                refine Ok.bind (set_keep hs15 hw.ml) ?_
                rintro _ h2 ⟨rfl, A2, q1, q2⟩
                simp only [asI_i64, Option.bind_some]
                exact L1 true q1 hw.keep (mv15.trans q2) (by rw [e]; rfl)
              | false => rw [cond_f]; exact stay (by rw [e]; rfl)
            · rw [dec_f c5, cond_f]
              by_cases c6 : x.kind = 6
              · rw [dec_t c6, cond_t]
                have e : pstep b5 σ x = if b5 then σ.undo.2 else σ := by rw [pstep, if_neg h0, if_neg h1, if_neg c4', if_neg c5, if_pos c6]
                cases b5 with
                | true =>
                  rw [cond_t]
                  refine Ok.bind (set_undo hs15 hw.ml (by have := hw.sz; omega) hw.m0) ?_
                  rintro _ h2 ⟨rfl, A2, q1, q2⟩
                  simp only [asI_i64, Option.bind_some]
                  exact L1 true q1 hw.undo (mv15.trans q2) (by rw [e]; rfl)
                | false => rw [cond_f]; exact stay (by rw [e]; rfl)
              · rw [dec_f c6, cond_f]
                exact stay (by rw [pstep, if_neg h0, if_neg h1, if_neg c4', if_neg c5, if_neg c6])
      have j3 : ∀ b, (b = true ↔ x.kind = 0 ∨ x.kind = 1) → Ok (law15_play_j3 h15 (some ⟨s, 0, none⟩) l3 (some ad) b5 c4 k x.kind (some ⟨h.n, 0, none⟩) b) fun x h' => x = .tuple #[] ∧ ∃ A', SQ h' s A' (plays b5 σ ((ops.take 200).drop k)) ∧ Mv s A A' h h' := by
        intro b hb
        refine Ok.le ?_ law15_play_j3_le
        cases b with
        | true =>
          have e : pstep b5 σ x = (σ.read x.i x.ver).2 := by rw [pstep, if_pos (hb.mp rfl)]
          simp only [cond_t, Option.bind_some, AH.ldI_of (k := .i64) (o := 0 + 1) g2 rfl, AH.ldI_of (k := .i64) (o := 0 + 3) g2 rfl]
          refine Ok.bind (set_rd hs15 x.i x.ver) ?_
          rintro _ h2 ⟨rfl, q1, q2⟩
          simp only [asI_i64, Option.bind_some]
          exact L1 true q1 (hw.read _ _) (mv15.trans q2) e.symm
        | false =>
          have h1 : ¬(x.kind = 0 ∨ x.kind = 1) := fun e => by have := hb.mpr e; simp at this
          rw [cond_f]
          by_cases c2 : x.kind = 2
          · rw [dec_t c2, cond_t]; exact j2 h1 _ (by simp [c2])
          · rw [dec_f c2, cond_f]; exact j2 h1 _ (by simp [c2])
      by_cases c0 : x.kind = 0
      · rw [dec_t c0, cond_t]; exact j3 _ (by simp [c0])
      · rw [dec_f c0, cond_f]; exact j3 _ (by simp [c0])
    · rw [dec_f (by omega), cond_f]
      have e : (ops.take 200).drop k = [] := List.drop_of_length_le (by rw [List.length_take]; omega)
      rw [e]
      exact Ok.some ⟨rfl, A, hs, .refl _ _ _⟩
theorem play_ok (hl : l3 = ops.length) {h : AH} {A : SA} {σ : St} {N : Nat} (hs : SQ h s A σ) (hw : Wf σ N) (hN : N < 900000) (hr : Rd h a2 (ops.flatMap encSOp)) (ho : ∀ b, blk a2 b → ¬ own s A b) (hb : ∀ b, blk a2 b → b < h.n) :
    Ok (C k_law15_play [ptr s, .slice a2 l3 c4, .bool b5] h) fun x h' => x = .tuple #[] ∧ ∃ A', SQ h' s A' (plays b5 σ (ops.take 200)) ∧ Mv s A A' h h' := by
  refine Ok.le ?_ law15_play_le
  exact play_loop hl 200 0 rfl (by omega) hs hw (by omega) hr ho hb
end
end Go.Lg.Try

namespace Go.Lg.Try
set_option linter.unusedVariables false
set_option linter.unusedSimpArgs false
open Go Go.Proofs
theorem aput_back {l : List (Int × Int)} {i x : Int} (v : Int) (h : alook l i = some x) : aputL (aputL l i v) i x = l := by
  induction l with
  | nil => simp [alook] at h
  | cons p l ih =>
    unfold alook at h
    by_cases c : p.1 = i
    · rw [if_pos c] at h
      obtain rfl := Option.some.inj h
      subst c
      simp [aputL]
    · rw [if_neg c] at h
      have := ih h
      simp [aputL, c, this]
theorem adel_back {l : List (Int × Int)} {i : Int} (v : Int) (h : alook l i = none) : adelL (aputL l i v) i = l := by
  induction l with
  | nil => simp [aputL, adelL]
  | cons p l ih =>
    unfold alook at h
    by_cases c : p.1 = i
    · rw [if_pos c] at h; simp at h
    · rw [if_neg c] at h
      have := ih h
      simp [aputL, adelL, c, this]
theorem back_put (l : List (Int × Int)) (i v : Int) : back (aputL l i v) (oldOf l i) = l := by
  unfold back oldOf
  cases h : alook l i with
  | none => simp only [aok, Option.isSome_none, Bool.not_false, if_true]; exact adel_back v h
  | some x => simp only [aok, Option.isSome_some, Bool.not_true, Bool.false_eq_true, if_false]; exact aput_back v h
theorem backs_append (w : List (Int × Int)) (a b : List Old) : backs w (a ++ b) = backs (backs w b) a := by
  unfold backs; rw [List.reverse_append, List.foldl_append]
theorem backs_one (w : List (Int × Int)) (o : Old) : backs w [o] = back w o := rfl
/-- the marks from one on, and what taking back to it leaves -/
structure Jv (σ : St) (D n : Nat) (w0 : List (Int × Int)) : Prop where
  dl : D < σ.marks.length
  at_ : σ.marks[D]? = some (n : Int)
  ge : ∀ j x, D ≤ j → σ.marks[j]? = some x → (n : Int) ≤ x ∧ x ≤ (σ.past.length : Nat)
  bk : backs σ.writes (σ.past.drop n) = w0
namespace Jv
variable {σ : St} {D n : Nat} {w0 : List (Int × Int)}
theorem pn (j : Jv σ D n w0) : n ≤ σ.past.length := by have := (j.ge D n (Nat.le_refl _) j.at_).2; omega
theorem read (j : Jv σ D n w0) (i v : Int) : Jv (σ.read i v).2 D n w0 := ⟨j.dl, j.at_, j.ge, j.bk⟩
theorem write (j : Jv σ D n w0) (i v : Int) : Jv (σ.write i v).2 D n w0 := by
  have hn := j.pn
  unfold St.write
  split
  · exact j
  · split
    · exact j
    · have hm : ¬σ.marks.length = 0 := by have := j.dl; omega
      simp only [hm, if_false]
      refine ⟨j.dl, j.at_, fun k x hk hx => ?_, ?_⟩
      · have := j.ge k x hk hx
        simp only [List.length_append, List.length_singleton]
        omega
      · show backs (aputL σ.writes i v) ((σ.past ++ [oldOf σ.writes i]).drop n) = w0
        rw [List.drop_append_of_le_length hn, backs_append, backs_one, back_put]
        exact j.bk
theorem mark (j : Jv σ D n w0) : Jv σ.mark.2 D n w0 := by
  have hn := j.pn
  unfold St.mark
  split
  · exact j
  · have hd := j.dl
    refine ⟨by simp only [List.length_append]; omega, ?_, fun k x hk hx => ?_, j.bk⟩
    · show (σ.marks ++ [_])[D]? = _
      rw [List.getElem?_append_left hd]; exact j.at_
    · simp only at hx ⊢
      by_cases c : k < σ.marks.length
      · rw [List.getElem?_append_left c] at hx; exact j.ge k x hk hx
      · rw [List.getElem?_append_right (by omega)] at hx
        have hk0 : k - σ.marks.length = 0 := by
          by_cases e : k - σ.marks.length = 0
          · exact e
          · rw [List.getElem?_eq_none (by simp; omega)] at hx; simp at hx
        rw [hk0] at hx
        obtain rfl : ((σ.past.length : Nat) : Int) = x := by simpa using hx
        omega
theorem keep (j : Jv σ D n w0) (h : D + 1 < σ.marks.length) : Jv σ.keep.2 D n w0 := by
  unfold St.keep St.last
  have h0 : ¬σ.marks.length = 0 := by omega
  have h1 : ¬σ.marks.length = 1 := by omega
  simp only [h0, h1, if_false]
  refine ⟨by simp only [List.length_take]; omega, ?_, fun k x hk hx => ?_, j.bk⟩
  · show (σ.marks.take _)[D]? = _
    rw [List.getElem?_take_of_lt (by omega)]; exact j.at_
  · simp only at hx
    have hk1 : k < σ.marks.length - 1 := by have := (List.getElem?_eq_some_iff.mp hx).1; rw [List.length_take] at this; omega
    rw [List.getElem?_take_of_lt hk1] at hx
    exact j.ge k x hk hx
/-- the marks between are in order -/
theorem undo (j : Jv σ D n w0) (h : D + 1 < σ.marks.length) (hs : ∀ (k m : Nat) (x y : Int), k ≤ m → σ.marks[k]? = some x → σ.marks[m]? = some y → x ≤ y) : Jv σ.undo.2 D n w0 := by
  unfold St.undo St.last
  have h0 : ¬σ.marks.length = 0 := by omega
  simp only [h0, if_false]
  obtain ⟨x, hx⟩ : ∃ x, σ.marks[σ.marks.length - 1]? = some x := ⟨_, List.getElem?_eq_getElem (by omega)⟩
  have hr := j.ge _ x (by omega) hx
  rw [hx, Option.getD_some]
  obtain ⟨k, rfl⟩ : ∃ k : Nat, x = k := ⟨x.toNat, by omega⟩
  rw [Int.toNat_natCast]
  refine ⟨by simp only [List.length_take]; omega, ?_, fun m y hm hy => ?_, ?_⟩
  · show (σ.marks.take _)[D]? = _
    rw [List.getElem?_take_of_lt (by omega)]; exact j.at_
  · simp only at hy ⊢
    have hk1 : m < σ.marks.length - 1 := by have := (List.getElem?_eq_some_iff.mp hy).1; rw [List.length_take] at this; omega
    rw [List.getElem?_take_of_lt hk1] at hy
    have h3 := j.ge m y hm hy
    have h4 := hs m (σ.marks.length - 1) y k (by omega) hy hx
    rw [List.length_take]
    omega
  · show backs (backs σ.writes (σ.past.drop k)) ((σ.past.take k).drop n) = w0
    rw [← backs_append, ← j.bk]
    congr 1
    have : σ.past.drop n = (σ.past.take k ++ σ.past.drop k).drop n := by rw [List.take_append_drop]
    rw [this, List.drop_append_of_le_length (by rw [List.length_take]; omega)]
end Jv
/-- the marks are in order -/
structure Mo (σ : St) : Prop where
  s : ∀ (k m : Nat) (x y : Int), k ≤ m → σ.marks[k]? = some x → σ.marks[m]? = some y → x ≤ y
  b : ∀ x ∈ σ.marks, x ≤ (σ.past.length : Nat)
namespace Mo
variable {σ : St}
theorem new : Mo {} := ⟨fun _ _ _ _ _ h => by simp at h, fun _ h => by simp at h⟩
theorem read (o : Mo σ) (i v : Int) : Mo (σ.read i v).2 := ⟨o.s, o.b⟩
theorem write (o : Mo σ) (i v : Int) : Mo (σ.write i v).2 := by
  unfold St.write
  split
  · exact o
  · split
    · exact o
    · refine ⟨o.s, fun x hx => ?_⟩
      have := o.b x hx
      simp only
      split
      · exact this
      · rw [List.length_append, List.length_singleton]; omega
theorem mark (o : Mo σ) : Mo σ.mark.2 := by
  unfold St.mark
  split
  · exact o
  · have last : ∀ (m : Nat) (y : Int), (σ.marks ++ [((σ.past.length : Nat) : Int)])[m]? = some y → m < σ.marks.length ∧ σ.marks[m]? = some y ∨ m = σ.marks.length ∧ y = (σ.past.length : Nat) := by
      intro m y hy
      by_cases c : m < σ.marks.length
      · rw [List.getElem?_append_left c] at hy; exact .inl ⟨c, hy⟩
      · rw [List.getElem?_append_right (by omega)] at hy
        have hk0 : m - σ.marks.length = 0 := by
          by_cases e : m - σ.marks.length = 0
          · exact e
          · rw [List.getElem?_eq_none (by simp; omega)] at hy; simp at hy
        rw [hk0] at hy
        exact .inr ⟨by omega, by simpa using hy.symm⟩
    refine ⟨fun k m x y hkm hx hy => ?_, fun x hx => ?_⟩
    · rcases last m y hy with ⟨h1, h2⟩ | ⟨h1, h2⟩
      · rcases last k x hx with ⟨g1, g2⟩ | ⟨g1, g2⟩
        · exact o.s k m x y hkm g2 h2
        · omega
      · rcases last k x hx with ⟨g1, g2⟩ | ⟨g1, g2⟩
        · rw [h2]; exact o.b x (List.mem_of_getElem? g2)
        · omega
    · rcases List.mem_append.mp hx with hx | hx
      · exact o.b x hx
      · obtain rfl : x = ((σ.past.length : Nat) : Int) := by simpa using hx
        exact Int.le_refl _
theorem sub (o : Mo σ) {k : Nat} {P : List Old} {w : List (Int × Int)} (h : ∀ x ∈ σ.marks.take k, x ≤ (P.length : Nat)) : Mo { σ with writes := w, past := P, marks := σ.marks.take k } := by
  refine ⟨fun a b x y hab hx hy => ?_, h⟩
  simp only at hx hy
  have h1 : a < k := by have := (List.getElem?_eq_some_iff.mp hx).1; rw [List.length_take] at this; omega
  have h2 : b < k := by have := (List.getElem?_eq_some_iff.mp hy).1; rw [List.length_take] at this; omega
  rw [List.getElem?_take_of_lt h1] at hx
  rw [List.getElem?_take_of_lt h2] at hy
  exact o.s a b x y hab hx hy
theorem keep (o : Mo σ) : Mo σ.keep.2 := by
  unfold St.keep St.last
  split
  · exact o
  · rename_i c
    simp only [c, if_false]
    refine o.sub (fun x hx => ?_)
    split
    · rename_i d
      rw [d] at hx; simp at hx
    · exact o.b x (List.mem_of_mem_take hx)
theorem undo (o : Mo σ) (h0 : ∀ x ∈ σ.marks, 0 ≤ x) : Mo σ.undo.2 := by
  unfold St.undo St.last
  split
  · exact o
  · rename_i c
    simp only [c, if_false]
    obtain ⟨y, hy⟩ : ∃ y, σ.marks[σ.marks.length - 1]? = some y := ⟨_, List.getElem?_eq_getElem (by omega)⟩
    refine o.sub (fun x hx => ?_)
    rw [hy, Option.getD_some, List.length_take]
    have hyb := o.b y (List.mem_of_getElem? hy)
    have hy0 := h0 y (List.mem_of_getElem? hy)
    obtain ⟨k, hk⟩ := List.getElem?_of_mem (List.mem_of_mem_take hx)
    have hkl := (List.getElem?_eq_some_iff.mp hk).1
    have := o.s k (σ.marks.length - 1) x y (by omega) hk hy
    omega
theorem step (o : Mo σ) {N : Nat} (w : Wf σ N) (b : Bool) (x : SOp) : Mo (pstep b σ x) := by
  unfold pstep
  split
  · exact o.read _ _
  · split
    · exact o.write _ _
    · split
      · split
        · exact o.mark
        · exact o
      · split
        · split
          · exact o.keep
          · exact o
        · split
          · split
            · exact o.undo w.m0
            · exact o
          · exact o
theorem plays (b : Bool) : ∀ (l : List SOp) {σ : St} {N : Nat}, Mo σ → Wf σ N → Mo (plays b σ l)
  | [], _, _, o, _ => o
  | x :: l, _, _, o, w => Mo.plays b l (o.step w b x) (w.step b x)
end Mo
/-- a mark's own beginning -/
theorem Jv.start {σ : St} (o : Mo σ) (h8 : ¬σ.marks.length = 8) : Jv σ.mark.2 σ.marks.length σ.past.length σ.writes := by
  unfold St.mark
  rw [if_neg h8]
  refine ⟨by simp only [List.length_append, List.length_singleton]; omega, ?_, fun k x hk hx => ?_, ?_⟩
  · show (σ.marks ++ [_])[σ.marks.length]? = _
    rw [List.getElem?_append_right (Nat.le_refl _)]; simp
  · simp only at hx ⊢
    rw [List.getElem?_append_right hk] at hx
    have hk0 : k - σ.marks.length = 0 := by
      by_cases e : k - σ.marks.length = 0
      · exact e
      · rw [List.getElem?_eq_none (by simp; omega)] at hx; simp at hx
    rw [hk0] at hx
    obtain rfl : ((σ.past.length : Nat) : Int) = x := by simpa using hx
    omega
  · show backs σ.writes (σ.past.drop σ.past.length) = σ.writes
    rw [List.drop_of_length_le (Nat.le_refl _)]; rfl
end Go.Lg.Try
