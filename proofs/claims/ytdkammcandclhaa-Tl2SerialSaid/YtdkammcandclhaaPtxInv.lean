/- What stays right of a transaction. -/
import Derived.Test.YtdkammcandclhaaPtl2M
import Derived.Test.YtdkammcandclhaaPsetsJ
namespace Go.Lg.Try
set_option linter.unusedVariables false
set_option linter.unusedSimpArgs false
open Go Go.Proofs
/-- all cells that are named are among the first B -/
structure KB (B : Nat) (σ : St) : Prop where
  rk : ∀ i ∈ σ.reads.map Prod.fst, 0 ≤ i ∧ i < (B : Int)
  wk : ∀ i ∈ σ.writes.map Prod.fst, 0 ≤ i ∧ i < (B : Int)
  pk : ∀ o ∈ σ.past, 0 ≤ o.i ∧ o.i < (B : Int)
theorem lenB : ∀ (n : Nat) {l : List Int}, l.Nodup → (∀ i ∈ l, 0 ≤ i ∧ i < (n : Int)) → l.length ≤ n := by
  intro n
  induction n with
  | zero => intro l _ hk; cases l with
    | nil => simp
    | cons x l => have := hk x (List.mem_cons_self ..); omega
  | succ n ih =>
    intro l hl hk
    have h1 := ih (hl.erase (n : Int)) fun i hi => by
      have h2 := hk i (List.mem_of_mem_erase hi)
      have : i ≠ (n : Int) := fun e => by subst e; exact (hl.not_mem_erase hi)
      omega
    by_cases c : (n : Int) ∈ l
    · rw [List.length_erase_of_mem c] at h1; omega
    · rw [List.erase_of_not_mem c] at h1; omega
theorem NkB {l : List (Int × Int)} {B : Nat} (hn : Nk l) (hk : ∀ i ∈ l.map Prod.fst, 0 ≤ i ∧ i < (B : Int)) : l.length ≤ B := by
  have := Go.Lg.Try.lenB B (l := l.map Prod.fst) hn hk
  rwa [List.length_map] at this
theorem putB {B : Nat} {l : List (Int × Int)} (h : ∀ i ∈ l.map Prod.fst, 0 ≤ i ∧ i < (B : Int)) {i : Int} (hi : 0 ≤ i ∧ i < (B : Int)) (v : Int) : ∀ j ∈ (aputL l i v).map Prod.fst, 0 ≤ j ∧ j < (B : Int) := by
  intro j hj
  rw [keys_put] at hj
  split at hj
  · exact h j hj
  · rcases List.mem_append.mp hj with hj | hj
    · exact h j hj
    · obtain rfl : j = i := by simpa using hj
      exact hi
theorem delB {B : Nat} {l : List (Int × Int)} (h : ∀ i ∈ l.map Prod.fst, 0 ≤ i ∧ i < (B : Int)) (i : Int) : ∀ j ∈ (adelL l i).map Prod.fst, 0 ≤ j ∧ j < (B : Int) := by
  intro j hj
  rw [keys_del] at hj
  exact h j (List.mem_of_mem_erase hj)
theorem backsB {B : Nat} : ∀ (p : List Old) {w : List (Int × Int)}, (∀ i ∈ w.map Prod.fst, 0 ≤ i ∧ i < (B : Int)) → (∀ o ∈ p, 0 ≤ o.i ∧ o.i < (B : Int)) → ∀ i ∈ (p.foldl back w).map Prod.fst, 0 ≤ i ∧ i < (B : Int)
  | [], w, hw, _ => hw
  | o :: p, w, hw, hp => by
    refine backsB p (w := back w o) ?_ fun x hx => hp x (List.mem_cons_of_mem _ hx)
    unfold back
    split
    · exact delB hw _
    · exact putB hw (hp o (List.mem_cons_self ..)) _
namespace KB
variable {B : Nat} {σ : St}
theorem new : KB B {} := ⟨fun _ h => by simp at h, fun _ h => by simp at h, fun _ h => by simp at h⟩
theorem read (k : KB B σ) {i : Int} (hi : 0 ≤ i ∧ i < (B : Int)) (v : Int) : KB B (σ.read i v).2 := by
  refine ⟨?_, k.wk, k.pk⟩
  show ∀ j ∈ (readM σ.reads i v).2.map Prod.fst, _
  unfold readM
  repeat' split
  all_goals first | exact k.rk | exact putB k.rk hi _
theorem write (k : KB B σ) {i : Int} (hi : 0 ≤ i ∧ i < (B : Int)) (v : Int) : KB B (σ.write i v).2 := by
  unfold St.write
  repeat' split
  all_goals first
    | exact k
    | (refine ⟨k.rk, putB k.wk hi _, ?_⟩
       first
         | exact k.pk
         | (intro o ho
            simp only at ho
            first
              | exact k.pk o ho
              | (split at ho
                 · exact k.pk o ho
                 · rcases List.mem_append.mp ho with ho | ho
                   · exact k.pk o ho
                   · obtain rfl : o = oldOf σ.writes i := by simpa using ho
                     exact hi)
              | (rcases List.mem_append.mp ho with ho | ho
                 · exact k.pk o ho
                 · obtain rfl : o = oldOf σ.writes i := by simpa using ho
                   exact hi)))
theorem mark (k : KB B σ) : KB B σ.mark.2 := by unfold St.mark; split <;> exact ⟨k.rk, k.wk, k.pk⟩
theorem keep (k : KB B σ) : KB B σ.keep.2 := by
  unfold St.keep St.last
  split
  · exact k
  · refine ⟨?_, ?_, ?_⟩
    · exact k.rk
    · exact k.wk
    · intro o ho
      simp only at ho
      split at ho
      · simp at ho
      · exact k.pk o ho
theorem undo (k : KB B σ) : KB B σ.undo.2 := by
  unfold St.undo
  split
  · exact k
  · refine ⟨?_, ?_, fun o ho => k.pk o (List.mem_of_mem_take ho)⟩
    · show ∀ i ∈ σ.last.2.2.reads.map Prod.fst, _
      have : σ.last.2.2.reads = σ.reads := by unfold St.last; split <;> rfl
      rw [this]; exact k.rk
    · show ∀ i ∈ (backs σ.writes (σ.past.drop σ.last.1.toNat)).map Prod.fst, _
      unfold backs
      exact backsB _ k.wk fun o ho => k.pk o (List.mem_of_mem_drop (List.mem_reverse.mp ho))
end KB
/-- what stays right of a transaction over B cells -/
structure TInv (B : Nat) (m : TM) (N : Nat) : Prop where
  ow : 1 ≤ m.owner
  st : m.st = 1 ∨ m.st = 2 ∨ m.st = 3 ∨ m.st = 4
  lf : m.st = 2 → ∃ k, m.left = (planM (sortI (m.σ.writes.map Prod.fst)) (sortI (m.σ.reads.map Prod.fst))).drop k ∧ m.left ≠ []
  wf : Wf m.σ N
  mo : Mo m.σ
  kb : KB B m.σ
theorem openE_in {st : Int} {n : Nat} {i : Int} (h : openE st n i = 0) : st = 1 ∧ 0 ≤ i ∧ i < (n : Int) := by
  unfold openE at h
  by_cases c : st = 1
  · rw [if_neg (by simp [c])] at h
    by_cases d : i < 0 ∨ (n : Int) ≤ i
    · rw [if_pos d] at h; omega
    · omega
  · rw [if_pos c] at h; omega
namespace TInv
variable {B N : Nat} {m : TM} {cs : List Cel} {clk : Int}
theorem new {o : Int} (ho : 1 ≤ o) : TInv B (TM.new o clk) 0 := ⟨ho, .inl rfl, fun h => by have : (1 : Int) = 2 := h; omega, Wf.new, Mo.new, KB.new⟩
theorem more (t : TInv B m N) {M : Nat} (h : N ≤ M) : TInv B m M := ⟨t.ow, t.st, t.lf, t.wf.more h, t.mo, t.kb⟩
theorem fail (t : TInv B m N) : TInv B m.fail N := ⟨t.ow, .inr (.inr (.inr rfl)), fun h => by have : (4 : Int) = 2 := h; omega, t.wf, t.mo, t.kb⟩
theorem setσ (t : TInv B m N) (h1 : m.st = 1) {σ' : St} {M : Nat} (wf : Wf σ' M) (mo : Mo σ') (kb : KB B σ') : TInv B { m with σ := σ' } M := ⟨t.ow, t.st, fun h => by have : m.st = 2 := h; omega, wf, mo, kb⟩
theorem read (t : TInv B m N) (hB : cs.length = B) (i : Int) : TInv B (m.read cs i).2.1 (N + 2) := by
  unfold TM.read
  by_cases c0 : openE m.st cs.length i ≠ 0
  · rw [if_pos c0]; exact t.more (by omega)
  rw [if_neg c0]
  obtain ⟨h1, h2, h3⟩ := openE_in (Classical.not_not.mp c0)
  by_cases c1 : aok (alook m.σ.writes i) = true
  · rw [if_pos c1]; exact t.more (by omega)
  rw [if_neg c1]
  by_cases c2 : m.stale (loadM cs i).1 i = true
  · rw [if_pos c2]; exact t.fail.more (by omega)
  rw [if_neg c2]
  have := t.setσ h1 (t.wf.read i (loadM cs i).1.ver) (t.mo.read i _) (t.kb.read ⟨h2, by omega⟩ (loadM cs i).1.ver)
  split <;> exact this
theorem write (t : TInv B m N) (hB : cs.length = B) (i v : Int) : TInv B (m.write cs.length i v).2 (N + 2) := by
  unfold TM.write
  by_cases c0 : openE m.st cs.length i = 0
  · rw [if_pos c0]
    obtain ⟨h1, h2, h3⟩ := openE_in c0
    exact t.setσ h1 (t.wf.write i v) (t.mo.write i v) (t.kb.write ⟨h2, by omega⟩ v)
  · rw [if_neg c0]; exact t.more (by omega)
theorem mark (t : TInv B m N) : TInv B m.mark.2 (N + 2) := by
  unfold TM.mark
  by_cases c : m.st = 1
  · rw [if_pos c]; exact t.setσ c t.wf.mark t.mo.mark t.kb.mark
  · rw [if_neg c]; exact t.more (by omega)
theorem keep (t : TInv B m N) : TInv B m.keep.2 (N + 2) := by
  unfold TM.keep
  by_cases c : m.st = 1
  · rw [if_pos c]; exact t.setσ c t.wf.keep t.mo.keep t.kb.keep
  · rw [if_neg c]; exact t.more (by omega)
theorem undo (t : TInv B m N) : TInv B m.undo.2 (N + 2) := by
  unfold TM.undo
  by_cases c : m.st = 1
  · rw [if_pos c]; exact t.setσ c t.wf.undo (t.mo.undo t.wf.m0) t.kb.undo
  · rw [if_neg c]; exact t.more (by omega)
theorem abort (t : TInv B m N) : TInv B (m.abort cs).2.1 N := by
  unfold TM.abort
  split
  · exact t
  · exact t.fail
theorem wlen (t : TInv B m N) (hn : Nk m.σ.writes) : m.σ.writes.length ≤ B := NkB hn t.kb.wk
theorem rlen (t : TInv B m N) (hn : Nk m.σ.reads) : m.σ.reads.length ≤ B := NkB hn t.kb.rk
theorem eff_keep (m : TM) (cs : List Cel) (clk : Int) (s : Stp) : (m.eff cs clk s).2.1.σ = m.σ ∧ (m.eff cs clk s).2.1.st = m.st ∧ (m.eff cs clk s).2.1.owner = m.owner ∧ (m.eff cs clk s).2.1.beg = m.beg ∧ (m.eff cs clk s).2.2.1.length = cs.length := by
  cases s with
  | lock i =>
    refine ⟨rfl, rfl, rfl, rfl, ?_⟩
    show (lockM cs i m.owner).2.length = _
    unfold lockM
    repeat' split
    all_goals simp
  | pub i k =>
    refine ⟨rfl, rfl, rfl, rfl, ?_⟩
    show (publishM cs clk i m.owner _ m.ver).2.length = _
    unfold publishM
    repeat' split
    all_goals simp
  | fin => exact ⟨rfl, rfl, rfl, rfl, rfl⟩
  | adv => exact ⟨rfl, rfl, rfl, rfl, rfl⟩
  | chk i => exact ⟨rfl, rfl, rfl, rfl, rfl⟩
theorem last_is {W R : List Int} {k : Nat} {s : Stp} (h : (planM W R).drop k = [s]) : s = .fin ∨ (W ≠ [] ∧ ∃ i, s = .pub i (W.length - 1)) := by
  have hl := congrArg List.getLast? h
  by_cases c : W = []
  · left
    have : (planM W R) = [.fin] := by unfold planM; rw [if_pos c]
    rw [this] at h
    cases k with
    | zero => simpa using h.symm
    | succ k => simp at h
  · right
    refine ⟨c, ?_⟩
    have hne : (planM W R).drop k ≠ [] := by rw [h]; simp
    have hk : k < (planM W R).length := by
      rcases Nat.lt_or_ge k (planM W R).length with h1 | h1
      · exact h1
      · exact absurd (List.drop_of_length_le h1) hne
    rw [List.getLast?_drop, if_neg (by omega)] at hl
    unfold planM at hl
    rw [if_neg c] at hl
    obtain ⟨n, hn⟩ : ∃ n, W.length = n + 1 := ⟨W.length - 1, by have := List.length_pos_iff.mpr c; omega⟩
    rw [hn, List.range_succ, List.map_append, ← List.append_assoc] at hl
    simp only [List.map_cons, List.map_nil, List.getLast?_concat, List.getLast?_singleton, Option.some.injEq] at hl
    exact ⟨_, by rw [hn, Nat.add_sub_cancel]; exact hl.symm⟩
theorem go (t : TInv B m N) (h2 : m.st = 2) (hw : m.σ.writes.length < 1000000) : TInv B (m.go cs clk).2.1 N := by
  obtain ⟨k, e, ne⟩ := t.lf h2
  unfold TM.go
  cases hl : m.left with
  | nil => exact absurd hl ne
  | cons s lf =>
    simp only
    obtain ⟨k1, k2, k3, k4, k5⟩ := eff_keep m cs clk s
    have base : TInv B (m.eff cs clk s).2.1.fail N := ⟨by show 1 ≤ (m.eff cs clk s).2.1.owner; rw [k3]; exact t.ow, .inr (.inr (.inr rfl)), fun h => by have : (4 : Int) = 2 := h; omega, by show Wf (m.eff cs clk s).2.1.σ N; rw [k1]; exact t.wf, by show Mo (m.eff cs clk s).2.1.σ; rw [k1]; exact t.mo, by show KB B (m.eff cs clk s).2.1.σ; rw [k1]; exact t.kb⟩
    split
    · exact base
    · rename_i hz
      split
      · exact ⟨base.ow, .inr (.inr (.inl rfl)), fun h => by have : (3 : Int) = 2 := h; omega, base.wf, base.mo, base.kb⟩
      · rename_i hnl
        refine ⟨base.ow, .inr (.inl (by show (m.eff cs clk s).2.1.st = 2; rw [k2, h2])), fun _ => ⟨k + 1, ?_, ?_⟩, base.wf, base.mo, base.kb⟩
        · show lf = List.drop (k + 1) (planM (sortI ((m.eff cs clk s).2.1.σ.writes.map Prod.fst)) (sortI ((m.eff cs clk s).2.1.σ.reads.map Prod.fst)))
          rw [k1, ← List.tail_drop, ← e, hl]; rfl
        · show lf ≠ []
          rintro rfl
          rw [hl] at e
          rcases last_is e.symm with rfl | ⟨_, i, rfl⟩
          · exact hnl rfl
          · refine hnl ?_
            show decide (((_ : Nat) : Int) = IntKind.wrap .i64 ((m.σ.writes.length : Int) - 1)) = true
            have hlw : (sortI (m.σ.writes.map Prod.fst)).length = m.σ.writes.length := by rw [sortI_len, List.length_map]
            have hpos : 0 < (sortI (m.σ.writes.map Prod.fst)).length := List.length_pos_iff.mpr ‹_›
            rw [wrap64 (by omega) (by omega), hlw]
            simp only [decide_eq_true_eq]
            omega
theorem plan (t : TInv B m N) : TInv B m.plan N := by
  obtain ⟨_, s, l, e⟩ := go_eq m
  exact ⟨t.ow, .inr (.inl rfl), fun _ => ⟨0, rfl, by rw [e]; simp⟩, t.wf, t.mo, t.kb⟩
theorem step (t : TInv B m N) (hw : m.σ.writes.length < 1000000) : TInv B (m.step cs clk).2.1 N := by
  unfold TM.step
  by_cases c1 : m.st = 1
  · rw [if_pos c1]; exact t.plan.go rfl hw
  · rw [if_neg c1]
    by_cases c2 : m.st = 2
    · rw [if_pos c2]; exact t.go c2 hw
    · rw [if_neg c2]; exact t
theorem left_ne (t : TInv B m N) : m.st = 2 → m.left ≠ [] := fun h => by obtain ⟨k, _, h2⟩ := t.lf h; exact h2
theorem wkw (t : TInv B m N) : Wk (m.σ.writes.map Prod.fst) := wk_of t.wf.wk
theorem wkr (t : TInv B m N) : Wk (m.σ.reads.map Prod.fst) := wk_of t.wf.rk
end TInv
end Go.Lg.Try
