/- What the cells' functions come to, over memories that read as a list of cells and a clock. -/
import Derived.Test.YtdkammcandclhaaFcell
import Derived.Test.YtdkammcandclhaaEv38
set_option linter.unusedVariables false
set_option linter.unusedSimpArgs false
namespace Go.Lg.Try
set_option linter.unusedVariables false
set_option linter.unusedSimpArgs false
open Go Go.Proofs

structure Cel where
  v : Int
  ver : Int
  own : Int
def encC (c : Cel) : List Value := [.int .i64 c.v, .int .i64 c.ver, .int .i64 c.own]
theorem encC_len (c : Cel) : (encC c).length = 3 := rfl
abbrev at0 (p : Nat) : Value := .pointer (some ⟨p, 0, none⟩)
structure MemR (h : AH) (p q : Nat) (cs : List Cel) (clk : Int) : Prop where
  hp : h.get p = some (.cells [.slice (some ⟨q, 0, none⟩) cs.length cs.length, .int .i64 clk] false false 2)
  hq : h.get q = some (.cells (cs.flatMap encC) false false 3)
  ne : p ≠ q
  pn : p < h.n
  qn : q < h.n
  len : 0 < cs.length
  c0 : 0 ≤ clk
  c1 : clk ≤ 1099511627776
namespace MemR
variable {h h' : AH} {p q : Nat} {cs : List Cel} {clk : Int}
theorem fr {S : List Nat} (hM : MemR h p q cs clk) (hf : Fr S h h') (h1 : p ∉ S) (h2 : q ∉ S) : MemR h' p q cs clk :=
  ⟨by rw [hf.g _ hM.pn h1]; exact hM.hp, by rw [hf.g _ hM.qn h2]; exact hM.hq, hM.ne, Nat.lt_of_lt_of_le hM.pn hf.n, Nat.lt_of_lt_of_le hM.qn hf.n, hM.len, hM.c0, hM.c1⟩
theorem sl (hM : MemR h p q cs clk) : h.ldS p (0 + 0) = some (some ⟨q, 0, none⟩, cs.length, cs.length) := AH.ldS_of hM.hp rfl
theorem clock (hM : MemR h p q cs clk) : h.ldI .i64 p (0 + 1) = some clk := AH.ldI_of hM.hp rfl
theorem ld0 (hM : MemR h p q cs clk) {i : Nat} {c : Cel} (hc : cs[i]? = some c) : h.ldI .i64 q (0 + i * 3 + 0) = some c.v :=
  AH.ldI_of hM.hq (by rw [Nat.zero_add, flat_get_some encC_len (by omega) hc]; rfl)
theorem ld1 (hM : MemR h p q cs clk) {i : Nat} {c : Cel} (hc : cs[i]? = some c) : h.ldI .i64 q (0 + i * 3 + 1) = some c.ver :=
  AH.ldI_of hM.hq (by rw [Nat.zero_add, flat_get_some encC_len (by omega) hc]; rfl)
theorem ld2 (hM : MemR h p q cs clk) {i : Nat} {c : Cel} (hc : cs[i]? = some c) : h.ldI .i64 q (0 + i * 3 + 2) = some c.own :=
  AH.ldI_of hM.hq (by rw [Nat.zero_add, flat_get_some encC_len (by omega) hc]; rfl)
theorem put (hM : MemR h p q cs clk) {i o : Nat} {c c' : Cel} {vs : List Value} (hc : cs[i]? = some c) {j : Nat} (ho : o = i * 3 + j) (hj : j + vs.length ≤ 3) (hs : AH.setL (encC c) j vs = encC c') :
    ∃ h', h.st q o vs = some h' ∧ MemR h' p q (cs.set i c') clk ∧ Fr [q] h h' := by
  have hi : i < cs.length := (List.getElem?_eq_some_iff.mp hc).1
  refine ⟨_, AH.st_of hM.hq (by rw [flat_len encC_len]; omega), ⟨?_, ?_, hM.ne, hM.pn, hM.qn, by simp [hM.len], hM.c0, hM.c1⟩, Fr.set _ _ (by simp)⟩
  · rw [AH.get_set_ne _ hM.ne, hM.hp]; simp
  · rw [AH.get_set_eq, ho, flat_set encC_len hc hj hs]
theorem some_at (hM : MemR h p q cs clk) {i : Nat} (hi : i < cs.length) : ∃ c, cs[i]? = some c := ⟨_, List.getElem?_eq_getElem hi⟩
end MemR

/-- what the document's calls do to a list of cells -/
def mayE (n : Nat) (i o : Int) : Int := if i < 0 ∨ (n : Int) ≤ i ∨ o < 1 then 2 else 0
def lockM (cs : List Cel) (i o : Int) : Int × List Cel :=
  if i < 0 ∨ (cs.length : Int) ≤ i ∨ o < 1 then (2, cs) else match cs[i.toNat]? with
    | none => (2, cs)
    | some c => if c.own ≠ 0 ∧ c.own ≠ o then (130, cs) else (0, cs.set i.toNat { c with own := o })
def unlockM (cs : List Cel) (i o : Int) : Int × List Cel :=
  if i < 0 ∨ (cs.length : Int) ≤ i ∨ o < 1 then (2, cs) else match cs[i.toNat]? with
    | none => (2, cs)
    | some c => if c.own ≠ o then (130, cs) else (0, cs.set i.toNat { c with own := 0 })
def publishM (cs : List Cel) (clk : Int) (i o v ver : Int) : Int × List Cel :=
  if i < 0 ∨ (cs.length : Int) ≤ i ∨ o < 1 then (2, cs) else match cs[i.toNat]? with
    | none => (2, cs)
    | some c => if c.own ≠ o then (130, cs) else if ver ≤ c.ver ∨ clk < ver then (131, cs) else (0, cs.set i.toNat ⟨v, ver, 0⟩)
def loadM (cs : List Cel) (i : Int) : Cel × Int := if i < 0 ∨ (cs.length : Int) ≤ i then (⟨0, 0, 0⟩, 2) else match cs[i.toNat]? with
    | none => (⟨0, 0, 0⟩, 2)
    | some c => (c, 0)
def advM (clk : Int) : Int × Int × Int := if clk = 1099511627776 then (0, 133, clk) else (clk + 1, 0, clk + 1)

section
variable {h : AH} {p q : Nat} {cs : List Cel} {clk : Int}
theorem right_eq (hM : MemR h p q cs clk) : C k_cell_Memory_int_right [at0 p] h = some (.bool true, h) := by
  refine cell_Memory_int_right_le _ ?_
  have := hM.len
  simp only [F_cell_Memory_int_right, Option.isNone_some, Bool.not_false, cond_true, Option.bind_some, hM.sl]
  rw [dec_t (by omega)]
theorem may_eq (hM : MemR h p q cs clk) (i o : Int) : C k_cell_Memory_int_may [at0 p, .int .i64 i, .int .i64 o] h = some (.int .i64 (mayE cs.length i o), h) := by
  refine cell_Memory_int_may_le _ ?_
  simp only [F_cell_Memory_int_may, right_eq hM, Option.bind_some, asB_b, Bool.not_true, cond_false, hM.sl, mayE]
  by_cases h1 : i < 0
  · simp [h1]
  · by_cases h2 : i < (cs.length : Int)
    · have h2' : ¬(cs.length : Int) ≤ i := by omega
      by_cases h3 : o < 1
      · simp [h1, h2, h2', h3]
      · rw [dec_f h1, cond_false, dec_t h2, Bool.not_true, cond_false, dec_f h3, cond_false, if_neg (by omega)]
        exact cell_Memory_int_may_j1_le _ rfl
    · have h2' : (cs.length : Int) ≤ i := by omega
      simp [h1, h2, h2']
theorem mayE_cases (n : Nat) (i o : Int) : (mayE n i o = 2 ∧ (i < 0 ∨ (n : Int) ≤ i ∨ o < 1)) ∨ (mayE n i o = 0 ∧ 0 ≤ i ∧ i < n ∧ 1 ≤ o ∧ ¬(i < 0 ∨ (n : Int) ≤ i ∨ o < 1)) := by
  unfold mayE
  by_cases hc : i < 0 ∨ (n : Int) ≤ i ∨ o < 1
  · exact .inl ⟨if_pos hc, hc⟩
  · exact .inr ⟨if_neg hc, by omega, by omega, by omega, hc⟩

theorem lock_ok (hM : MemR h p q cs clk) (i o : Int) : Ok (C k_cell_Memory_int_Lock [at0 p, .int .i64 i, .int .i64 o] h) fun v h' => v = .int .i64 (lockM cs i o).1 ∧ MemR h' p q (lockM cs i o).2 clk ∧ Fr [q] h h' := by
  refine Ok.le ?_ cell_Memory_int_Lock_le
  simp only [F_cell_Memory_int_Lock, may_eq hM, Option.bind_some, asI_i64]
  rcases mayE_cases cs.length i o with ⟨he, hc⟩ | ⟨he, h0, h1, h2, hc⟩
  · rw [he]
    simp only [lockM, if_pos hc]
    exact Ok.some ⟨rfl, hM, .refl _ _⟩
  · rw [he]
    obtain ⟨c, hcc⟩ := hM.some_at (toNat_lt h0 h1)
    refine Ok.le ?_ cell_Memory_int_Lock_j2_le
    simp only [Option.bind_some, hM.sl, inB_t h0 h1, cond_true, hM.ld2 hcc, lockM, if_neg hc, hcc]
    have key : ∀ x, c.own = x ∨ True → Ok (cell_Memory_int_Lock_j1 h o (some ⟨q, 0 + i.toNat * 3, none⟩)) fun v h' => v = .int .i64 0 ∧ MemR h' p q (cs.set i.toNat { c with own := o }) clk ∧ Fr [q] h h' := by
      intro _ _
      refine Ok.le ?_ cell_Memory_int_Lock_j1_le
      obtain ⟨h', e1, e2, e3⟩ := hM.put (o := 0 + i.toNat * 3 + 2) (j := 2) (vs := [.int .i64 o]) (c' := { c with own := o }) hcc (by omega) (by simp) rfl
      simp only [Option.bind_some, e1]
      exact Ok.some ⟨rfl, e2, e3⟩
    by_cases a : c.own = 0
    · simp only [a, decide_true, Bool.not_true, cond_false, ne_eq, not_true, false_and, if_false]
      exact key 0 (.inr trivial)
    · by_cases b : c.own = o
      · simp only [a, b, decide_true, decide_false, Bool.not_false, Bool.not_true, cond_false, cond_true, ne_eq, not_true, and_false, if_false]
        cases decide (o = 0) <;> exact key 0 (.inr trivial)
      · simp only [a, b, decide_false, Bool.not_false, cond_true, ne_eq, not_false_eq_true, and_self, if_true]
        exact Ok.some ⟨rfl, hM, .refl _ _⟩

theorem unlock_ok (hM : MemR h p q cs clk) (i o : Int) : Ok (C k_cell_Memory_int_Unlock [at0 p, .int .i64 i, .int .i64 o] h) fun v h' => v = .int .i64 (unlockM cs i o).1 ∧ MemR h' p q (unlockM cs i o).2 clk ∧ Fr [q] h h' := by
  refine Ok.le ?_ cell_Memory_int_Unlock_le
  simp only [F_cell_Memory_int_Unlock, may_eq hM, Option.bind_some, asI_i64]
  rcases mayE_cases cs.length i o with ⟨he, hc⟩ | ⟨he, h0, h1, h2, hc⟩
  · rw [he]
    simp only [unlockM, if_pos hc]
    exact Ok.some ⟨rfl, hM, .refl _ _⟩
  · rw [he]
    obtain ⟨c, hcc⟩ := hM.some_at (toNat_lt h0 h1)
    refine Ok.le ?_ cell_Memory_int_Unlock_j2_le
    simp only [Option.bind_some, hM.sl, inB_t h0 h1, cond_true, hM.ld2 hcc, unlockM, if_neg hc, hcc]
    by_cases b : c.own = o
    · simp only [b, decide_true, Bool.not_true, cond_false, ne_eq, not_true, if_false]
      refine Ok.le ?_ cell_Memory_int_Unlock_j1_le
      obtain ⟨h', e1, e2, e3⟩ := hM.put (o := 0 + i.toNat * 3 + 2) (j := 2) (vs := [.int .i64 0]) (c' := { c with own := 0 }) hcc (by omega) (by simp) rfl
      simp only [Option.bind_some, e1]
      exact Ok.some ⟨rfl, e2, e3⟩
    · simp only [b, decide_false, Bool.not_false, cond_true, ne_eq, not_false_eq_true, if_true]
      exact Ok.some ⟨rfl, hM, .refl _ _⟩

theorem publish_ok (hM : MemR h p q cs clk) (i o v ver : Int) : Ok (C k_cell_Memory_int_Publish [at0 p, .int .i64 i, .int .i64 o, .int .i64 v, .int .i64 ver] h) fun r h' => r = .int .i64 (publishM cs clk i o v ver).1 ∧ MemR h' p q (publishM cs clk i o v ver).2 clk ∧ Fr [q] h h' := by
  refine Ok.le ?_ cell_Memory_int_Publish_le
  simp only [F_cell_Memory_int_Publish, may_eq hM, Option.bind_some, asI_i64]
  rcases mayE_cases cs.length i o with ⟨he, hc⟩ | ⟨he, h0, h1, h2, hc⟩
  · rw [he]
    simp only [publishM, if_pos hc]
    exact Ok.some ⟨rfl, hM, .refl _ _⟩
  · rw [he]
    obtain ⟨c, hcc⟩ := hM.some_at (toNat_lt h0 h1)
    refine Ok.le ?_ cell_Memory_int_Publish_j2_le
    simp only [publishM, if_neg hc]
    simp only [Option.bind_some, hM.sl, inB_t h0 h1, cond_true, hM.ld2 hcc, hM.ld1 hcc, hM.clock, hcc]
    by_cases b : c.own = o
    · simp only [b, decide_true, Bool.not_true, cond_false, ne_eq, not_true, if_false]
      by_cases d : ver ≤ c.ver
      · simp only [d, decide_true, cond_true, true_or, if_true]
        exact Ok.some ⟨rfl, hM, .refl _ _⟩
      · by_cases e : clk < ver
        · simp only [d, e, decide_true, decide_false, cond_true, cond_false, or_true, if_true]
          exact Ok.some ⟨rfl, hM, .refl _ _⟩
        · simp only [d, e, decide_false, cond_false, or_self, if_false]
          refine Ok.le ?_ cell_Memory_int_Publish_j1_le
          obtain ⟨h', e1, e2, e3⟩ := hM.put (o := 0 + i.toNat * 3) (j := 0) (vs := [.int .i64 v, .int .i64 ver, .int .i64 0]) (c' := ⟨v, ver, 0⟩) hcc (by omega) (by simp) rfl
          simp only [Option.bind_some, e1]
          exact Ok.some ⟨rfl, e2, e3⟩
    · simp only [b, decide_false, Bool.not_false, cond_true, ne_eq, not_false_eq_true, if_true]
      exact Ok.some ⟨rfl, hM, .refl _ _⟩

theorem load_eq (hM : MemR h p q cs clk) (i : Int) : C k_cell_Memory_int_Load [at0 p, .int .i64 i] h = some (.tuple #[.int .i64 (loadM cs i).1.v, .int .i64 (loadM cs i).1.ver, .int .i64 (loadM cs i).1.own, .int .i64 (loadM cs i).2], h) := by
  refine cell_Memory_int_Load_le _ ?_
  simp only [F_cell_Memory_int_Load, may_eq hM, Option.bind_some, asI_i64]
  rcases mayE_cases cs.length i 1 with ⟨he, hc⟩ | ⟨he, h0, h1, h2, hc⟩
  · rw [he]
    simp only [loadM]
    rw [if_pos (by omega)]
    rfl
  · rw [he]
    obtain ⟨c, hcc⟩ := hM.some_at (toNat_lt h0 h1)
    refine cell_Memory_int_Load_j1_le _ ?_
    simp only [loadM, if_neg (show ¬(i < 0 ∨ (cs.length : Int) ≤ i) by omega)]
    simp only [Option.bind_some, hM.sl, inB_t h0 h1, cond_true, hM.ld2 hcc, hM.ld1 hcc, hM.ld0 hcc, hcc]

theorem clock_eq (hM : MemR h p q cs clk) : C k_cell_Memory_int_Clock [at0 p] h = some (.int .i64 clk, h) := by
  refine cell_Memory_int_Clock_le _ ?_
  simp only [F_cell_Memory_int_Clock, right_eq hM, Option.bind_some, asB_b, Bool.not_true, cond_false]
  refine cell_Memory_int_Clock_j1_le _ ?_
  simp only [Option.bind_some, hM.clock]
theorem size_eq (hM : MemR h p q cs clk) : C k_cell_Memory_int_Size [at0 p] h = some (.int .i64 cs.length, h) := by
  refine cell_Memory_int_Size_le _ ?_
  simp only [F_cell_Memory_int_Size, right_eq hM, Option.bind_some, asB_b, Bool.not_true, cond_false]
  refine cell_Memory_int_Size_j1_le _ ?_
  simp only [Option.bind_some, hM.sl]
theorem adv_ok (hM : MemR h p q cs clk) : Ok (C k_cell_Memory_int_Advance [at0 p] h) fun v h' => v = .tuple #[.int .i64 (advM clk).1, .int .i64 (advM clk).2.1] ∧ MemR h' p q cs (advM clk).2.2 ∧ Fr [p] h h' := by
  refine Ok.le ?_ cell_Memory_int_Advance_le
  simp only [F_cell_Memory_int_Advance, right_eq hM, Option.bind_some, asB_b, Bool.not_true, cond_false, hM.clock, advM]
  by_cases a : clk = 1099511627776
  · simp only [a, decide_true, cond_true, if_true]
    exact Ok.some ⟨rfl, a ▸ hM, .refl _ _⟩
  · simp only [a, decide_false, cond_false, if_false]
    refine Ok.le ?_ cell_Memory_int_Advance_j1_le
    have h0 := hM.c0
    have h1 := hM.c1
    have hst : h.st p (0 + 1) [.int .i64 (clk + 1)] = some (h.set p (some (.cells [.slice (some ⟨q, 0, none⟩) cs.length cs.length, .int .i64 (clk + 1)] false false 2))) := AH.st_of hM.hp (by simp)
    have hM' : MemR (h.set p (some (.cells [.slice (some ⟨q, 0, none⟩) cs.length cs.length, .int .i64 (clk + 1)] false false 2))) p q cs (clk + 1) :=
      ⟨AH.get_set_eq _ _ _, by rw [AH.get_set_ne _ (Ne.symm hM.ne)]; exact hM.hq, hM.ne, hM.pn, hM.qn, hM.len, by omega, by omega⟩
    simp only [Option.bind_some, hM.clock, wrap64 (show -9223372036854775808 ≤ clk + 1 by omega) (by omega), hst, hM'.clock]
    exact Ok.some ⟨rfl, hM', Fr.set _ _ (by simp)⟩
end

theorem new_ok (h : AH) (n : Int) : (n < 1 ∨ 1024 < n) ∧ C k_cell_New_int [.int .i64 n] h = some (.tuple #[.pointer none, .int .i64 2], h) ∨
    (1 ≤ n ∧ n ≤ 1024 ∧ ∃ h', C k_cell_New_int [.int .i64 n] h = some (.tuple #[at0 (h.n + 1), .int .i64 0], h') ∧ MemR h' (h.n + 1) h.n (List.replicate n.toNat ⟨0, 0, 0⟩) 0 ∧ Fr [] h h' ∧ h'.n = h.n + 2) := by
  by_cases a : n < 1
  · refine .inl ⟨.inl a, cell_New_int_le _ ?_⟩
    simp [F_cell_New_int, a]
  by_cases b : 1024 < n
  · refine .inl ⟨.inr b, cell_New_int_le _ ?_⟩
    simp [F_cell_New_int, a, b]
  · refine .inr ⟨by omega, by omega, (h.push (.cells (repL [(.int .i64 0), (.int .i64 0), (.int .i64 0)] n.toNat) false false 3)).push (.cells [.slice (some ⟨h.n, 0, none⟩) n.toNat n.toNat, .int .i64 0] false false 2), ?_, ?_, ?_, rfl⟩
    · refine cell_New_int_le _ ?_
      simp only [F_cell_New_int, a, b, decide_false, cond_false]
      refine cell_New_int_j1_le _ ?_
      rw [dec_t (show 0 ≤ n by omega), dec_t (show n ≤ n by omega), dec_t (show n * 24 ≤ 281474976710656 by omega), dec_t (show n ≤ 281474976710656 by omega)]
      rfl
    · refine ⟨?_, ?_, by omega, by simp [AH.push], by simp only [AH.push]; omega, by simp; omega, by omega, by omega⟩
      · rw [AH.get_push, if_pos (by simp [AH.push])]; simp
      · rw [AH.get_push_ne _ (by simp [AH.push]), AH.get_push_eq]
        have := flat_rep (enc := encC) ⟨0, 0, 0⟩ n.toNat
        rw [← this]; rfl
    · exact (Fr.push _ _ _).trans (Fr.push _ _ _)
end Go.Lg.Try

namespace Go.Lg.Try
set_option linter.unusedVariables false
set_option linter.unusedSimpArgs false
open Go Go.Proofs
section
variable {h h' : AH} {p q : Nat} {cs : List Cel} {clk : Int}
def ownUp (cs : List Cel) (o : Int) (k : Nat) : List Int := ((List.range k).filter fun i => match cs[i]? with
  | some c => decide (c.own = o)
  | none => false).map fun i : Nat => (i : Int)
def ownedM (cs : List Cel) (o : Int) : List Int := if o < 1 then [] else ownUp cs o cs.length
theorem ownUp_succ (cs : List Cel) (o : Int) (k : Nat) {c : Cel} (hc : cs[k]? = some c) : ownUp cs o (k + 1) = if c.own = o then ownUp cs o k ++ [(k : Int)] else ownUp cs o k := by
  simp only [ownUp, List.range_succ, List.filter_append, List.map_append, List.filter_cons, hc, List.filter_nil]
  by_cases e : c.own = o <;> simp [e]
theorem ownUp_le (cs : List Cel) (o : Int) (k : Nat) : (ownUp cs o k).length ≤ k := by
  simp only [ownUp, List.length_map]
  exact Nat.le_trans (List.length_filter_le _ _) (by simp)
theorem ownedM_le (cs : List Cel) (o : Int) : (ownedM cs o).length ≤ cs.length := by
  unfold ownedM
  split
  · simp
  · exact ownUp_le _ _ _
/-- one number more behind a list that is one's own -/
theorem ow_push {h0 h : AH} {a : Option Addr} {n c : Nat} {l : List Int} (hf : Fr [] h0 h) (ho : Ow h 1 a n c (l.flatMap encI)) (hfresh : ∀ b, blk a b → h0.n ≤ b) (x : Int) (hl : l.length < 1000000) :
    ∃ a' n' c' h', appE 1 8 (.slice a n c) (.slice (some ⟨h.n, 0, none⟩) 1 1) (h.push (.cells [.int .i64 x] false false 1)) = some (.slice a' n' c', h') ∧ Ow h' 1 a' n' c' ((l ++ [x]).flatMap encI) ∧ Fr [] h0 h' ∧ (∀ b, blk a' b → h0.n ≤ b) := by
  have hf1 : Fr [] h (h.push (.cells [.int .i64 x] false false 1)) := Fr.push _ _ _
  have hlen : n = l.length := by have := ho.len; rw [flat_len encI_len] at this; omega
  obtain ⟨h', e1, e2, e3, e4⟩ := (ho.fr hf1 (by simp)).app (by_ := 8) (newCells_one (c := 1) (AH.get_push_eq h _) rfl) (by rfl) (by omega) (by omega) (by omega) (by omega)
  refine ⟨_, _, _, h', e1, by simpa [List.flatMap_append, encI] using e2, ⟨?_, ?_⟩, ?_⟩
  · have := hf.n; rw [e3, AH.n_push]; omega
  · intro b hb hm
    have hb' : b < h.n := Nat.lt_of_lt_of_le hb hf.n
    rw [e4 b (by rw [AH.n_push]; omega) (fun hbl => by have := hfresh b hbl; omega), AH.get_push_ne _ (by omega)]
    exact hf.g b hb hm
  · intro b hb
    obtain rfl : (h.push (.cells [.int .i64 x] false false 1)).n = b := hb
    have := hf.n; rw [AH.n_push]; omega
theorem owned_loop {h0 : AH} (hM0 : MemR h0 p q cs clk) (o : Int) (hcs : cs.length ≤ 1024) : ∀ (n i : Nat) (h : AH) (a : Option Addr) (m c : Nat), cs.length - i = n → i ≤ cs.length → Fr [] h0 h → Ow h 1 a m c ((ownUp cs o i).flatMap encI) → (∀ b, blk a b → h0.n ≤ b) →
    Ok (cell_Memory_int_Owned_L1 (some ⟨p, 0, none⟩) o a m c (cs.length : Int) i h) fun v h' => ∃ a n c, v = .slice a n c ∧ n = (ownUp cs o cs.length).length ∧ Rd h' a ((ownUp cs o cs.length).flatMap encI) ∧ Fr [] h0 h' ∧ (∀ b, blk a b → h0.n ≤ b) := by
  intro n
  induction n with
  | zero =>
    intro i h a m c hn hi hf how hfr
    obtain rfl : i = cs.length := by omega
    refine Ok.le ?_ cell_Memory_int_Owned_L1_le
    refine Ok.le ?_ cell_Memory_int_Owned_j4_le
    rw [dec_f (by omega), cond_f]
    refine Ok.le ?_ cell_Memory_int_Owned_j1_le
    refine Ok.some ⟨a, m, c, rfl, ?_, how.rd, hf, hfr⟩
    have := how.len; rw [flat_len encI_len] at this; omega
  | succ n ih =>
    intro i h a m c hn hi hf how hfr
    have hM := hM0.fr hf (by simp) (by simp)
    obtain ⟨ce, hc⟩ := hM.some_at (i := i) (by omega)
    refine Ok.le ?_ cell_Memory_int_Owned_L1_le
    refine Ok.le ?_ cell_Memory_int_Owned_j4_le
    rw [dec_t (by omega), cond_t]
    refine Ok.le ?_ cell_Memory_int_Owned_j3_le
    have hib := inB_t (show (0 : Int) ≤ (i : Int) by omega) (show (i : Int) < (cs.length : Nat) by omega)
    simp only [Option.bind_some, hM.sl, hib, cond_t, Int.toNat_natCast, hM.ld2 hc]
    have hs := ownUp_succ cs o i hc
    by_cases e : ce.own = o
    · rw [dec_t e, cond_t]
      obtain ⟨a', n', c', h', e1, e2, e3, e4⟩ := ow_push hf how hfr (i : Int) (by have := ownUp_le cs o i; omega)
      simp only [e1, Option.bind_some, asS_s]
      refine Ok.le ?_ cell_Memory_int_Owned_j2_le
      rw [wrap64 (by omega) (by omega)]
      rw [if_pos e] at hs
      exact ih (i + 1) h' a' n' c' (by omega) (by omega) e3 (by rw [hs]; exact e2) e4
    · rw [dec_f e, cond_f]
      refine Ok.le ?_ cell_Memory_int_Owned_j2_le
      rw [wrap64 (by omega) (by omega)]
      rw [if_neg e] at hs
      exact ih (i + 1) h a m c (by omega) (by omega) hf (by rw [hs]; exact how) hfr
theorem owned_ok (hM : MemR h p q cs clk) (o : Int) (hcs : cs.length ≤ 1024) : Ok (C k_cell_Memory_int_Owned [at0 p, .int .i64 o] h) fun v h' => ∃ a n c, v = .slice a n c ∧ n = (ownedM cs o).length ∧ Rd h' a ((ownedM cs o).flatMap encI) ∧ Fr [] h h' ∧ (∀ b, blk a b → h.n ≤ b) := by
  refine Ok.le ?_ cell_Memory_int_Owned_le
  have hl := hM.len
  simp only [F_cell_Memory_int_Owned, may_eq hM, Option.bind_some, asI_i64, mayE, ownedM]
  by_cases ho : o < 1
  · rw [if_pos (by omega)]
    simp only [if_pos ho]
    exact Ok.some ⟨none, 0, 0, rfl, rfl, .nil _ _, .refl _ _, fun b hb => by cases hb⟩
  · rw [if_neg (by omega)]
    simp only [if_neg ho, decide_true, Bool.not_true, cond_f]
    refine Ok.le ?_ cell_Memory_int_Owned_j5_le
    simp only [Option.bind_some, hM.sl]
    exact owned_loop hM o hcs _ 0 h none 0 0 rfl (by omega) (.refl _ _) .nil (fun b hb => by cases hb)
end
end Go.Lg.Try
