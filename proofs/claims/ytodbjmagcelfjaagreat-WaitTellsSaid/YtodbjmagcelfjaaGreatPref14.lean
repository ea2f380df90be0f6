/- What the document's cells come to: the same as the program's. -/
import Derived.Test.YtodbjmagcelfjaaGreatFref14
import Derived.Test.YtodbjmagcelfjaaGreatPcellOwn
import Derived.Test.YtodbjmagcelfjaaGreatPkitPick
namespace Go.Lg.Tryz
set_option linter.unusedVariables false
set_option linter.unusedSimpArgs false
open Go Go.Proofs
section
variable {h : AH} {p q : Nat} {cs : List Cel} {clk : Int}
theorem there_eq (hM : MemR h p q cs clk) (i : Int) : C k_ref14_Memory_there [at0 p, .int .i64 i] h = some (.bool (decide (¬(i < 0 ∨ (cs.length : Int) ≤ i))), h) := by
  refine ref14_Memory_there_le _ ?_
  unfold F_ref14_Memory_there
  by_cases a : 0 ≤ i
  · simp only [dec_f (show ¬i < 0 by omega), Bool.not_false, cond_t, Option.bind_some, hM.sl]
    by_cases b : i < (cs.length : Int)
    · rw [dec_t b, dec_t (by omega)]
    · rw [dec_f b, dec_f (by omega)]
  · rw [dec_t (show i < 0 by omega), Bool.not_true, cond_f, dec_f (by omega)]
theorem MemR.ld0' (hM : MemR h p q cs clk) {i : Nat} {c : Cel} (hc : cs[i]? = some c) : h.ldI .i64 q (0 + i * 3) = some c.v := hM.ld0 hc
theorem rlock_ok (hM : MemR h p q cs clk) (i o : Int) : Ok (C k_ref14_Memory_Lock [at0 p, .int .i64 i, .int .i64 o] h) fun v h' => v = .int .i64 (lockM cs i o).1 ∧ MemR h' p q (lockM cs i o).2 clk ∧ Fr [q] h h' := by
  refine Ok.le ?_ ref14_Memory_Lock_le
  simp only [F_ref14_Memory_Lock, there_eq hM, Option.bind_some, asB_b]
  have bad : (i < 0 ∨ (cs.length : Int) ≤ i ∨ o < 1) → Ok (ref14_Memory_Lock_j2 (some ⟨p, 0, none⟩) i o true h) fun v h' => v = .int .i64 (lockM cs i o).1 ∧ MemR h' p q (lockM cs i o).2 clk ∧ Fr [q] h h' := by
    intro hc
    refine Ok.le ?_ ref14_Memory_Lock_j2_le
    simp only [lockM, if_pos hc]
    exact Ok.some ⟨rfl, hM, .refl _ _⟩
  by_cases hc1 : i < 0 ∨ (cs.length : Int) ≤ i
  · rw [dec_f (not_not_intro hc1)]; exact bad (by omega)
  rw [dec_t hc1, Bool.not_true, cond_f]
  by_cases ho : o < 1
  · rw [dec_t ho]; exact bad (by omega)
  rw [dec_f ho]
  have hc : ¬(i < 0 ∨ (cs.length : Int) ≤ i ∨ o < 1) := by omega
  obtain ⟨c, hcc⟩ := hM.some_at (i := i.toNat) (by omega)
  have hib := inB_t (show 0 ≤ i by omega) (show i < (cs.length : Nat) by omega)
  refine Ok.le ?_ ref14_Memory_Lock_j2_le
  simp only [cond_f, Option.bind_some, hM.sl, hib, cond_t, hM.ld2 hcc, lockM, if_neg hc, hcc]
  have key : Ok (ref14_Memory_Lock_j1 (some ⟨p, 0, none⟩) h i o) fun v h' => v = .int .i64 0 ∧ MemR h' p q (cs.set i.toNat { c with own := o }) clk ∧ Fr [q] h h' := by
    refine Ok.le ?_ ref14_Memory_Lock_j1_le
    obtain ⟨h', e1, e2, e3⟩ := hM.put (o := 0 + i.toNat * 3 + 2) (j := 2) (vs := [.int .i64 o]) (c' := { c with own := o }) hcc (by omega) (by simp) rfl
    simp only [Option.bind_some, hM.sl, hib, cond_t, e1]
    exact Ok.some ⟨rfl, e2, e3⟩
  by_cases a : c.own = 0
  · rw [if_neg (fun e => e.1 a), dec_t a, Bool.not_true, cond_f]; exact key
  · rw [dec_f a, Bool.not_false, cond_t]
    by_cases b : c.own = o
    · rw [if_neg (fun e => e.2 b), dec_t b, Bool.not_true, cond_f]; exact key
    · rw [if_pos ⟨a, b⟩, dec_f b, Bool.not_false, cond_t]
      exact Ok.some ⟨rfl, hM, .refl _ _⟩
theorem runlock_ok (hM : MemR h p q cs clk) (i o : Int) : Ok (C k_ref14_Memory_Unlock [at0 p, .int .i64 i, .int .i64 o] h) fun v h' => v = .int .i64 (unlockM cs i o).1 ∧ MemR h' p q (unlockM cs i o).2 clk ∧ Fr [q] h h' := by
  refine Ok.le ?_ ref14_Memory_Unlock_le
  simp only [F_ref14_Memory_Unlock, there_eq hM, Option.bind_some, asB_b]
  have bad : (i < 0 ∨ (cs.length : Int) ≤ i ∨ o < 1) → Ok (ref14_Memory_Unlock_j2 (some ⟨p, 0, none⟩) i o true h) fun v h' => v = .int .i64 (unlockM cs i o).1 ∧ MemR h' p q (unlockM cs i o).2 clk ∧ Fr [q] h h' := by
    intro hc
    refine Ok.le ?_ ref14_Memory_Unlock_j2_le
    simp only [unlockM, if_pos hc]
    exact Ok.some ⟨rfl, hM, .refl _ _⟩
  by_cases hc1 : i < 0 ∨ (cs.length : Int) ≤ i
  · rw [dec_f (not_not_intro hc1)]; exact bad (by omega)
  rw [dec_t hc1, Bool.not_true, cond_f]
  by_cases ho : o < 1
  · rw [dec_t ho]; exact bad (by omega)
  rw [dec_f ho]
  have hc : ¬(i < 0 ∨ (cs.length : Int) ≤ i ∨ o < 1) := by omega
  obtain ⟨c, hcc⟩ := hM.some_at (i := i.toNat) (by omega)
  have hib := inB_t (show 0 ≤ i by omega) (show i < (cs.length : Nat) by omega)
  refine Ok.le ?_ ref14_Memory_Unlock_j2_le
  simp only [cond_f, Option.bind_some, hM.sl, hib, cond_t, hM.ld2 hcc, unlockM, if_neg hc, hcc]
  by_cases b : c.own = o
  · rw [if_neg (not_not_intro b), dec_t b, Bool.not_true, cond_f]
    refine Ok.le ?_ ref14_Memory_Unlock_j1_le
    obtain ⟨h', e1, e2, e3⟩ := hM.put (o := 0 + i.toNat * 3 + 2) (j := 2) (vs := [.int .i64 0]) (c' := { c with own := 0 }) hcc (by omega) (by simp) rfl
    simp only [Option.bind_some, hM.sl, hib, cond_t, e1]
    exact Ok.some ⟨rfl, e2, e3⟩
  · rw [if_pos b, dec_f b, Bool.not_false, cond_t]
    exact Ok.some ⟨rfl, hM, .refl _ _⟩
theorem rpublish_ok (hM : MemR h p q cs clk) (i o v ver : Int) : Ok (C k_ref14_Memory_Publish [at0 p, .int .i64 i, .int .i64 o, .int .i64 v, .int .i64 ver] h) fun r h' => r = .int .i64 (publishM cs clk i o v ver).1 ∧ MemR h' p q (publishM cs clk i o v ver).2 clk ∧ Fr [q] h h' := by
  refine Ok.le ?_ ref14_Memory_Publish_le
  simp only [F_ref14_Memory_Publish, there_eq hM, Option.bind_some, asB_b]
  have bad : (i < 0 ∨ (cs.length : Int) ≤ i ∨ o < 1) → Ok (ref14_Memory_Publish_j2 (some ⟨p, 0, none⟩) i o ver v true h) fun r h' => r = .int .i64 (publishM cs clk i o v ver).1 ∧ MemR h' p q (publishM cs clk i o v ver).2 clk ∧ Fr [q] h h' := by
    intro hc
    refine Ok.le ?_ ref14_Memory_Publish_j2_le
    simp only [publishM, if_pos hc]
    exact Ok.some ⟨rfl, hM, .refl _ _⟩
  by_cases hc1 : i < 0 ∨ (cs.length : Int) ≤ i
  · rw [dec_f (not_not_intro hc1)]; exact bad (by omega)
  rw [dec_t hc1, Bool.not_true, cond_f]
  by_cases ho : o < 1
  · rw [dec_t ho]; exact bad (by omega)
  rw [dec_f ho]
  have hc : ¬(i < 0 ∨ (cs.length : Int) ≤ i ∨ o < 1) := by omega
  obtain ⟨c, hcc⟩ := hM.some_at (i := i.toNat) (by omega)
  have hib := inB_t (show 0 ≤ i by omega) (show i < (cs.length : Nat) by omega)
  refine Ok.le ?_ ref14_Memory_Publish_j2_le
  simp only [cond_f, Option.bind_some, hM.sl, hib, cond_t, hM.ld2 hcc, hM.ld1 hcc, hM.clock, publishM, if_neg hc, hcc]
  by_cases b : c.own = o
  · rw [if_neg (not_not_intro b), dec_t b, Bool.not_true, cond_f]
    by_cases d : ver ≤ c.ver
    · rw [if_pos (.inl d), dec_t d, cond_t]
      exact Ok.some ⟨rfl, hM, .refl _ _⟩
    · rw [dec_f d, cond_f]
      by_cases e : clk < ver
      · rw [if_pos (.inr e), dec_t e, cond_t]
        exact Ok.some ⟨rfl, hM, .refl _ _⟩
      · rw [if_neg (by omega), dec_f e, cond_f]
        refine Ok.le ?_ ref14_Memory_Publish_j1_le
        obtain ⟨h', e1, e2, e3⟩ := hM.put (o := 0 + i.toNat * 3) (j := 0) (vs := [.int .i64 v, .int .i64 ver, .int .i64 0]) (c' := ⟨v, ver, 0⟩) hcc (by omega) (by simp) rfl
        simp only [Option.bind_some, hM.sl, hib, cond_t, e1]
        exact Ok.some ⟨rfl, e2, e3⟩
  · rw [if_pos b, dec_f b, Bool.not_false, cond_t]
    exact Ok.some ⟨rfl, hM, .refl _ _⟩
theorem radv_ok (hM : MemR h p q cs clk) : Ok (C k_ref14_Memory_Advance [at0 p] h) fun v h' => v = .tuple #[.int .i64 (advM clk).1, .int .i64 (advM clk).2.1] ∧ MemR h' p q cs (advM clk).2.2 ∧ Fr [p] h h' := by
  refine Ok.le ?_ ref14_Memory_Advance_le
  simp only [F_ref14_Memory_Advance, Option.bind_some, hM.clock, advM]
  by_cases a : clk = 1099511627776
  · simp only [a, decide_true, cond_true, if_true]
    exact Ok.some ⟨rfl, a ▸ hM, .refl _ _⟩
  · simp only [a, decide_false, cond_false, if_false]
    refine Ok.le ?_ ref14_Memory_Advance_j1_le
    have h0 := hM.c0
    have h1 := hM.c1
    have hst : h.st p (0 + 1) [.int .i64 (clk + 1)] = some (h.set p (some (.cells [.slice (some ⟨q, 0, none⟩) cs.length cs.length, .int .i64 (clk + 1)] false false 2))) := AH.st_of hM.hp (by simp)
    have hM' : MemR (h.set p (some (.cells [.slice (some ⟨q, 0, none⟩) cs.length cs.length, .int .i64 (clk + 1)] false false 2))) p q cs (clk + 1) :=
      ⟨AH.get_set_eq _ _ _, by rw [AH.get_set_ne _ (Ne.symm hM.ne)]; exact hM.hq, hM.ne, hM.pn, hM.qn, hM.len, by omega, by omega⟩
    simp only [Option.bind_some, hM.clock, wrap64 (show -9223372036854775808 ≤ clk + 1 by omega) (by omega), hst, hM'.clock]
    exact Ok.some ⟨rfl, hM', Fr.set _ _ (by simp)⟩
theorem rload_ok (hM : MemR h p q cs clk) (i : Int) : Ok (C k_ref14_Memory_Load [at0 p, .int .i64 i] h) fun v h' => v = .tuple #[.agg #[.int .i64 (loadM cs i).1.v, .int .i64 (loadM cs i).1.ver, .int .i64 (loadM cs i).1.own], .int .i64 (loadM cs i).2] ∧ MemR h' p q cs clk ∧ Fr [] h h' := by
  refine Ok.le ?_ ref14_Memory_Load_le
  have hf1 : Fr [] h (h.push (.cells [(.int .i64 0), (.int .i64 0), (.int .i64 0)] false false 3)) := Fr.push _ _ _
  have hM1 := hM.fr hf1 (by simp) (by simp)
  have stz : ∀ x y z : Int, ∃ h', (h.push (.cells [(.int .i64 0), (.int .i64 0), (.int .i64 0)] false false 3)).st h.n 0 [.int .i64 x, .int .i64 y, .int .i64 z] = some h' ∧ h'.ldI .i64 h.n 0 = some x ∧ h'.ldI .i64 h.n (0 + 1) = some y ∧ h'.ldI .i64 h.n (0 + 2) = some z ∧ Fr [] h h' := by
    intro x y z
    obtain ⟨h', s1, s2, s3, _⟩ := push_st h [(.int .i64 0), (.int .i64 0), (.int .i64 0)] [.int .i64 x, .int .i64 y, .int .i64 z] 3 rfl
    exact ⟨h', s1, AH.ldI_of s2 rfl, AH.ldI_of s2 rfl, AH.ldI_of s2 rfl, s3⟩
  simp only [F_ref14_Memory_Load, there_eq hM1, Option.bind_some, asB_b]
  by_cases hc : i < 0 ∨ (cs.length : Int) ≤ i
  · rw [dec_f (not_not_intro hc), Bool.not_false, cond_t]
    obtain ⟨h', s1, s2, s3, s4, s5⟩ := stz 0 0 0
    simp only [s1, s2, s3, s4, Option.bind_some, loadM, if_pos hc]
    exact Ok.some ⟨rfl, hM.fr s5 (by simp) (by simp), s5⟩
  rw [dec_t hc, Bool.not_true, cond_f]
  obtain ⟨c, hcc⟩ := hM.some_at (i := i.toNat) (by omega)
  have hib := inB_t (show 0 ≤ i by omega) (show i < (cs.length : Nat) by omega)
  refine Ok.le ?_ ref14_Memory_Load_j1_le
  obtain ⟨h', s1, s2, s3, s4, s5⟩ := stz c.v c.ver c.own
  have s3' : h'.ldI .i64 h.n 1 = some c.ver := by simpa using s3
  have s4' : h'.ldI .i64 h.n 2 = some c.own := by simpa using s4
  simp only [Option.bind_some, hM1.sl, hib, cond_t, hM1.ld0' hcc, hM1.ld1 hcc, hM1.ld2 hcc, s1, s2, s3, s4, loadM, if_neg hc, hcc]
  exact Ok.some ⟨rfl, hM.fr s5 (by simp) (by simp), s5⟩

theorem rowned_loop {h0 : AH} (hM0 : MemR h0 p q cs clk) (o : Int) (ho : 0 < o) (hcs : cs.length ≤ 1024) : ∀ (n i : Nat) (h : AH) (a : Option Addr) (m c : Nat), cs.length - i = n → i ≤ cs.length → Fr [] h0 h → Ow h 1 a m c ((ownUp cs o i).flatMap encI) → (∀ b, blk a b → h0.n ≤ b) →
    Ok (ref14_Memory_Owned_L1 (some ⟨p, 0, none⟩) o a m c i h) fun v h' => ∃ a n c, v = .slice a n c ∧ n = (ownUp cs o cs.length).length ∧ Rd h' a ((ownUp cs o cs.length).flatMap encI) ∧ Fr [] h0 h' ∧ (∀ b, blk a b → h0.n ≤ b) := by
  intro n
  induction n with
  | zero =>
    intro i h a m c hn hi hf how hfr
    obtain rfl : i = cs.length := by omega
    refine Ok.le ?_ ref14_Memory_Owned_L1_le
    have hM := hM0.fr hf (by simp) (by simp)
    simp only [Option.bind_some, hM.sl]
    rw [dec_f (by omega), cond_f]
    refine Ok.le ?_ ref14_Memory_Owned_j1_le
    refine Ok.some ⟨a, m, c, rfl, ?_, how.rd, hf, hfr⟩
    have := how.len; rw [flat_len encI_len] at this; omega
  | succ n ih =>
    intro i h a m c hn hi hf how hfr
    have hM := hM0.fr hf (by simp) (by simp)
    obtain ⟨ce, hc⟩ := hM.some_at (i := i) (by omega)
    refine Ok.le ?_ ref14_Memory_Owned_L1_le
    simp only [Option.bind_some, hM.sl]
    rw [dec_t (by omega), cond_t]
    refine Ok.le ?_ ref14_Memory_Owned_j3_le
    have hib := inB_t (show (0 : Int) ≤ (i : Int) by omega) (show (i : Int) < (cs.length : Nat) by omega)
    simp only [dec_t ho, cond_t, Option.bind_some, hM.sl, hib, Int.toNat_natCast, hM.ld2 hc]
    have hs := ownUp_succ cs o i hc
    by_cases e : ce.own = o
    · rw [dec_t e, cond_t]
      obtain ⟨a', n', c', h', e1, e2, e3, e4⟩ := ow_push hf how hfr (i : Int) (by have := ownUp_le cs o i; omega)
      simp only [e1, Option.bind_some, asS_s]
      refine Ok.le ?_ ref14_Memory_Owned_j2_le
      rw [wrap64 (by omega) (by omega)]
      rw [if_pos e] at hs
      exact ih (i + 1) h' a' n' c' (by omega) (by omega) e3 (by rw [hs]; exact e2) e4
    · rw [dec_f e, cond_f]
      refine Ok.le ?_ ref14_Memory_Owned_j2_le
      rw [wrap64 (by omega) (by omega)]
      rw [if_neg e] at hs
      exact ih (i + 1) h a m c (by omega) (by omega) hf (by rw [hs]; exact how) hfr
theorem rowned_skip {h0 : AH} (hM0 : MemR h0 p q cs clk) (o : Int) (ho : ¬0 < o) (hcs : cs.length ≤ 1024) : ∀ (n i : Nat), cs.length - i = n → i ≤ cs.length →
    Ok (ref14_Memory_Owned_L1 (some ⟨p, 0, none⟩) o none 0 0 i h0) fun v h' => v = .slice none 0 0 ∧ h' = h0 := by
  intro n
  induction n with
  | zero =>
    intro i hn hi
    obtain rfl : i = cs.length := by omega
    refine Ok.le ?_ ref14_Memory_Owned_L1_le
    simp only [Option.bind_some, hM0.sl]
    rw [dec_f (by omega), cond_f]
    refine Ok.le ?_ ref14_Memory_Owned_j1_le
    exact Ok.some ⟨rfl, rfl⟩
  | succ n ih =>
    intro i hn hi
    refine Ok.le ?_ ref14_Memory_Owned_L1_le
    simp only [Option.bind_some, hM0.sl]
    rw [dec_t (by omega), cond_t]
    refine Ok.le ?_ ref14_Memory_Owned_j3_le
    rw [dec_f ho, cond_f]
    refine Ok.le ?_ ref14_Memory_Owned_j2_le
    rw [wrap64 (by omega) (by omega)]
    exact ih (i + 1) (by omega) (by omega)
theorem rowned_ok (hM : MemR h p q cs clk) (o : Int) (hcs : cs.length ≤ 1024) : Ok (C k_ref14_Memory_Owned [at0 p, .int .i64 o] h) fun v h' => ∃ a n c, v = .slice a n c ∧ n = (ownedM cs o).length ∧ Rd h' a ((ownedM cs o).flatMap encI) ∧ Fr [] h h' ∧ (∀ b, blk a b → h.n ≤ b) := by
  refine Ok.le ?_ ref14_Memory_Owned_le
  unfold F_ref14_Memory_Owned ownedM
  by_cases ho : o < 1
  · refine (rowned_skip hM o (by omega) hcs _ 0 rfl (by omega)).mono ?_
    rintro v h' ⟨rfl, rfl⟩
    simp only [if_pos ho]
    exact ⟨none, 0, 0, rfl, rfl, .nil _ _, .refl _ _, fun b hb => by cases hb⟩
  · simp only [if_neg ho]
    exact rowned_loop hM o (by omega) hcs _ 0 h none 0 0 rfl (by omega) (.refl _ _) .nil (fun b hb => by cases hb)
end
theorem rnew_ok (h : AH) (n : Int) : (n < 1 ∨ 1024 < n) ∧ C k_ref14_New [.int .i64 n] h = some (.tuple #[.pointer none, .int .i64 2], h) ∨
    (1 ≤ n ∧ n ≤ 1024 ∧ ∃ h', C k_ref14_New [.int .i64 n] h = some (.tuple #[at0 (h.n + 1), .int .i64 0], h') ∧ MemR h' (h.n + 1) h.n (List.replicate n.toNat ⟨0, 0, 0⟩) 0 ∧ Fr [] h h' ∧ h'.n = h.n + 2) := by
  by_cases a : n < 1
  · refine .inl ⟨.inl a, ref14_New_le _ ?_⟩
    simp [F_ref14_New, a]
  by_cases b : 1024 < n
  · refine .inl ⟨.inr b, ref14_New_le _ ?_⟩
    simp [F_ref14_New, a, b]
  · refine .inr ⟨by omega, by omega, (h.push (.cells (repL [(.int .i64 0), (.int .i64 0), (.int .i64 0)] n.toNat) false false 3)).push (.cells [.slice (some ⟨h.n, 0, none⟩) n.toNat n.toNat, .int .i64 0] false false 2), ?_, ?_, ?_, rfl⟩
    · refine ref14_New_le _ ?_
      simp only [F_ref14_New, a, b, decide_false, cond_false]
      refine ref14_New_j1_le _ ?_
      rw [dec_t (show 0 ≤ n by omega), dec_t (show n ≤ n by omega), dec_t (show n * 24 ≤ 281474976710656 by omega), dec_t (show n ≤ 281474976710656 by omega)]
      rfl
    · refine ⟨?_, ?_, by omega, by simp [AH.push], by simp only [AH.push]; omega, by simp; omega, by omega, by omega⟩
      · rw [AH.get_push, if_pos (by simp [AH.push])]; simp
      · rw [AH.get_push_ne _ (by simp [AH.push]), AH.get_push_eq]
        have := flat_rep (enc := encC) ⟨0, 0, 0⟩ n.toNat
        rw [← this]; rfl
    · exact (Fr.push _ _ _).trans (Fr.push _ _ _)
end Go.Lg.Tryz
