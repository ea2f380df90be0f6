/- More of the scheduler: the set of its blocks, made tight; a new one. -/
import Derived.Test.YtplfjljdakkigaaPsched
namespace Go.Lg.Try
set_option linter.unusedVariables false
open Go Go.Proofs
theorem Sch.tight {h : AH} {s : Nat} {F : Nat → Prop} {ts : List TD} {line : List Int} {now : Int} {woken : Bool} (hs : Sch h s F ts line now woken) : ∃ F0, Sch h s F0 ts line now woken ∧ (∀ b, F0 b → b < h.n) ∧ (∀ b, F0 b → F b) := by
  obtain ⟨ta, tn, tc, la, ln, lc, hS, hF⟩ := hs
  refine ⟨fun b => b = s ∨ blk ta b ∨ blk la b, ⟨ta, tn, tc, la, ln, lc, hS, fun b hb => hb⟩, fun b hb => ?_, hF⟩
  rcases hb with rfl | hb | hb
  · exact hS.sn
  · exact hS.tk.lt b hb
  · exact hS.lk.lt b hb
theorem new_sch (h : AH) : Sch (h.push (.cells [.bool true, .slice none 0 0, .slice none 0 0, .int .i64 0, .bool false] false false 5)) h.n (fun b => b = h.n) [] [] 0 false :=
  ⟨none, 0, 0, none, 0, 0, ⟨AH.get_push_eq _ _, .nil, .nil, by show h.n < h.n + 1; omega, fun e => e.elim, fun e => e.elim, fun b e => e.elim⟩, fun b hb => by
    rcases hb with e | e | e
    · exact e
    · exact e.elim
    · exact e.elim⟩
theorem Moved.keep {F F' : Nat → Prop} {h h' : AH} (mv : Moved F F' h h') {b : Nat} (hb : b < h.n) (hn : ¬ F b) : ¬ F' b := fun hf => by rcases mv.f b hf with e | e; exact hn e; omega
/-- every block of the set before the end of the memory: a set that is tight -/
theorem Moved.sub {F F' F0 : Nat → Prop} {h h' : AH} (mv : Moved F F' h h') (hs : ∀ b, F0 b → F' b) : Moved F F0 h h' := ⟨mv.n, mv.g, fun b hb => mv.f b (hs b hb)⟩
/-- the numbers of those that are blocked, among the first k -/
def isB (ts : List TD) (i : Nat) : Bool := match ts[i]? with
  | some x => decide (x.st = 2)
  | none => false
def blkU (ts : List TD) (k : Nat) : List Int := ((List.range k).filter (isB ts)).map fun (i : Nat) => (i : Int) + 1
theorem blkU_step (ts : List TD) (k : Nat) {x : TD} (hx : ts[k]? = some x) : blkU ts (k + 1) = if x.st = 2 then blkU ts k ++ [(k : Int) + 1] else blkU ts k := by
  unfold blkU
  rw [List.range_succ, List.filter_append, List.map_append]
  by_cases c : x.st = 2 <;> simp [isB, hx, c]
theorem blkU_len (ts : List TD) (k : Nat) : (blkU ts k).length ≤ k := by
  unfold blkU
  rw [List.length_map]
  exact Nat.le_trans (List.length_filter_le _ _) (by simp)
theorem blk1_ok (i : Option (TypeId × Value)) (x y : Int) (h : AH) : Ok (C k_sched_Sched_Blocked_1 [.agg #[ifV i, .int .u8 x, .int .i64 y]] h) fun v h' => v = .bool (decide (x = 2)) ∧ Fr [] h h' := by
  refine Ok.le ?_ sched_Sched_Blocked_1_le
  have hall : [(ifV i), Value.int .u8 x, .int .i64 y].all cellOk = true := by simp only [List.all_cons, List.all_nil, cellOk_ifV, Bool.true_and]; rfl
  have e : (h.push (.cells [(ifV i), .int .u8 x, .int .i64 y] false false 3)).ldI .u8 h.n (0 + 1) = some x := AH.ldI_of (AH.get_push_eq _ _) rfl
  simp only [F_sched_Sched_Blocked_1, hall, cond_t, e, Option.bind_some]
  exact Ok.some ⟨rfl, Fr.push _ _ _⟩
theorem fn_q : fnQ (fnV (some (k_sched_Sched_Blocked_1, [], []))) = some (k_sched_Sched_Blocked_1, [], []) := rfl
theorem fn_b : hasBody Try.prog k_sched_Sched_Blocked_1 = true := by kernel_rfl
section
variable {s : Nat} {F : Nat → Prop} {ts : List TD} {line : List Int} {now : Int} {woken : Bool}
theorem some_loop {h0 : AH} {ta la : Option Addr} {tn tc ln lc : Nat} (hS : SchR h0 s ta tn tc la ln lc ts line now woken) (hb : ts.length < 100000) : ∀ (n i : Nat) (h : AH) (a : Option Addr) (m c : Nat), ts.length - i = n → i ≤ ts.length → Fr [] h0 h →
    Ow h 1 a m c ((blkU ts i).flatMap encI) → (∀ b, blk a b → h0.n ≤ b) →
    Ok (sched_Sched_some_L1 (some (k_sched_Sched_Blocked_1, [], [])) a m c ta tn tc (tn : Int) i h) fun v h' => ∃ a n c, v = .slice a n c ∧ Ow h' 1 a n c ((blkU ts ts.length).flatMap encI) ∧ Fr [] h0 h' ∧ (∀ b, blk a b → h0.n ≤ b) := by
  have htn := hS.tlen
  subst htn
  intro n
  induction n with
  | zero =>
    intro i h a m c hn hi hf ho hfr
    obtain rfl : i = ts.length := by omega
    refine Ok.le ?_ sched_Sched_some_L1_le
    refine Ok.le ?_ sched_Sched_some_j4_le
    rw [dec_f (by omega), cond_f]
    refine Ok.le ?_ sched_Sched_some_j1_le
    exact Ok.some ⟨a, m, c, rfl, ho, hf, hfr⟩
  | succ n ih =>
    intro i h a m c hn hi hf ho hfr
    have hSh := hS.fr hf
    obtain ⟨x, hx⟩ : ∃ x, ts[i]? = some x := ⟨_, List.getElem?_eq_getElem (by omega)⟩
    obtain ⟨tb, rfl, _, e0, e1, e2, _⟩ := hSh.task hx
    refine Ok.le ?_ sched_Sched_some_L1_le
    refine Ok.le ?_ sched_Sched_some_j4_le
    rw [dec_t (by omega), cond_t]
    refine Ok.le ?_ sched_Sched_some_j3_le
    obtain ⟨h1, s1, s2, s3, _⟩ := push_st h [(ifV none), (.int .u8 0), (.int .i64 0)] [(ifV x.t), .int .u8 x.st, .int .i64 x.n] 3 rfl
    have g0 : h1.ldF h.n 0 = some x.t := ldF_of s2 rfl
    have g1 : h1.ldI .u8 h.n (0 + 1) = some x.st := AH.ldI_of s2 rfl
    have g2 : h1.ldI .i64 h.n (0 + 2) = some x.n := AH.ldI_of s2 rfl
    have hall : [(ifV x.t), Value.int .u8 x.st, .int .i64 x.n].all cellOk = true := by simp only [List.all_cons, List.all_nil, cellOk_ifV, Bool.true_and]; rfl
    simp only [Option.bind_some, inB_t (show (0 : Int) ≤ (i : Int) by omega) (show (i : Int) < (ts.length : Nat) by omega), cond_t, Int.toNat_natCast, e0, e1, e2, hall, s1, g0, g1, g2, fn_q, fn_b, List.nil_append, List.append_nil]
    refine Ok.bind (blk1_ok _ _ _ _) ?_
    rintro _ h2 ⟨rfl, hf2⟩
    have hf12 : Fr [] h h2 := s3.trans hf2
    have hf02 := hf.trans hf12
    have ho2 := ho.fr hf12 (by simp)
    have hstep := blkU_step ts i hx
    simp only [asB_b, Option.bind_some]
    by_cases c2 : x.st = 2
    · rw [if_pos c2] at hstep
      have hle := blkU_len ts i
      obtain ⟨a', n', c', h3, u1, u2, u3, u4⟩ := ho2.push1 hf02 hfr ((i : Int) + 1) (by omega)
      simp only [dec_t c2, cond_t, wrap64 (show -9223372036854775808 ≤ (i : Int) + 1 by omega) (by omega), u1, Option.bind_some, asS_s]
      refine Ok.le ?_ sched_Sched_some_j2_le
      rw [wrap64 (by omega) (by omega)]
      rw [← hstep] at u2
      exact ih (i + 1) h3 a' n' c' (by omega) (by omega) u3 u2 u4
    · rw [if_neg c2] at hstep
      simp only [dec_f c2, cond_f]
      refine Ok.le ?_ sched_Sched_some_j2_le
      rw [wrap64 (by omega) (by omega)]
      rw [← hstep] at ho2
      exact ih (i + 1) h2 a m c (by omega) (by omega) hf02 ho2 hfr
theorem blocked_ok {h : AH} (hs : Sch h s F ts line now woken) (hb : ts.length < 100000) : Ok (C k_sched_Sched_Blocked [.pointer (some ⟨s, 0, none⟩)] h) fun v h' => ∃ a n c, v = .slice a n c ∧ Ow h' 1 a n c ((blkU ts ts.length).flatMap encI) ∧ Fr [] h h' ∧ (∀ b, blk a b → h.n ≤ b) := by
  obtain ⟨ta, tn, tc, la, ln, lc, hS, hF⟩ := hs
  refine Ok.le ?_ sched_Sched_Blocked_le
  simp only [F_sched_Sched_Blocked, s_right hS, Option.bind_some, asB_b, Bool.not_true, cond_f]
  refine Ok.le ?_ sched_Sched_Blocked_j1_le
  have hsome : Ok (C k_sched_Sched_some [.pointer (some ⟨s, 0, none⟩), fnV (some (k_sched_Sched_Blocked_1, [], []))] h) fun v h' => ∃ a n c, v = .slice a n c ∧ Ow h' 1 a n c ((blkU ts ts.length).flatMap encI) ∧ Fr [] h h' ∧ (∀ b, blk a b → h.n ≤ b) := by
    refine Ok.le ?_ sched_Sched_some_le
    simp only [F_sched_Sched_some, Option.bind_some, hS.c1]
    exact some_loop hS hb ts.length 0 h none 0 0 (by omega) (by omega) (.refl _ _) .nil (fun b hb => hb.elim)
  refine Ok.bind hsome ?_
  rintro _ h1 ⟨a, n, c, rfl, g1, g2, g3⟩
  simp only [asS_s, Option.bind_some]
  exact Ok.some ⟨a, n, c, rfl, g1, g2, g3⟩
end
end Go.Lg.Try
