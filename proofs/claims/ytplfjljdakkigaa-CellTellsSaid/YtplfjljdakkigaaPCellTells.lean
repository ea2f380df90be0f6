/- CellTells: the law's function answers true, over the abstract memory. -/
import Derived.Test.YtplfjljdakkigaaFlaw14
import Derived.Test.YtplfjljdakkigaaPCellOp
import Derived.Test.YtplfjljdakkigaaPref14
namespace Go.Lg.Try
set_option linter.unusedVariables false
set_option linter.unusedSimpArgs false
open Go Go.Proofs
namespace Tells
def Q : Value → AH → Prop := fun v _ => v = .bool true
/-- two memories that read as the same cells and clock -/
structure I (h : AH) (p q p' q' : Nat) (a2 : Option Addr) (ops : List COp) (cs : List Cel) (clk : Int) : Prop where
  m : MemR h p q cs clk
  r : MemR h p' q' cs clk
  le : cs.length ≤ 1024
  ne : p ≠ p' ∧ p ≠ q' ∧ q ≠ p' ∧ q ≠ q'
  rd : Rd h a2 (ops.flatMap encCOp)
  bn : ∀ b, blk a2 b → b ≠ p ∧ b ≠ q ∧ b ≠ p' ∧ b ≠ q'
variable {h h' : AH} {p q p' q' : Nat} {a2 : Option Addr} {ops : List COp} {cs cs' : List Cel} {clk clk' : Int}
theorem I.fr (hi : I h p q p' q' a2 ops cs clk) (hf : Fr [] h h') : I h' p q p' q' a2 ops cs clk :=
  ⟨hi.m.fr hf (by simp) (by simp), hi.r.fr hf (by simp) (by simp), hi.le, hi.ne, hi.rd.fr hf (by simp), hi.bn⟩
/-- behind a call of either -/
theorem I.both {h1 h2 : AH} (hi : I h p q p' q' a2 ops cs clk) {S S' : List Nat} (hm : MemR h1 p q cs' clk') (hf : Fr S h h1) (hS : ∀ x, x ∈ S → x = p ∨ x = q) (hr : MemR h2 p' q' cs' clk') (hf' : Fr S' h1 h2) (hS' : ∀ x, x ∈ S' → x = p' ∨ x = q') (hl : cs'.length = cs.length) :
    I h2 p q p' q' a2 ops cs' clk' := by
  have n := hi.ne
  have hle := hi.le
  refine ⟨hm.fr hf' (fun hx => ?_) (fun hx => ?_), hr, by omega, hi.ne, (hi.rd.fr hf fun b hb hx => ?_).fr hf' fun b hb hx => ?_, hi.bn⟩
  · rcases hS' _ hx with e | e <;> omega
  · rcases hS' _ hx with e | e <;> omega
  · have := hi.bn b hb; rcases hS _ hx with e | e <;> omega
  · have := hi.bn b hb; rcases hS' _ hx with e | e <;> omega
theorem OpAt.both {h1 h2 : AH} {b : Nat} {x : COp} (ho : OpAt h b x) {S S' : List Nat} (hf : Fr S h h1) (hS : ∀ x, x ∈ S → x = p ∨ x = q) (hf' : Fr S' h1 h2) (hS' : ∀ x, x ∈ S' → x = p' ∨ x = q') (hb : b ≠ p ∧ b ≠ q ∧ b ≠ p' ∧ b ≠ q') : OpAt h1 b x ∧ OpAt h2 b x := by
  have h1 := ho.fr hf (fun hx => by rcases hS _ hx with e | e <;> omega)
  exact ⟨h1, h1.fr hf' (fun hx => by rcases hS' _ hx with e | e <;> omega)⟩
theorem lockM_len (cs : List Cel) (i o : Int) : (lockM cs i o).2.length = cs.length := by
  unfold lockM; split; rfl; split; rfl; split; rfl; simp
theorem unlockM_len (cs : List Cel) (i o : Int) : (unlockM cs i o).2.length = cs.length := by
  unfold unlockM; split; rfl; split; rfl; split; rfl; simp
theorem fillM_len (cs : List Cel) (i v : Int) : (fillM cs i v).2.length = cs.length := by
  unfold fillM; split; rfl; split; rfl; split; rfl; split; rfl; simp
theorem publishM_len (cs : List Cel) (clk i o v ver : Int) : (publishM cs clk i o v ver).2.length = cs.length := by
  unfold publishM; split; rfl; split; rfl; split; rfl; split; rfl; simp

/-- the last look at every cell -/
theorem loop1 (hi0 : I h p q p' q' a2 ops cs clk) : ∀ (n i : Nat) (h : AH), cs.length - i = n → i ≤ cs.length → I h p q p' q' a2 ops cs clk → Ok (law14_CellTells_L1 (cs.length : Int) (some ⟨p, 0, none⟩) (some ⟨p', 0, none⟩) i h) Q := by
  intro n
  induction n with
  | zero =>
    intro i h hn hil hi
    obtain rfl : i = cs.length := by omega
    refine Ok.le ?_ law14_CellTells_L1_le
    rw [dec_f (by omega), cond_f]
    refine Ok.le ?_ law14_CellTells_j1_le
    simp only [size_eq hi.m, Option.bind_some, asI_i64, decide_true, cond_t, C_closed (f := k_law14_awake) rfl h, asB_b]
    exact Ok.some rfl
  | succ n ih =>
    intro i h hn hil hi
    refine Ok.le ?_ law14_CellTells_L1_le
    rw [dec_t (by omega), cond_t]
    refine Ok.le ?_ law14_CellTells_j4_le
    obtain ⟨c, hc⟩ := hi.m.some_at (i := i) (by omega)
    have hl : ¬((i : Int) < 0 ∨ (cs.length : Int) ≤ (i : Int)) := by omega
    obtain ⟨h1, s1, s2, s3, _⟩ := push_st h [(.int .i64 0), (.int .i64 0), (.int .i64 0)] [.int .i64 c.v, .int .i64 c.ver, .int .i64 c.own] 3 rfl
    have g0 : h1.ldI .i64 h.n (0 + 0) = some c.v := AH.ldI_of s2 rfl
    have g1 : h1.ldI .i64 h.n (0 + 1) = some c.ver := AH.ldI_of s2 rfl
    have g2 : h1.ldI .i64 h.n (0 + 2) = some c.own := AH.ldI_of s2 rfl
    simp only [load_eq hi.m, loadM, if_neg hl, Int.toNat_natCast, hc, Option.bind_some, asTu_t, hdO_c, asI_i64, List.isEmpty_nil, cond_t, hi.r.sl, inB_t (show (0:Int) ≤ (i : Int) by omega) (show (i : Int) < (cs.length : Nat) by omega),
      hi.r.ld0' hc, hi.r.ld1 hc, hi.r.ld2 hc, s1, decide_true, Bool.not_true, cond_f, g0, g1, g2]
    refine Ok.le ?_ law14_CellTells_j3_le
    rw [cond_f]
    refine Ok.le ?_ law14_CellTells_j2_le
    have hlen := hi.le
    rw [wrap64 (by omega) (by omega)]
    exact ih (i + 1) h1 (by omega) (by omega) (hi.fr s3)

theorem loop2 (l3 c4 : Nat) (N : Int) (hl3 : l3 = ops.length) : ∀ (n k : Nat) (h : AH) (cs : List Cel) (clk : Int), 300 - k = n → k ≤ 300 → N = cs.length → I h p q p' q' a2 ops cs clk →
    Ok (law14_CellTells_L2 l3 a2 (some ⟨p, 0, none⟩) (some ⟨p', 0, none⟩) c4 N k h) Q := by
  intro n
  induction n with
  | zero =>
    intro k h cs clk hk hk2 hN hi
    obtain rfl : k = 300 := by omega
    have fin : Ok (law14_CellTells_j5 N (some ⟨p, 0, none⟩) (some ⟨p', 0, none⟩) h) Q := by
      refine Ok.le ?_ law14_CellTells_j5_le
      rw [hN]; exact loop1 hi cs.length 0 h rfl (by omega) hi
    refine Ok.le ?_ law14_CellTells_L2_le
    rw [dec_f (show ¬((300 : Nat) : Int) < 300 by omega)]
    cases decide (((300 : Nat) : Int) < (l3 : Int)) <;> exact fin
  | succ n ih =>
    intro k h cs clk hk hk2 hN hi
    refine Ok.le ?_ law14_CellTells_L2_le
    by_cases hlt : (k : Int) < (l3 : Int)
    · rw [dec_t hlt, dec_t (show (k : Int) < 300 by omega), cond_t, cond_t]
      refine Ok.le ?_ law14_CellTells_j12_le
      obtain ⟨x, hx⟩ : ∃ x, ops[k]? = some x := ⟨_, List.getElem?_eq_getElem (by omega)⟩
      obtain ⟨ad, rfl, e0, e1, e2, e3, e4, h1, s1, s2, s3⟩ := op_read hi.rd hx
      have hi1 := hi.fr s3
      have hne := hi.ne
      have hob : h.n ≠ p ∧ h.n ≠ q ∧ h.n ≠ p' ∧ h.n ≠ q' := by have := hi.m.pn; have := hi.m.qn; have := hi.r.pn; have := hi.r.qn; omega
      -- behind the two calls
      have j7 : ∀ (h2 : AH) (cs2 : List Cel) (clk2 e : Int), cs2.length = cs.length → I h2 p q p' q' (some ad) ops cs2 clk2 → OpAt h2 h.n x →
          Ok (law14_CellTells_j7 (some ⟨p, 0, none⟩) (some ⟨p', 0, none⟩) l3 (some ad) c4 N k (some ⟨h.n, 0, none⟩) e e h2) Q := by
        intro h2 cs2 clk2 e hlen hi2 ho2
        refine Ok.le ?_ law14_CellTells_j7_le
        simp only [decide_true, Bool.not_true, cond_f, clock_eq hi2.m, Option.bind_some, asI_i64, hi2.r.clock, veqO_int, cond_t, ho2.l2]
        refine Ok.bind (owned_ok hi2.m x.o hi2.le) ?_
        rintro _ h3 ⟨a, m, c, rfl, hm, hrd, hf3, hfresh⟩
        have ho3 := ho2.fr hf3 (by simp)
        have hi3 := hi2.fr hf3
        simp only [asS_s, Option.bind_some, ho3.l2, ho2.l2, veqO_int, cond_t]
        refine Ok.bind (rowned_ok hi3.r x.o hi2.le) ?_
        rintro _ h4 ⟨a', m', c', rfl, hm', hrd', hf4, hfresh'⟩
        have hi4 := hi3.fr hf4
        have hle := ownedM_le cs2 x.o
        have := hi2.le
        simp only [asS_s, Option.bind_some, sameInts_eq c c' (hrd.fr hf4 (by simp)) hrd' hm hm' (by omega), asB_b, decide_true, Bool.not_true, cond_f]
        refine Ok.le ?_ law14_CellTells_j6_le
        rw [wrap64 (by omega) (by omega)]
        exact ih (k + 1) h4 cs2 clk2 (by omega) (by omega) (by omega) hi4
      simp only [Option.bind_some, inB_t (show (0 : Int) ≤ (k : Int) by omega) (show (k : Int) < (l3 : Nat) by omega), cond_t, Int.toNat_natCast, e0, e1, e2, e3, e4, s1, s2.l0]
      by_cases k0 : x.kind = 0
      · rw [dec_t k0, cond_t]
        refine Ok.bind (adv_ok hi1.m) ?_
        rintro _ h2 ⟨rfl, hM2, hf2⟩
        simp only [asTu_t, hdO_c, asI_i64, Option.bind_some, List.isEmpty_nil, cond_t]
        refine Ok.bind (radv_ok (hi1.r.fr hf2 (by simp; omega) (by simp; omega))) ?_
        rintro _ h3 ⟨rfl, hM3, hf3⟩
        simp only [asTu_t, hdO_c, asI_i64, Option.bind_some, List.isEmpty_nil, cond_t, decide_true, Bool.not_true, cond_f]
        refine Ok.le ?_ law14_CellTells_j8_le
        have hob2 := OpAt.both (p := p) (q := q) (p' := p') (q' := q') s2 hf2 (by simp) hf3 (by simp) hob
        exact j7 h3 cs _ _ rfl (hi1.both hM2 hf2 (by simp) hM3 hf3 (by simp) rfl) hob2.2
      rw [dec_f k0, cond_f]
      by_cases k1 : x.kind = 1
      · rw [dec_t k1, cond_t]
        simp only [s2.l1, Option.bind_some, load_eq hi1.m, asTu_t, hdO_c, asI_i64, List.isEmpty_nil, cond_t]
        refine Ok.bind (rload_ok hi1.r x.i) ?_
        rintro _ h2 ⟨rfl, hM2, hf2⟩
        have hi2 := hi1.fr hf2
        obtain ⟨h3, t1, t2, t3, _⟩ := push_st h2 [(.int .i64 0), (.int .i64 0), (.int .i64 0)] [.int .i64 (loadM cs x.i).1.v, .int .i64 (loadM cs x.i).1.ver, .int .i64 (loadM cs x.i).1.own] 3 rfl
        have g0 : h3.ldI .i64 h2.n (0 + 0) = some (loadM cs x.i).1.v := AH.ldI_of t2 rfl
        have g1 : h3.ldI .i64 h2.n (0 + 1) = some (loadM cs x.i).1.ver := AH.ldI_of t2 rfl
        have g2 : h3.ldI .i64 h2.n (0 + 2) = some (loadM cs x.i).1.own := AH.ldI_of t2 rfl
        simp only [asTu_t, hdO_c, asI_i64, asAg_t, Option.bind_some, List.isEmpty_nil, cond_t, t1, g0, g1, g2, decide_true, Bool.not_true, cond_f]
        refine Ok.le ?_ law14_CellTells_j9_le
        exact j7 h3 cs clk _ rfl (hi2.fr t3) ((s2.fr hf2 (by simp)).fr t3 (by simp))
      rw [dec_f k1, cond_f]
      by_cases k2 : x.kind = 2
      · rw [dec_t k2, cond_t]
        simp only [s2.l1, s2.l3, Option.bind_some]
        refine Ok.bind (fill_ok hi1.m x.i x.v) ?_
        rintro _ h2 ⟨rfl, hM2, hf2⟩
        have ho2 := s2.fr hf2 (by simp; omega)
        simp only [asI_i64, Option.bind_some, ho2.l1, ho2.l3, veqO_int, cond_t]
        refine Ok.bind (rfill_ok (hi1.r.fr hf2 (by simp; omega) (by simp; omega)) x.i x.v) ?_
        rintro _ h3 ⟨rfl, hM3, hf3⟩
        simp only [asI_i64, Option.bind_some]
        exact j7 h3 _ clk _ (fillM_len _ _ _) (hi1.both hM2 hf2 (by simp) hM3 hf3 (by simp) (fillM_len _ _ _)) (ho2.fr hf3 (by simp; omega))
      rw [dec_f k2, cond_f]
      have j10 : ∀ b, Ok (law14_CellTells_j10 (some ⟨h.n, 0, none⟩) h1 (some ⟨p, 0, none⟩) (some ⟨p', 0, none⟩) l3 (some ad) c4 N k b) Q := by
        intro b
        refine Ok.le ?_ law14_CellTells_j10_le
        cases b with
        | false => exact j7 h1 cs clk 0 rfl hi1 s2
        | true =>
          simp only [cond_t, s2.l1, s2.l2, s2.l3, s2.l4, Option.bind_some]
          refine Ok.bind (publish_ok hi1.m x.i x.o x.v x.ver) ?_
          rintro _ h2 ⟨rfl, hM2, hf2⟩
          have ho2 := s2.fr hf2 (by simp; omega)
          simp only [asI_i64, Option.bind_some, ho2.l1, ho2.l2, ho2.l3, ho2.l4, veqO_int, cond_t]
          refine Ok.bind (rpublish_ok (hi1.r.fr hf2 (by simp; omega) (by simp; omega)) x.i x.o x.v x.ver) ?_
          rintro _ h3 ⟨rfl, hM3, hf3⟩
          simp only [asI_i64, Option.bind_some]
          exact j7 h3 _ clk _ (publishM_len _ _ _ _ _ _) (hi1.both hM2 hf2 (by simp) hM3 hf3 (by simp) (publishM_len _ _ _ _ _ _)) (ho2.fr hf3 (by simp; omega))
      have j11 : ∀ b, Ok (law14_CellTells_j11 h1 (some ⟨p, 0, none⟩) (some ⟨p', 0, none⟩) l3 (some ad) c4 N k x.kind (some ⟨h.n, 0, none⟩) b) Q := by
        intro b
        refine Ok.le ?_ law14_CellTells_j11_le
        cases b with
        | true =>
          simp only [cond_t, s2.l1, s2.l2, Option.bind_some]
          refine Ok.bind (lock_ok hi1.m x.i x.o) ?_
          rintro _ h2 ⟨rfl, hM2, hf2⟩
          have ho2 := s2.fr hf2 (by simp; omega)
          simp only [asI_i64, Option.bind_some, ho2.l1, ho2.l2, veqO_int, cond_t]
          refine Ok.bind (rlock_ok (hi1.r.fr hf2 (by simp; omega) (by simp; omega)) x.i x.o) ?_
          rintro _ h3 ⟨rfl, hM3, hf3⟩
          simp only [asI_i64, Option.bind_some]
          exact j7 h3 _ clk _ (lockM_len _ _ _) (hi1.both hM2 hf2 (by simp) hM3 hf3 (by simp) (lockM_len _ _ _)) (ho2.fr hf3 (by simp; omega))
        | false =>
          rw [cond_f]
          cases decide (x.kind = 5) with
          | true =>
            simp only [cond_t, s2.l1, s2.l2, Option.bind_some]
            refine Ok.bind (unlock_ok hi1.m x.i x.o) ?_
            rintro _ h2 ⟨rfl, hM2, hf2⟩
            have ho2 := s2.fr hf2 (by simp; omega)
            simp only [asI_i64, Option.bind_some, ho2.l1, ho2.l2, veqO_int, cond_t]
            refine Ok.bind (runlock_ok (hi1.r.fr hf2 (by simp; omega) (by simp; omega)) x.i x.o) ?_
            rintro _ h3 ⟨rfl, hM3, hf3⟩
            simp only [asI_i64, Option.bind_some]
            exact j7 h3 _ clk _ (unlockM_len _ _ _) (hi1.both hM2 hf2 (by simp) hM3 hf3 (by simp) (unlockM_len _ _ _)) (ho2.fr hf3 (by simp; omega))
          | false =>
            rw [cond_f]
            cases decide (x.kind = 6) <;> exact j10 _
      cases decide (x.kind = 3) <;> exact j11 _
    · rw [dec_f hlt, cond_f]
      refine Ok.le ?_ law14_CellTells_j5_le
      rw [hN]; exact loop1 hi cs.length 0 h rfl (by omega) hi

theorem main (h : AH) (x1 : Int) (w : (Lit.int .i64 x1).wf = true) {a2 : Option Addr} {l3 c4 : Nat} {ops : List COp} (hs : SlIn h encCOp (fun _ => True) a2 l3 c4 ops) : Ok (C k_law14_CellTells [.int .i64 x1, .slice a2 l3 c4] h) Q := by
  refine Ok.le ?_ law14_CellTells_le
  unfold F_law14_CellTells
  rcases new_ok h x1 with ⟨hbad, e1⟩ | ⟨b0, b1, h1, e1, hM, hf, hn⟩
  · rcases rnew_ok h x1 with ⟨_, e2⟩ | ⟨c0, c1, _⟩
    · simp only [e1, e2, Option.bind_some, asTu_t, hdO_c, asP_p, asI_i64, List.isEmpty_nil, cond_t, decide_true, Bool.not_true, cond_f]
      refine Ok.le ?_ law14_CellTells_j14_le
      rw [dec_f (show ¬(2 : Int) = 0 by omega)]
      simp only [Bool.not_false, cond_t, Option.isNone_none, C_closed (f := k_law14_awake) rfl h, Option.bind_some, asB_b]
      exact Ok.some rfl
    · omega
  · rcases rnew_ok h1 x1 with ⟨hbad, _⟩ | ⟨c0, c1, h2, e2, hM2, hf2, hn2⟩
    · omega
    · simp only [e1, e2, Option.bind_some, asTu_t, hdO_c, asP_p, asI_i64, List.isEmpty_nil, cond_t, decide_true, Bool.not_true, cond_f]
      refine Ok.le ?_ law14_CellTells_j14_le
      simp only [decide_true, Bool.not_true, cond_f]
      refine Ok.le ?_ law14_CellTells_j13_le
      refine loop2 (p := h.n + 1) (q := h.n) (p' := h1.n + 1) (q' := h1.n) l3 c4 x1 hs.len 300 0 h2 _ 0 rfl (by omega) (by simp; omega) ⟨hM.fr hf2 (by simp) (by simp), hM2, by simp; omega, by omega, (hs.rd.fr hf (by simp)).fr hf2 (by simp), fun b hb => ?_⟩
      have := hs.lt b hb; omega
end Tells
end Go.Lg.Try
