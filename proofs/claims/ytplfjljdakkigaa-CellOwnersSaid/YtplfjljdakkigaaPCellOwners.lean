/- CellOwners: the law's function answers true, over the abstract memory. -/
import Derived.Test.YtplfjljdakkigaaFlaw14
import Derived.Test.YtplfjljdakkigaaPcell
import Derived.Test.YtplfjljdakkigaaEv30
namespace Go.Lg.Try
set_option linter.unusedVariables false
set_option linter.unusedSimpArgs false
open Go Go.Proofs

structure CellOp where
  kind : Int
  i : Int
  o : Int
  v : Int
  ver : Int
def encOp (x : CellOp) : List Value := [.int .i64 x.kind, .int .i64 x.i, .int .i64 x.o, .int .i64 x.v, .int .i64 x.ver]
theorem encOp_len (x : CellOp) : (encOp x).length = 5 := rfl
def encI (x : Int) : List Value := [.int .i64 x]
theorem encI_len (x : Int) : (encI x).length = 1 := rfl

namespace Owners
/-- what is known at the loop's head: who has each cell -/
structure I (h : AH) (p q hb : Nat) (a1 : Option Addr) (ops : List CellOp) (cs : List Cel) (clk : Int) (hs : List Int) : Prop where
  m : MemR h p q cs clk
  l6 : cs.length = 6
  has : h.get hb = some (.cells (hs.flatMap encI) false false 6)
  hl : hs.length = 6
  hn : hb < h.n
  nep : hb ≠ p
  neq : hb ≠ q
  rd : Rd h a1 (ops.flatMap encOp)
  nb : ∀ b, blk a1 b → b ≠ p ∧ b ≠ q ∧ b ≠ hb
variable {h h' : AH} {p q hb : Nat} {a1 : Option Addr} {ops : List CellOp} {cs cs' : List Cel} {clk clk' : Int} {hs : List Int}
theorem I.op {S : List Nat} (hi : I h p q hb a1 ops cs clk hs) (hM : MemR h' p q cs' clk') (hf : Fr S h h') (hS : ∀ x, x ∈ S → x = p ∨ x = q) (hl : cs'.length = cs.length) : I h' p q hb a1 ops cs' clk' hs :=
  ⟨hM, hl.trans hi.l6, by rw [hf.g _ hi.hn (fun hm => by rcases hS _ hm with e | e; exact hi.nep e; exact hi.neq e)]; exact hi.has, hi.hl, Nat.lt_of_lt_of_le hi.hn hf.n, hi.nep, hi.neq,
    hi.rd.fr hf fun b hb hm => by rcases hS _ hm with e | e; exact (hi.nb b hb).1 e; exact (hi.nb b hb).2.1 e, hi.nb⟩
theorem I.ld (hi : I h p q hb a1 ops cs clk hs) {i : Nat} {x : Int} (hx : hs[i]? = some x) : h.ldI .i64 hb (0 + i * 1) = some x :=
  AH.ldI_of hi.has (by have := flat_get_some encI_len (j := 0) (by omega) hx; rw [Nat.zero_add]; simpa [encI] using this)
theorem I.st (hi : I h p q hb a1 ops cs clk hs) {i : Nat} (hl : i < 6) (x : Int) : ∃ h', h.st hb (0 + i * 1) [.int .i64 x] = some h' ∧ I h' p q hb a1 ops cs clk (hs.set i x) ∧ Fr [hb] h h' := by
  have hil : i < hs.length := by have := hi.hl; omega
  have hf : ∀ y, Fr [hb] h (h.set hb y) := fun y => Fr.set _ _ (by simp)
  refine ⟨_, AH.st_of hi.has (by rw [flat_len encI_len, hi.hl]; simp; omega), ⟨hi.m.fr (hf _) (by simp [Ne.symm hi.nep]) (by simp [Ne.symm hi.neq]), hi.l6, ?_, by simp [hi.hl], hi.hn, hi.nep, hi.neq, hi.rd.fr (hf _) (fun b hb => by simp [(hi.nb b hb).2.2]), hi.nb⟩, hf _⟩
  rw [AH.get_set_eq]
  have := flat_set encI_len (j := 0) (vs := [.int .i64 x]) (a' := x) (List.getElem?_eq_getElem hil) (by simp) rfl
  rw [Nat.zero_add]
  simp only [Nat.add_zero] at this
  rw [this]

def Q : Value → AH → Prop := fun v _ => v = .bool true

theorem loop2 (p8 p13 : Option Addr) (k : Int) (l2 c3 : Nat) (hi : I h p q hb a1 ops cs clk (cs.map (·.own))) (hex : Ok (law14_CellOwners_j2 l2 a1 (some ⟨p, 0, none⟩) c3 (some ⟨hb, 0, none⟩) k h) Q) :
    ∀ i : Nat, i ≤ 6 → Ok (law14_CellOwners_L2 (some ⟨p, 0, none⟩) (some ⟨hb, 0, none⟩) k a1 l2 c3 i h) Q := by
  intro i hi6
  induction hn : 6 - i generalizing i with
  | zero =>
    obtain rfl : i = 6 := by omega
    refine Ok.le ?_ law14_CellOwners_L2_le
    refine Ok.le ?_ law14_CellOwners_j5_le
    exact hex
  | succ n ih =>
    refine Ok.le ?_ law14_CellOwners_L2_le
    refine Ok.le ?_ law14_CellOwners_j5_le
    rw [dec_t (show (i : Int) < 6 by omega), cond_t]
    refine Ok.le ?_ law14_CellOwners_j4_le
    obtain ⟨c, hc⟩ := hi.m.some_at (i := i) (by have := hi.l6; omega)
    have hl : ¬((i : Int) < 0 ∨ (cs.length : Int) ≤ (i : Int)) := by have := hi.l6; omega
    have hx : h.ldI .i64 hb (0 + i * 1) = some c.own := hi.ld (by simp [hc])
    simp only [load_eq hi.m, loadM, if_neg hl, Int.toNat_natCast, hc, Option.bind_some, asTu_t, hdO_c, asI_i64, List.isEmpty_nil, cond_t, inB_t (show (0:Int) ≤ (i : Int) by omega) (show (i : Int) < (6 : Nat) by omega), hx, decide_true, Bool.not_true, cond_f]
    refine Ok.le ?_ law14_CellOwners_j3_le
    rw [wrap64 (by omega) (by omega)]
    exact ih (i + 1) (by omega) (by omega)

/-- the locals of a round: the call, and whether its cell and owner are right -/
structure Lo (h : AH) (ob : Nat) (x : CellOp) (p q hb : Nat) : Prop where
  g : h.get ob = some (.cells (encOp x) false false 5)
  n : ob < h.n
  ne : ob ≠ p ∧ ob ≠ q ∧ ob ≠ hb
theorem Lo.fr {S : List Nat} {ob : Nat} {x : CellOp} (hl : Lo h ob x p q hb) (hf : Fr S h h') (hS : ∀ x, x ∈ S → x = p ∨ x = q ∨ x = hb) : Lo h' ob x p q hb :=
  ⟨by rw [hf.g _ hl.n (fun hm => by rcases hS _ hm with e | e | e; exact hl.ne.1 e; exact hl.ne.2.1 e; exact hl.ne.2.2 e)]; exact hl.g, Nat.lt_of_lt_of_le hl.n hf.n, hl.ne⟩
theorem Lo.ld {ob : Nat} {x : CellOp} (hl : Lo h ob x p q hb) : h.ldI .i64 ob (0 + 0) = some x.kind ∧ h.ldI .i64 ob (0 + 1) = some x.i ∧ h.ldI .i64 ob (0 + 2) = some x.o ∧ h.ldI .i64 ob (0 + 3) = some x.v ∧ h.ldI .i64 ob (0 + 4) = some x.ver :=
  ⟨AH.ldI_of hl.g rfl, AH.ldI_of hl.g rfl, AH.ldI_of hl.g rfl, AH.ldI_of hl.g rfl, AH.ldI_of hl.g rfl⟩

theorem map_set_own (cs : List Cel) (i : Nat) (c : Cel) : (cs.set i c).map (·.own) = (cs.map (·.own)).set i c.own := by simp [List.map_set]
theorem map_set_same (cs : List Cel) (i : Nat) (c c' : Cel) (hc : cs[i]? = some c) (ho : c'.own = c.own) : (cs.set i c').map (·.own) = cs.map (·.own) := by
  rw [map_set_own]
  apply List.ext_getElem?
  intro k
  by_cases hk : i = k
  · subst hk
    have hl : i < cs.length := (List.getElem?_eq_some_iff.mp hc).1
    rw [List.getElem?_set_self (by simpa using hl)]
    simp [hc, ho]
  · rw [List.getElem?_set_ne hk]

theorem round (k : Int) (l2 c3 : Nat) (ob : Nat) (x : CellOp) (hi : I h p q hb a1 ops cs clk (cs.map (·.own))) (hl : Lo h ob x p q hb)
    (hex : ∀ h' cs' clk', I h' p q hb a1 ops cs' clk' (cs'.map (·.own)) → Ok (law14_CellOwners_j2 l2 a1 (some ⟨p, 0, none⟩) c3 (some ⟨hb, 0, none⟩) k h') Q) :
    Ok (law14_CellOwners_j12 h (some ⟨p, 0, none⟩) (some ⟨hb, 0, none⟩) k a1 l2 c3 (some ⟨ob, 0, none⟩) (decide (0 ≤ x.i) && (decide (x.i < 6) && decide (1 ≤ x.o)))) Q := by
  have hj6 : ∀ h' cs' clk', I h' p q hb a1 ops cs' clk' (cs'.map (·.own)) → Ok (law14_CellOwners_j6 (some ⟨p, 0, none⟩) (some ⟨hb, 0, none⟩) k a1 l2 c3 h') Q := by
    intro h' cs' clk' hi'
    refine Ok.le ?_ law14_CellOwners_j6_le
    exact loop2 none none k l2 c3 hi' (hex h' cs' clk' hi') 0 (by omega)
  obtain ⟨l0, l1, l3, l4, l5⟩ := hl.ld
  have h6 := hi.l6
  -- whether the call's cell and owner are right
  have hin : (decide (0 ≤ x.i) && (decide (x.i < 6) && decide (1 ≤ x.o))) = decide (¬(x.i < 0 ∨ (cs.length : Int) ≤ x.i ∨ x.o < 1)) := by
    rw [Bool.eq_iff_iff]; simp; omega
  rw [hin]
  refine Ok.le ?_ law14_CellOwners_j12_le
  simp only [Option.bind_some, l0]
  by_cases k0 : x.kind = 0
  · rw [dec_t k0, cond_t]
    refine Ok.bind (adv_ok hi.m) ?_
    rintro _ h1 ⟨rfl, hM1, hf1⟩
    simp only [asTu_t, hdO_c, asI_i64, Option.bind_some, List.isEmpty_nil, cond_t]
    exact hj6 h1 cs _ (hi.op hM1 hf1 (by simp) rfl)
  rw [dec_f k0, cond_f]
  by_cases hc : x.i < 0 ∨ (cs.length : Int) ≤ x.i ∨ x.o < 1
  · -- a wrong cell or owner: each call is refused, and nothing is turned
    rw [dec_f (not_not_intro hc)]
    have out : ∀ h' (_ : I h' p q hb a1 ops cs clk (cs.map (·.own))) (_ : Lo h' ob x p q hb), Ok (law14_CellOwners_j7 2 (some ⟨ob, 0, none⟩) (some ⟨hb, 0, none⟩) (some ⟨p, 0, none⟩) k a1 l2 c3 h') Q ∧
        Ok (law14_CellOwners_j8 2 (some ⟨ob, 0, none⟩) (some ⟨hb, 0, none⟩) (some ⟨p, 0, none⟩) k a1 l2 c3 h') Q ∧ Ok (law14_CellOwners_j9 2 (some ⟨ob, 0, none⟩) (some ⟨hb, 0, none⟩) (some ⟨p, 0, none⟩) k a1 l2 c3 h') Q := by
      intro h' hi' _
      refine ⟨Ok.le ?_ law14_CellOwners_j7_le, Ok.le ?_ law14_CellOwners_j8_le, Ok.le ?_ law14_CellOwners_j9_le⟩ <;> exact hj6 h' cs clk hi'
    have t10 : ∀ b, Ok (law14_CellOwners_j10 (some ⟨ob, 0, none⟩) h (some ⟨p, 0, none⟩) false (some ⟨hb, 0, none⟩) k a1 l2 c3 b) Q := by
      intro b
      refine Ok.le ?_ law14_CellOwners_j10_le
      cases b with
      | false => exact hj6 h cs clk hi
      | true =>
        simp only [cond_t, Option.bind_some, l1, l3, l4, l5]
        refine Ok.bind (publish_ok hi.m x.i x.o x.v x.ver) ?_
        rintro _ h1 ⟨rfl, hM1, hf1⟩
        simp only [publishM, if_pos hc] at hM1
        simp only [publishM, if_pos hc, asI_i64, Option.bind_some]
        exact (out h1 (hi.op hM1 hf1 (by simp) rfl) (hl.fr hf1 (by simp))).2.2
    have t11 : ∀ b, Ok (law14_CellOwners_j11 (some ⟨ob, 0, none⟩) h (some ⟨p, 0, none⟩) false (some ⟨hb, 0, none⟩) k a1 l2 c3 x.kind b) Q := by
      intro b
      refine Ok.le ?_ law14_CellOwners_j11_le
      cases b with
      | true =>
        simp only [cond_t, Option.bind_some, l1, l3]
        refine Ok.bind (lock_ok hi.m x.i x.o) ?_
        rintro _ h1 ⟨rfl, hM1, hf1⟩
        simp only [lockM, if_pos hc] at hM1
        simp only [lockM, if_pos hc, asI_i64, Option.bind_some, cond_f]
        exact (out h1 (hi.op hM1 hf1 (by simp) rfl) (hl.fr hf1 (by simp))).1
      | false =>
        rw [cond_f]
        cases decide (x.kind = 5) with
        | true =>
          simp only [cond_t, Option.bind_some, l1, l3]
          refine Ok.bind (unlock_ok hi.m x.i x.o) ?_
          rintro _ h1 ⟨rfl, hM1, hf1⟩
          simp only [unlockM, if_pos hc] at hM1
          simp only [unlockM, if_pos hc, asI_i64, Option.bind_some, cond_f]
          exact (out h1 (hi.op hM1 hf1 (by simp) rfl) (hl.fr hf1 (by simp))).2.1
        | false =>
          rw [cond_f]
          cases decide (x.kind = 6) <;> exact t10 _
    cases decide (x.kind = 3) <;> exact t11 _
  · rw [dec_t hc]
    obtain ⟨c, hcc⟩ := hi.m.some_at (i := x.i.toNat) (by omega)
    have hx0 : 0 ≤ x.i := by omega
    have hx6 : x.i < (6 : Nat) := by omega
    have hb6 := inB_t hx0 hx6
    have hcl : x.i.toNat < cs.length := by omega
    -- behind a call
    have ld : ∀ {h' cs' clk'}, I h' p q hb a1 ops cs' clk' (cs.map (·.own)) → h'.ldI .i64 hb (0 + x.i.toNat * 1) = some c.own := fun hi' => hi'.ld (by simp [hcc])
    have t7 : ∀ e h' cs', I h' p q hb a1 ops cs' clk (cs.map (·.own)) → Lo h' ob x p q hb → (e = 0 → cs'.map (·.own) = (cs.map (·.own)).set x.i.toNat x.o) → (e ≠ 0 → cs' = cs) → Ok (law14_CellOwners_j7 e (some ⟨ob, 0, none⟩) (some ⟨hb, 0, none⟩) (some ⟨p, 0, none⟩) k a1 l2 c3 h') Q := by
      intro e h' cs' hi' hl' h0 h1
      refine Ok.le ?_ law14_CellOwners_j7_le
      by_cases he : e = 0
      · obtain ⟨h2, s1, s2, _⟩ := hi'.st (i := x.i.toNat) (by omega) x.o
        simp only [dec_t he, cond_t, Option.bind_some, hl'.ld.2.1, hl'.ld.2.2.1, hb6, s1]
        exact hj6 h2 cs' clk (h0 he ▸ s2)
      · rw [dec_f he, cond_f]
        exact hj6 h' cs clk (h1 he ▸ hi')
    have t8 : ∀ e h' cs', I h' p q hb a1 ops cs' clk (cs.map (·.own)) → Lo h' ob x p q hb → (e = 0 → cs'.map (·.own) = (cs.map (·.own)).set x.i.toNat 0) → (e ≠ 0 → cs' = cs) → Ok (law14_CellOwners_j8 e (some ⟨ob, 0, none⟩) (some ⟨hb, 0, none⟩) (some ⟨p, 0, none⟩) k a1 l2 c3 h') Q := by
      intro e h' cs' hi' hl' h0 h1
      refine Ok.le ?_ law14_CellOwners_j8_le
      by_cases he : e = 0
      · obtain ⟨h2, s1, s2, _⟩ := hi'.st (i := x.i.toNat) (by omega) 0
        simp only [dec_t he, cond_t, Option.bind_some, hl'.ld.2.1, hb6, s1]
        exact hj6 h2 cs' clk (h0 he ▸ s2)
      · rw [dec_f he, cond_f]
        exact hj6 h' cs clk (h1 he ▸ hi')
    have t9 : ∀ e h' cs', I h' p q hb a1 ops cs' clk (cs.map (·.own)) → Lo h' ob x p q hb → (e = 0 → cs'.map (·.own) = (cs.map (·.own)).set x.i.toNat 0) → (e ≠ 0 → cs' = cs) → Ok (law14_CellOwners_j9 e (some ⟨ob, 0, none⟩) (some ⟨hb, 0, none⟩) (some ⟨p, 0, none⟩) k a1 l2 c3 h') Q := by
      intro e h' cs' hi' hl' h0 h1
      refine Ok.le ?_ law14_CellOwners_j9_le
      by_cases he : e = 0
      · obtain ⟨h2, s1, s2, _⟩ := hi'.st (i := x.i.toNat) (by omega) 0
        simp only [dec_t he, cond_t, Option.bind_some, hl'.ld.2.1, hb6, s1]
        exact hj6 h2 cs' clk (h0 he ▸ s2)
      · rw [dec_f he, cond_f]
        exact hj6 h' cs clk (h1 he ▸ hi')
    have t10 : ∀ b, Ok (law14_CellOwners_j10 (some ⟨ob, 0, none⟩) h (some ⟨p, 0, none⟩) true (some ⟨hb, 0, none⟩) k a1 l2 c3 b) Q := by
      intro b
      refine Ok.le ?_ law14_CellOwners_j10_le
      cases b with
      | false => exact hj6 h cs clk hi
      | true =>
        simp only [cond_t, Option.bind_some, l1, l3, l4, l5]
        refine Ok.bind (publish_ok hi.m x.i x.o x.v x.ver) ?_
        rintro _ h1 ⟨rfl, hM1, hf1⟩
        simp only [publishM, if_neg hc, hcc] at hM1
        simp only [publishM, if_neg hc, hcc, asI_i64, Option.bind_some]
        by_cases a : c.own = x.o
        · rw [if_neg (not_not_intro a)] at hM1 ⊢
          by_cases b : x.ver ≤ c.ver ∨ clk < x.ver
          · rw [if_pos b] at hM1 ⊢
            exact t9 131 h1 cs (hi.op hM1 hf1 (by simp) rfl) (hl.fr hf1 (by simp)) (by simp) (fun _ => rfl)
          · rw [if_neg b] at hM1 ⊢
            have hi1 := hi.op hM1 hf1 (by simp) (by simp)
            have hl1 := hl.fr hf1 (by simp)
            simp only [decide_true, cond_t, Option.bind_some, hl1.ld.2.1, hl1.ld.2.2.1, hb6, ld hi1, dec_t a, Bool.not_true, cond_f]
            exact t9 0 h1 _ hi1 hl1 (fun _ => by rw [map_set_own]) (by simp)
        · rw [if_pos a] at hM1 ⊢
          exact t9 130 h1 cs (hi.op hM1 hf1 (by simp) rfl) (hl.fr hf1 (by simp)) (by simp) (fun _ => rfl)
    have t11 : ∀ b, Ok (law14_CellOwners_j11 (some ⟨ob, 0, none⟩) h (some ⟨p, 0, none⟩) true (some ⟨hb, 0, none⟩) k a1 l2 c3 x.kind b) Q := by
      intro b
      refine Ok.le ?_ law14_CellOwners_j11_le
      cases b with
      | true =>
        simp only [cond_t, Option.bind_some, l1, l3]
        refine Ok.bind (lock_ok hi.m x.i x.o) ?_
        rintro _ h1 ⟨rfl, hM1, hf1⟩
        simp only [lockM, if_neg hc, hcc] at hM1
        simp only [lockM, if_neg hc, hcc, asI_i64, Option.bind_some]
        have hl1 := hl.fr hf1 (by simp)
        by_cases a : c.own ≠ 0 ∧ c.own ≠ x.o
        · rw [if_pos a] at hM1 ⊢
          have hi1 := hi.op hM1 hf1 (by simp) rfl
          simp only [hl1.ld.2.1, hl1.ld.2.2.1, Option.bind_some, hb6, cond_t, ld hi1, dec_f a.1, dec_f a.2, cond_f]
          exact t7 130 h1 cs hi1 hl1 (by simp) (fun _ => rfl)
        · rw [if_neg a] at hM1 ⊢
          have hi1 := hi.op hM1 hf1 (by simp) (by simp)
          have fin := t7 0 h1 _ hi1 hl1 (fun _ => by rw [map_set_own]) (by simp)
          simp only [hl1.ld.2.1, hl1.ld.2.2.1, Option.bind_some, hb6, cond_t, ld hi1]
          by_cases a0 : c.own = 0
          · rw [dec_t a0, cond_t]; exact fin
          · have a1 : c.own = x.o := by by_cases e : c.own = x.o; exact e; exact absurd ⟨a0, e⟩ a
            rw [dec_f a0, dec_t a1, cond_f]; exact fin
      | false =>
        rw [cond_f]
        cases decide (x.kind = 5) with
        | true =>
          simp only [cond_t, Option.bind_some, l1, l3]
          refine Ok.bind (unlock_ok hi.m x.i x.o) ?_
          rintro _ h1 ⟨rfl, hM1, hf1⟩
          simp only [unlockM, if_neg hc, hcc] at hM1
          simp only [unlockM, if_neg hc, hcc, asI_i64, Option.bind_some]
          have hl1 := hl.fr hf1 (by simp)
          by_cases a : c.own = x.o
          · rw [if_neg (not_not_intro a)] at hM1 ⊢
            have hi1 := hi.op hM1 hf1 (by simp) (by simp)
            simp only [hl1.ld.2.1, hl1.ld.2.2.1, Option.bind_some, hb6, cond_t, ld hi1, dec_t a]
            exact t8 0 h1 _ hi1 hl1 (fun _ => by rw [map_set_own]) (by simp)
          · rw [if_pos a] at hM1 ⊢
            have hi1 := hi.op hM1 hf1 (by simp) rfl
            simp only [hl1.ld.2.1, hl1.ld.2.2.1, Option.bind_some, hb6, cond_t, ld hi1, dec_f a]
            exact t8 130 h1 cs hi1 hl1 (by simp) (fun _ => rfl)
        | false =>
          rw [cond_f]
          cases decide (x.kind = 6) <;> exact t10 _
    cases decide (x.kind = 3) <;> exact t11 _

theorem loop1 (l2 c3 : Nat) (hl2 : l2 = ops.length) : ∀ (n k : Nat) (h : AH) (cs : List Cel) (clk : Int), 200 - k = n → k ≤ 200 → I h p q hb a1 ops cs clk (cs.map (·.own)) →
    Ok (law14_CellOwners_L1 l2 a1 (some ⟨p, 0, none⟩) c3 (some ⟨hb, 0, none⟩) k h) Q := by
  intro n
  induction n with
  | zero =>
    intro k h cs clk hk hk2 hi
    obtain rfl : k = 200 := by omega
    refine Ok.le ?_ law14_CellOwners_L1_le
    have fin : Ok (law14_CellOwners_j1 h) Q := by
      refine Ok.le ?_ law14_CellOwners_j1_le
      simp only [C_closed (f := k_law14_awake) rfl h, Option.bind_some, asB_b]
      exact Ok.some rfl
    rw [dec_f (show ¬((200 : Nat) : Int) < 200 by omega)]
    cases decide (((200 : Nat) : Int) < (l2 : Int)) <;> exact fin
  | succ n ih =>
    intro k h cs clk hk hk2 hi
    refine Ok.le ?_ law14_CellOwners_L1_le
    have fin : Ok (law14_CellOwners_j1 h) Q := by
      refine Ok.le ?_ law14_CellOwners_j1_le
      simp only [C_closed (f := k_law14_awake) rfl h, Option.bind_some, asB_b]
      exact Ok.some rfl
    by_cases hlt : (k : Int) < (l2 : Int)
    · rw [dec_t hlt, dec_t (show (k : Int) < 200 by omega), cond_t, cond_t]
      refine Ok.le ?_ law14_CellOwners_j13_le
      have hkl : k < ops.length := by omega
      obtain ⟨x, hx⟩ : ∃ x, ops[k]? = some x := ⟨_, List.getElem?_eq_getElem hkl⟩
      obtain ⟨ad, rfl, hrd⟩ := hi.rd.some (by
        intro he
        have := congrArg List.length he
        rw [flat_len encOp_len] at this
        simp at this; omega)
      have e : ∀ j, j < 5 → ∀ y, (encOp x)[j]? = some (.int .i64 y) → h.ldI .i64 ad.block (ad.off + (k * 5 + j)) = some y := fun j hj y hy => (hrd (k * 5 + j)).1 _ _ (by rw [flat_get_some encOp_len hj hx]; exact hy)
      have e0 := e 0 (by omega) x.kind rfl
      have e1 := e 1 (by omega) x.i rfl
      have e2 := e 2 (by omega) x.o rfl
      have e3 := e 3 (by omega) x.v rfl
      have e4 := e 4 (by omega) x.ver rfl
      simp only [Nat.add_zero, ← Nat.add_assoc] at e0 e1 e2 e3 e4
      obtain ⟨h1, s1, s2, s3, s4⟩ := push_st h [(.int .i64 0), (.int .i64 0), (.int .i64 0), (.int .i64 0), (.int .i64 0)] (encOp x) 5 rfl
      have s1' : (h.push (.cells [(.int .i64 0), (.int .i64 0), (.int .i64 0), (.int .i64 0), (.int .i64 0)] false false 5)).st h.n 0 [.int .i64 x.kind, .int .i64 x.i, .int .i64 x.o, .int .i64 x.v, .int .i64 x.ver] = some h1 := s1
      have hi1 : I h1 p q hb (some ad) ops cs clk (cs.map (·.own)) := hi.op (hi.m.fr s3 (by simp) (by simp)) s3 (by simp) rfl
      have hl1 : Lo h1 h.n x p q hb := ⟨s2, by omega, by have := hi.m.pn; omega, by have := hi.m.qn; omega, by have := hi.hn; omega⟩
      simp only [Option.bind_some, inB_t (show (0 : Int) ≤ (k : Int) by omega) (show (k : Int) < (l2 : Nat) by omega), cond_t, Int.toNat_natCast, e0, e1, e2, e3, e4, s1', hl1.ld.2.1, hl1.ld.2.2.1]
      have key := round (h := h1) (k : Int) l2 c3 h.n x hi1 hl1 (fun h' cs' clk' hi' => by
        refine Ok.le ?_ law14_CellOwners_j2_le
        rw [wrap64 (by omega) (by omega)]
        exact ih (k + 1) h' cs' clk' (by omega) (by omega) hi')
      by_cases b0 : 0 ≤ x.i
      · by_cases b1 : x.i < 6
        · simpa only [dec_t b0, dec_t b1, Bool.true_and, cond_t] using key
        · simpa only [dec_t b0, dec_f b1, Bool.true_and, Bool.false_and, cond_t, cond_f] using key
      · simpa only [dec_f b0, Bool.false_and, cond_f] using key
    · rw [dec_f hlt, cond_f]; exact fin

theorem main (h : AH) {a1 : Option Addr} {l2 c3 : Nat} {ops : List CellOp} (hs : SlIn h encOp (fun _ => True) a1 l2 c3 ops) : Ok (C k_law14_CellOwners [.slice a1 l2 c3] h) Q := by
  have hl := hs.len
  have hr := hs.rd
  have hlt := hs.lt
  refine Ok.le ?_ law14_CellOwners_le
  unfold F_law14_CellOwners
  rcases new_ok h 6 with ⟨hbad, _⟩ | ⟨_, _, h1, e1, hM, hf, hn⟩
  · omega
  · simp only [e1, Option.bind_some, asTu_t, hdO_c, asP_p, asI_i64, List.isEmpty_nil, cond_t, decide_true, Bool.not_true, cond_f]
    refine Ok.le ?_ law14_CellOwners_j14_le
    refine loop1 (p := h.n + 1) (q := h.n) l2 c3 hl 200 0 _ (List.replicate 6 ⟨0, 0, 0⟩) 0 rfl (by omega) ?_
    have hf2 : Fr [] h1 (h1.push (.cells [(.int .i64 0), (.int .i64 0), (.int .i64 0), (.int .i64 0), (.int .i64 0), (.int .i64 0)] false false 6)) := Fr.push _ _ _
    refine ⟨hM.fr hf2 (by simp) (by simp), rfl, ?_, rfl, by show h1.n < h1.n + 1; omega, by omega, by omega, (hr.fr hf (by simp)).fr hf2 (by simp), fun b hb => ?_⟩
    · rw [AH.get_push_eq]; rfl
    · have := hlt b hb; omega
end Owners
end Go.Lg.Try
