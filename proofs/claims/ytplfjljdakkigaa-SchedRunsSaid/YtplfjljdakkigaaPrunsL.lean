/- SchedRuns: the loops of the law behind the adding. -/
import Derived.Test.YtplfjljdakkigaaPrunsB
import Derived.Test.YtplfjljdakkigaaPkitInts
namespace Go.Lg.Try
set_option linter.unusedVariables false
set_option linter.unusedSimpArgs false
open Go Go.Proofs
namespace Rn
def Qt : Value → AH → Prop := fun v _ => v = .bool true
structure Pk (h : AH) (K : Nat → Prop) (s o1 o2 wb : Nat) (pa : Option Addr) (pn pc : Nat) (a4 : Option Addr) (ps : List Int) (i : Nat) (ts : List TD) (line : List Int) (tl : List TK) (bs : List Bool) : Prop where
  b : B h K s o1 o2 wb pa pn pc ts line tl bs (ts.map TD.st) (ts.map TD.n) line bs
  good : Good ts line
  len : ts.length = tl.length
  le : ts.length ≤ 70
  tt : ts.map TD.t = tl.map tOf
  nn : ts.map TD.n = tl.map fun p => (p.at_ : Int)
  at_ : ∀ p ∈ tl, p.at_ ≤ i
  bl : bs.length ≤ i
  pr : Rd h pa (tl.map fun p => Value.slice p.a p.n p.c)
  pk : ∀ b, blk pa b → K b
  pl : pn = tl.length
  ins : ∀ p ∈ tl, Rd h p.a (p.l.flatMap encDo) ∧ (∀ b, blk p.a b → K b) ∧ p.n = p.l.length ∧ ∀ d ∈ p.l, pickM d.tell 7 = d.tell
  ip : Rd h a4 (ps.flatMap encI)
  ik : ∀ b, blk a4 b → K b
theorem rd_b {h : AH} {a : Option Addr} {l : List Bool} (hr : Rd h a (l.map Value.bool)) {j : Nat} {x : Bool} (hx : l[j]? = some x) : ∃ ad, a = some ad ∧ h.ldB ad.block (ad.off + j * 1) = some x := by
  have hj : j < l.length := (List.getElem?_eq_some_iff.mp hx).1
  obtain ⟨ad, had, hrd⟩ := hr.some (by
    intro he
    have := congrArg List.length he
    simp at this
    subst this
    simp at hj)
  refine ⟨ad, had, ?_⟩
  have := (hrd (j * 1)).2.1 x (by rw [Nat.mul_one, List.getElem?_map, hx]; rfl)
  exact this
section
variable {h h' : AH} {K : Nat → Prop} {s o1 o2 wb : Nat} {pa : Option Addr} {pn pc : Nat} {a4 : Option Addr} {ps : List Int} {i : Nat} {ts : List TD} {line : List Int} {tl : List TK} {bs : List Bool} {c6 : Nat}
theorem Pk.fr (hP : Pk h K s o1 o2 wb pa pn pc a4 ps i ts line tl bs) (hf : Fr [] h h') : Pk h' K s o1 o2 wb pa pn pc a4 ps i ts line tl bs := by
  have kp := hP.b.kp hf
  exact ⟨hP.b.fr hf, hP.good, hP.len, hP.le, hP.tt, hP.nn, hP.at_, hP.bl, kp.rd hP.pr hP.pk, hP.pk, hP.pl, fun p hp => ⟨kp.rd (hP.ins p hp).1 (hP.ins p hp).2.1, (hP.ins p hp).2⟩, kp.rd hP.ip hP.ik, hP.ik⟩
/-- the lists are compared -/
theorem j10_ok (hP : Pk h K s o1 o2 wb pa pn pc a4 ps i ts line tl bs) (hi : i ≤ 400) {x70 : Int} {l5 : Nat} {Q : Value → AH → Prop} (hnext : ∀ h', Fr [] h h' → Ok (law13_SchedRuns_j8 l5 a4 (some ⟨s, 0, none⟩) (some ⟨wb, 0, none⟩) (some ⟨o2, 0, none⟩) (some ⟨o1, 0, none⟩) c6 x70 h') Q) :
    Ok (law13_SchedRuns_j10 (some ⟨o2, 0, none⟩) l5 a4 (some ⟨s, 0, none⟩) (some ⟨wb, 0, none⟩) (some ⟨o1, 0, none⟩) c6 x70 h) Q := by
  obtain ⟨F, G, w, w', h1, h2, ⟨t, A, hw, hF, ht⟩, h4, h5, h6, h7⟩ := hP.b
  have hgl := hP.good.len
  have hle := hP.le
  have hbl := hP.bl
  have e1 : h.ldB o2 0 = some false := AH.ldB_of h6.bad rfl
  refine Ok.le ?_ law13_SchedRuns_j10_le
  simp only [Option.bind_some, e1, cond_f]
  refine Ok.bind (ready_ok h1 (by omega)) ?_
  rintro _ g1 ⟨a', c', rfl, r1, r2, r3⟩
  have hw1 := hw.fr r2
  have eq1 := sameInts_eq (h := g1) c' A.lc r1 hw1.lo.rd rfl hw1.llen (by omega)
  rw [decide_eq_true rfl] at eq1
  simp only [asS_s, Option.bind_some, hw1.c3, hw.c3, veqO_slice, cond_t, eq1, asB_b, Bool.not_true, cond_f]
  refine Ok.bind (blocked_ok (h1.fr r2) (by omega)) ?_
  rintro _ g2 ⟨a2, n2, c2, rfl, b1, b2, b3⟩
  simp only [asS_s, Option.bind_some]
  have hw2 := hw1.fr b2
  refine Ok.bind (refB_ok hw2 (by rw [List.length_map]; omega)) ?_
  rintro _ g3 ⟨a3, n3, c3, rfl, d1, d2, d3⟩
  have hw3 := hw2.fr d2
  have hbu := blkU_len ts ts.length
  have hn2 : n2 = (blkU ts ts.length).length := by have := b1.len; rw [flat_len encI_len] at this; omega
  have hn3 : n3 = (blkS (ts.map TD.st) (ts.map TD.st).length).length := by have := d1.len; rw [flat_len encI_len] at this; omega
  have heq : blkU ts ts.length = blkS (ts.map TD.st) (ts.map TD.st).length := by rw [List.length_map]; exact blkU_S ts ts.length
  have eq2 := sameInts_eq (h := g3) c2 c3 (b1.fr d2 (by simp)).rd d1.rd hn2 hn3 (by omega)
  rw [decide_eq_true heq] at eq2
  have hf3 := (r2.trans b2).trans d2
  obtain ⟨ta, tn, tc, t1, t2, t3⟩ := (h6.fr hf3).told
  have e2 : g3.ldS o1 0 = some (ta, tn, tc) := AH.ldS_of t1 rfl
  have htn : tn = bs.length := by have := t2.len; rw [List.length_map] at this; omega
  have hat : A.tn = bs.length := by have := hw3.to.len; rw [List.length_map] at this; omega
  simp only [asS_s, Option.bind_some, eq2, asB_b, Bool.not_true, cond_f, e2, hw3.c4, htn, hat, decide_true, Bool.not_true]
  refine Ok.le ?_ law13_SchedRuns_j9_le
  rw [cond_f]
  exact hnext g3 hf3
/-! the end -/
theorem stOf_at {ts : List TD} {i : Nat} {x : TD} (hx : ts[i]? = some x) : stOf ts ((i : Int) + 1) = x.st := by
  have hl := (List.getElem?_eq_some_iff.mp hx).1
  unfold stOf
  have e : ((i : Int) + 1 - 1).toNat = i := by omega
  rw [if_pos ⟨by omega, by omega⟩, e, hx]
theorem st_eq (hP : Pk h K s o1 o2 wb pa pn pc a4 ps i ts line tl bs) (id : Int) : C k_sched_Sched_Status [.pointer (some ⟨s, 0, none⟩), .int .i64 id] h = some (.int .u8 (stOf ts id), h) := by
  obtain ⟨F, G, w, w', ⟨ta, tn, tc, la, ln, lc, hs, hF⟩, _⟩ := hP.b
  exact s_status hs id (by have := hP.le; omega)
theorem sn_eq (hP : Pk h K s o1 o2 wb pa pn pc a4 ps i ts line tl bs) (id : Int) : C k_sched_Sched_Steps [.pointer (some ⟨s, 0, none⟩), .int .i64 id] h = some (.int .i64 (nOf ts id), h) := by
  obtain ⟨F, G, w, w', ⟨ta, tn, tc, la, ln, lc, hs, hF⟩, _⟩ := hP.b
  exact s_steps hs id (by have := hP.le; omega)
theorem stOf_bd (hP : Pk h K s o1 o2 wb pa pn pc a4 ps i ts line tl bs) : True := trivial
theorem L1_ok (hP : Pk h K s o1 o2 wb pa pn pc a4 ps i ts line tl bs) (hst : ∀ x ∈ ts, 0 ≤ x.st ∧ x.st ≤ 3) : ∀ (d j : Nat), ts.length - j = d → j ≤ ts.length → Ok (law13_SchedRuns_L1 (some ⟨wb, 0, none⟩) (some ⟨s, 0, none⟩) (j : Int) h) Qt := by
  obtain ⟨F, G, w, w', h1, h2, ⟨t, A, hw, hF, ht⟩, h4, h5, h6, h7⟩ := id hP.b
  have hs := hw.slen
  rw [List.length_map] at hs
  have hle := hP.le
  intro d
  induction d with
  | zero =>
    intro j hd hj
    obtain rfl : j = ts.length := by omega
    refine Ok.le ?_ law13_SchedRuns_L1_le
    simp only [Option.bind_some, hw.c1, hs]
    rw [dec_f (by omega), cond_f]
    refine Ok.le ?_ law13_SchedRuns_j1_le
    have z1 : stOf ts 0 = 0 := by unfold stOf; rw [if_neg (by omega)]
    have z2 : stOf ts ((ts.length : Int) + 1) = 0 := by unfold stOf; rw [if_neg (by omega)]
    have z3 : nOf ts (-1) = 0 := by unfold nOf; rw [if_neg (by omega)]
    simp only [st_eq hP, sn_eq hP, z1, asI_u8, asI_i64, Option.bind_some, decide_true, cond_t, hw.c1, hs, wrap64 (show -9223372036854775808 ≤ (ts.length : Int) + 1 by omega) (by omega), z2, z3, C_closed (show closedL.any (Nat.beq k_law13_awake) = true from rfl), asB_b]
    exact Ok.some rfl
  | succ d ih =>
    intro j hd hj
    obtain ⟨x, hx⟩ : ∃ x, ts[j]? = some x := ⟨_, List.getElem?_eq_getElem (by omega)⟩
    have hxs : (ts.map TD.st)[j]? = some x.st := by rw [List.getElem?_map, hx]; rfl
    have hxn : (ts.map TD.n)[j]? = some x.n := by rw [List.getElem?_map, hx]; rfl
    obtain ⟨ad, a1, a2, _⟩ := hw.setS hxs 1
    obtain ⟨ad2, b1, b0, b2, _⟩ := hw.setN hxn 1
    rw [List.length_map] at b0
    have hxb := hst x (List.mem_of_getElem? hx)
    refine Ok.le ?_ law13_SchedRuns_L1_le
    simp only [Option.bind_some, hw.c1, hs]
    rw [dec_t (by omega), cond_t]
    refine Ok.le ?_ law13_SchedRuns_j3_le
    have i1 := inB_t (show (0 : Int) ≤ (j : Int) by omega) (show (j : Int) < (ts.length : Nat) by omega)
    have w1 : IntKind.wrap .i64 ((j : Int) + 1) = (j : Int) + 1 := wrap64 (by omega) (by omega)
    have w2 : IntKind.wrap .i64 x.st = x.st := wrap64 (by omega) (by omega)
    simp only [w1, st_eq hP, stOf_at hx, asI_u8, Option.bind_some, hw.c1, hs, veqO_slice, cond_t, a1, i1, Int.toNat_natCast, a2, veqO_int, w2, decide_true, Bool.not_true, cond_f, sn_eq hP, nOf_at hxn, asI_i64, hw.c2, b0, b1, b2]
    refine Ok.le ?_ law13_SchedRuns_j2_le
    rw [w1]
    exact ih (j + 1) (by omega) (by omega)
theorem L2_ok (hP : Pk h K s o1 o2 wb pa pn pc a4 ps i ts line tl bs) (hi : i ≤ 400) (hst : ∀ x ∈ ts, 0 ≤ x.st ∧ x.st ≤ 3) : ∀ (d j : Nat), bs.length - j = d → j ≤ bs.length → Ok (law13_SchedRuns_L2 (some ⟨o1, 0, none⟩) (some ⟨wb, 0, none⟩) (some ⟨s, 0, none⟩) (j : Int) h) Qt := by
  obtain ⟨F, G, w, w', h1, h2, ⟨t, A, hw, hF, ht⟩, h4, h5, h6, h7⟩ := id hP.b
  have hbl := hP.bl
  obtain ⟨ta, tn, tc, t1, t2, t3⟩ := h6.told
  have e2 : h.ldS o1 0 = some (ta, tn, tc) := AH.ldS_of t1 rfl
  have htn : tn = bs.length := by have := t2.len; rw [List.length_map] at this; omega
  have hat : A.tn = bs.length := by have := hw.to.len; rw [List.length_map] at this; omega
  intro d
  induction d with
  | zero =>
    intro j hd hj
    obtain rfl : j = bs.length := by omega
    refine Ok.le ?_ law13_SchedRuns_L2_le
    simp only [Option.bind_some, e2, htn]
    rw [dec_f (by omega), cond_f]
    refine Ok.le ?_ law13_SchedRuns_j4_le
    exact L1_ok hP hst _ 0 rfl (by omega)
  | succ d ih =>
    intro j hd hj
    obtain ⟨x, hx⟩ : ∃ x, bs[j]? = some x := ⟨_, List.getElem?_eq_getElem (by omega)⟩
    obtain ⟨ad, a1, a2⟩ := rd_b t2.rd hx
    obtain ⟨ad2, b1, b2⟩ := rd_b hw.to.rd hx
    refine Ok.le ?_ law13_SchedRuns_L2_le
    simp only [Option.bind_some, e2, htn]
    rw [dec_t (by omega), cond_t]
    refine Ok.le ?_ law13_SchedRuns_j6_le
    have i1 := inB_t (show (0 : Int) ≤ (j : Int) by omega) (show (j : Int) < (bs.length : Nat) by omega)
    simp only [Option.bind_some, e2, htn, a1, i1, cond_t, Int.toNat_natCast, a2, hw.c4, hat, b1, b2, beq_self_eq_true, Bool.not_true, cond_f]
    refine Ok.le ?_ law13_SchedRuns_j5_le
    rw [wrap64 (by omega) (by omega)]
    exact ih (j + 1) (by omega) (by omega)
end
end Rn
end Go.Lg.Try
