/- CellVersions: the law's function answers true, over the abstract memory. -/
import Derived.Test.YtplfjljdakkigaaFlaw14
import Derived.Test.YtplfjljdakkigaaPCellOp
namespace Go.Lg.Try
set_option linter.unusedVariables false
set_option linter.unusedSimpArgs false
open Go Go.Proofs
namespace Versions
def Q : Value → AH → Prop := fun v _ => v = .bool true
/-- versions are from nought to the clock -/
def Vok (cs : List Cel) (clk : Int) : Prop := ∀ (i : Nat) (c : Cel), cs[i]? = some c → 0 ≤ c.ver ∧ c.ver ≤ clk
/-- what a call may turn -/
structure Step (cs cs' : List Cel) (clk' : Int) (x : COp) (done : Int) : Prop where
  len : cs'.length = cs.length
  ok : ∀ (i : Nat) c c', cs[i]? = some c → cs'[i]? = some c' → c.ver ≤ c'.ver ∧ c'.ver ≤ clk' ∧ (c'.v ≠ c.v → (i : Int) = x.i ∧ done = 0 ∧ c'.v = x.v ∧ (c'.ver = c.ver → c'.ver = 0))
theorem Step.same {cs : List Cel} {clk : Int} (hv : Vok cs clk) {clk' : Int} (hc : clk ≤ clk') (x : COp) (d : Int) : Step cs cs clk' x d :=
  ⟨rfl, fun i c c' h h' => by rw [h] at h'; obtain rfl := Option.some.inj h'; exact ⟨Int.le_refl _, Int.le_trans (hv i c h).2 hc, fun hn => absurd rfl hn⟩⟩
theorem Step.set {cs : List Cel} {clk : Int} (hv : Vok cs clk) {x : COp} {d : Int} {c c1 : Cel} (hc : cs[x.i.toNat]? = some c) (h0 : 0 ≤ x.i) (h1 : c.ver ≤ c1.ver) (h2 : c1.ver ≤ clk) (h3 : c1.v ≠ c.v → d = 0 ∧ c1.v = x.v ∧ (c1.ver = c.ver → c1.ver = 0)) :
    Step cs (cs.set x.i.toNat c1) clk x d := by
  refine ⟨by simp, fun i b b' h h' => ?_⟩
  by_cases e : x.i.toNat = i
  · subst e
    rw [hc] at h
    obtain rfl := Option.some.inj h
    rw [List.getElem?_set_self (List.getElem?_eq_some_iff.mp hc).1] at h'
    obtain rfl := Option.some.inj h'
    exact ⟨h1, h2, fun hn => ⟨by omega, h3 hn⟩⟩
  · rw [List.getElem?_set_ne e, h] at h'
    obtain rfl := Option.some.inj h'
    exact ⟨Int.le_refl _, (hv i b h).2, fun hn => absurd rfl hn⟩
theorem Vok.step {cs cs' : List Cel} {clk clk' : Int} {x : COp} {d : Int} (hv : Vok cs clk) (hs : Step cs cs' clk' x d) : Vok cs' clk' := by
  intro i c' h'
  have hi : i < cs.length := by rw [← hs.len]; exact (List.getElem?_eq_some_iff.mp h').1
  have h := List.getElem?_eq_getElem hi
  have := hs.ok i _ c' h h'
  have := (hv i _ h).1
  omega

theorem step_lock {cs : List Cel} {clk : Int} (hv : Vok cs clk) (x : COp) (d : Int) : Step cs (lockM cs x.i x.o).2 clk x d := by
  unfold lockM
  split
  · exact .same hv (Int.le_refl _) x d
  · split
    · exact .same hv (Int.le_refl _) x d
    · rename_i hc _ c hcc
      split
      · exact .same hv (Int.le_refl _) x d
      · exact .set hv hcc (by omega) (Int.le_refl _) (hv _ _ hcc).2 (fun hn => absurd rfl hn)
theorem step_unlock {cs : List Cel} {clk : Int} (hv : Vok cs clk) (x : COp) (d : Int) : Step cs (unlockM cs x.i x.o).2 clk x d := by
  unfold unlockM
  split
  · exact .same hv (Int.le_refl _) x d
  · split
    · exact .same hv (Int.le_refl _) x d
    · rename_i hc _ c hcc
      split
      · exact .same hv (Int.le_refl _) x d
      · exact .set hv hcc (by omega) (Int.le_refl _) (hv _ _ hcc).2 (fun hn => absurd rfl hn)
theorem step_fill {cs : List Cel} {clk : Int} (hv : Vok cs clk) (x : COp) : Step cs (fillM cs x.i x.v).2 clk x (fillM cs x.i x.v).1 := by
  unfold fillM
  split
  · exact .same hv (Int.le_refl _) x _
  · split
    · exact .same hv (Int.le_refl _) x _
    · rename_i hc _ c hcc
      split
      · exact .same hv (Int.le_refl _) x _
      · split
        · exact .same hv (Int.le_refl _) x _
        · have := (hv _ _ hcc).1
          exact .set hv hcc (by omega) (Int.le_refl _) (hv _ _ hcc).2 (fun hn => ⟨rfl, rfl, fun _ => by show c.ver = 0; omega⟩)
theorem step_publish {cs : List Cel} {clk : Int} (hv : Vok cs clk) (x : COp) : Step cs (publishM cs clk x.i x.o x.v x.ver).2 clk x (publishM cs clk x.i x.o x.v x.ver).1 := by
  unfold publishM
  split
  · exact .same hv (Int.le_refl _) x _
  · split
    · exact .same hv (Int.le_refl _) x _
    · rename_i hc _ c hcc
      split
      · exact .same hv (Int.le_refl _) x _
      · split
        · exact .same hv (Int.le_refl _) x _
        · have := (hv _ _ hcc).1
          exact .set hv hcc (by omega) (by show c.ver ≤ x.ver; omega) (by show x.ver ≤ clk; omega) (fun hn => ⟨rfl, rfl, fun he => by have : x.ver = c.ver := he; omega⟩)
theorem publish_own {cs : List Cel} {clk i o v ver : Int} (h : (publishM cs clk i o v ver).1 = 0) : (loadM cs i).1.own = o := by
  unfold publishM at h
  split at h
  · cases h
  · rename_i hc
    split at h
    · cases h
    · rename_i c hcc
      split at h
      · cases h
      · rename_i hn
        simp only [loadM]
        rw [if_neg (by omega), hcc]
        exact Classical.not_not.mp hn

/-- what is known at a loop's head: the two arrays -/
structure I (h : AH) (p q vb nb : Nat) (a1 : Option Addr) (ops : List COp) (cs : List Cel) (clk : Int) (vs ns : List Int) : Prop where
  m : MemR h p q cs clk
  l6 : cs.length = 6
  va : IArr h vb vs
  na : IArr h nb ns
  vl : vs.length = 6
  nl : ns.length = 6
  ne : vb ≠ p ∧ vb ≠ q ∧ nb ≠ p ∧ nb ≠ q ∧ vb ≠ nb
  rd : Rd h a1 (ops.flatMap encCOp)
  bn : ∀ b, blk a1 b → b ≠ p ∧ b ≠ q ∧ b ≠ vb ∧ b ≠ nb
variable {h h' : AH} {p q vb nb : Nat} {a1 : Option Addr} {ops : List COp} {cs cs' : List Cel} {clk clk' : Int} {vs ns : List Int}
theorem I.op {S : List Nat} (hi : I h p q vb nb a1 ops cs clk vs ns) (hM : MemR h' p q cs' clk') (hf : Fr S h h') (hS : ∀ x, x ∈ S → x = p ∨ x = q) (hl : cs'.length = cs.length) : I h' p q vb nb a1 ops cs' clk' vs ns := by
  have e : ∀ b, b ≠ p → b ≠ q → b ∉ S := fun b h1 h2 hm => by rcases hS _ hm with e | e; exact h1 e; exact h2 e
  exact ⟨hM, hl.trans hi.l6, hi.va.fr hf (e _ hi.ne.1 hi.ne.2.1), hi.na.fr hf (e _ hi.ne.2.2.1 hi.ne.2.2.2.1), hi.vl, hi.nl, hi.ne, hi.rd.fr hf fun b hb => e b (hi.bn b hb).1 (hi.bn b hb).2.1, hi.bn⟩

/-- the round's look at every cell -/
theorem loop2 (k : Int) (l2 c3 ob : Nat) (x : COp) (done : Int) (hs : Step cs cs' clk' x done) (hv : Vok cs clk)
    (hex : ∀ h2, I h2 p q vb nb a1 ops cs' clk' (cs'.map (·.v)) (cs'.map (·.ver)) → Ok (law14_CellVersions_j2 l2 a1 (some ⟨p, 0, none⟩) c3 (some ⟨vb, 0, none⟩) (some ⟨nb, 0, none⟩) k h2) Q) :
    ∀ (n i : Nat) (h : AH) (vs ns : List Int), 6 - i = n → i ≤ 6 → I h p q vb nb a1 ops cs' clk' vs ns → OpAt h ob x → (ob ≠ vb ∧ ob ≠ nb) → (∀ j c c', cs[j]? = some c → cs'[j]? = some c' → vs[j]? = some (if j < i then c'.v else c.v) ∧ ns[j]? = some (if j < i then c'.ver else c.ver)) →
    Ok (law14_CellVersions_L2 (some ⟨p, 0, none⟩) (some ⟨nb, 0, none⟩) (some ⟨vb, 0, none⟩) (some ⟨ob, 0, none⟩) done k a1 l2 c3 i h) Q := by
  intro n
  induction n with
  | zero =>
    intro i h vs ns hn hi6 hi hop hob hvn
    obtain rfl : i = 6 := by omega
    refine Ok.le ?_ law14_CellVersions_L2_le
    refine Ok.le ?_ law14_CellVersions_j8_le
    refine hex h ?_
    have e : ∀ j, j < 6 → ∃ c c', cs[j]? = some c ∧ cs'[j]? = some c' := fun j hj => ⟨_, _, List.getElem?_eq_getElem (by have := hs.len; have := hi.l6; omega), List.getElem?_eq_getElem (by have := hi.l6; omega)⟩
    have e1 : vs = cs'.map (·.v) := List.ext_getElem? fun j => by
      by_cases hj : j < 6
      · obtain ⟨c, c', h1, h2⟩ := e j hj
        rw [(hvn j c c' h1 h2).1, if_pos hj]; simp [h2]
      · rw [List.getElem?_eq_none (by have := hi.vl; omega), List.getElem?_eq_none (by have := hi.l6; simp; omega)]
    have e2 : ns = cs'.map (·.ver) := List.ext_getElem? fun j => by
      by_cases hj : j < 6
      · obtain ⟨c, c', h1, h2⟩ := e j hj
        rw [(hvn j c c' h1 h2).2, if_pos hj]; simp [h2]
      · rw [List.getElem?_eq_none (by have := hi.nl; omega), List.getElem?_eq_none (by have := hi.l6; simp; omega)]
    rw [← e1, ← e2]; exact hi
  | succ n ih =>
    intro i h vs ns hn hi6 hi hop hob hvn
    have hi7 : i < 6 := by omega
    refine Ok.le ?_ law14_CellVersions_L2_le
    refine Ok.le ?_ law14_CellVersions_j8_le
    rw [dec_t (show (i : Int) < 6 by omega), cond_t]
    refine Ok.le ?_ law14_CellVersions_j7_le
    obtain ⟨c', hc'⟩ := hi.m.some_at (i := i) (by have := hi.l6; omega)
    obtain ⟨c, hc⟩ : ∃ c, cs[i]? = some c := ⟨_, List.getElem?_eq_getElem (by have := hs.len; have := hi.l6; omega)⟩
    obtain ⟨s1, s2, s3⟩ := hs.ok i c c' hc hc'
    obtain ⟨v1, v2⟩ := hvn i c c' hc hc'
    rw [if_neg (by omega)] at v1 v2
    have hl : ¬((i : Int) < 0 ∨ (cs'.length : Int) ≤ (i : Int)) := by have := hi.l6; omega
    have hib := inB_t (show (0:Int) ≤ (i : Int) by omega) (show (i : Int) < (6 : Nat) by omega)
    have hld := hi.na.ld v2
    have hlv := hi.va.ld v1
    simp only [load_eq hi.m, loadM, if_neg hl, Int.toNat_natCast, hc', Option.bind_some, asTu_t, hdO_c, asI_i64, List.isEmpty_nil, cond_t, hib, hld, decide_true, Bool.not_true, cond_f, dec_f (show ¬c'.ver < c.ver by omega), clock_eq hi.m, dec_f (show ¬clk' < c'.ver by omega)]
    have fin : Ok (law14_CellVersions_j4 (some ⟨vb, 0, none⟩) i h c'.v (some ⟨nb, 0, none⟩) c'.ver (some ⟨p, 0, none⟩) (some ⟨ob, 0, none⟩) done k a1 l2 c3) Q := by
      refine Ok.le ?_ law14_CellVersions_j4_le
      obtain ⟨h1, w1, w2, w3⟩ := hi.va.st (i := i) (by have := hi.vl; omega) c'.v
      have hna1 := hi.na.fr w3 (by simp; exact (Ne.symm hi.ne.2.2.2.2))
      obtain ⟨h2, u1, u2, u3⟩ := hna1.st (i := i) (by have := hi.nl; omega) c'.ver
      simp only [Option.bind_some, Int.toNat_natCast, hib, cond_t, w1, u1]
      refine Ok.le ?_ law14_CellVersions_j3_le
      rw [wrap64 (by omega) (by omega)]
      have f2 : Fr [vb, nb] h h2 := (w3.mono (by simp)).trans (u3.mono (by simp))
      refine ih (i + 1) h2 (vs.set i c'.v) (ns.set i c'.ver) (by omega) (by omega) ⟨hi.m.fr f2 (by have := hi.ne; simp; omega) (by have := hi.ne; simp; omega), hi.l6, w2.fr u3 (by simp; exact hi.ne.2.2.2.2), u2, by simp [hi.vl], by simp [hi.nl], hi.ne, hi.rd.fr f2 (fun b hb => by have := hi.bn b hb; simp; omega), hi.bn⟩ (hop.fr f2 (by simp; omega)) hob ?_
      intro j b b' hb hb'
      obtain ⟨q1, q2⟩ := hvn j b b' hb hb'
      by_cases e : i = j
      · subst e
        rw [hc'] at hb'
        obtain rfl := Option.some.inj hb'
        rw [List.getElem?_set_self (by have := hi.vl; omega), List.getElem?_set_self (by have := hi.nl; omega), if_pos (by omega), if_pos (by omega)]
        exact ⟨rfl, rfl⟩
      · rw [List.getElem?_set_ne e, List.getElem?_set_ne e, q1, q2]
        by_cases hji : j < i
        · rw [if_pos hji, if_pos (by omega), if_pos hji, if_pos (by omega)]; exact ⟨rfl, rfl⟩
        · rw [if_neg hji, if_neg (by omega), if_neg hji, if_neg (by omega)]; exact ⟨rfl, rfl⟩
    have fin5 : Ok (law14_CellVersions_j5 h (some ⟨vb, 0, none⟩) i c'.v (some ⟨nb, 0, none⟩) c'.ver (some ⟨p, 0, none⟩) (some ⟨ob, 0, none⟩) done k a1 l2 c3 false) Q := by
      refine Ok.le ?_ law14_CellVersions_j5_le
      exact fin
    refine Ok.le ?_ law14_CellVersions_j6_le
    simp only [Option.bind_some, Int.toNat_natCast, hib, cond_t, hlv]
    by_cases ev : c'.v = c.v
    · rw [dec_t ev, Bool.not_true, cond_f]; exact fin5
    · obtain ⟨t1, t2, t3, t4⟩ := s3 ev
      simp only [dec_f ev, Bool.not_false, cond_t, hop.l1, hop.l3, Option.bind_some, dec_t t1, dec_t t2, dec_t t3, Bool.not_true, cond_f, hld]
      by_cases en : c'.ver = c.ver
      · rw [dec_t en, cond_t, dec_t (t4 en), Bool.not_true]; exact fin5
      · rw [dec_f en, cond_f]; exact fin5

theorem loop1 (l2 c3 : Nat) (hl2 : l2 = ops.length) : ∀ (n k : Nat) (h : AH) (cs : List Cel) (clk : Int), 200 - k = n → k ≤ 200 → I h p q vb nb a1 ops cs clk (cs.map (·.v)) (cs.map (·.ver)) → Vok cs clk →
    Ok (law14_CellVersions_L1 l2 a1 (some ⟨p, 0, none⟩) c3 (some ⟨vb, 0, none⟩) (some ⟨nb, 0, none⟩) k h) Q := by
  intro n
  induction n with
  | zero =>
    intro k h cs clk hk hk2 hi hv
    obtain rfl : k = 200 := by omega
    refine Ok.le ?_ law14_CellVersions_L1_le
    have fin : Ok (law14_CellVersions_j1 h) Q := by
      refine Ok.le ?_ law14_CellVersions_j1_le
      simp only [C_closed (f := k_law14_awake) rfl h, Option.bind_some, asB_b]
      exact Ok.some rfl
    rw [dec_f (show ¬((200 : Nat) : Int) < 200 by omega)]
    cases decide (((200 : Nat) : Int) < (l2 : Int)) <;> exact fin
  | succ n ih =>
    intro k h cs clk hk hk2 hi hv
    refine Ok.le ?_ law14_CellVersions_L1_le
    by_cases hlt : (k : Int) < (l2 : Int)
    · rw [dec_t hlt, dec_t (show (k : Int) < 200 by omega), cond_t, cond_t]
      refine Ok.le ?_ law14_CellVersions_j12_le
      obtain ⟨x, hx⟩ : ∃ x, ops[k]? = some x := ⟨_, List.getElem?_eq_getElem (by omega)⟩
      obtain ⟨ad, rfl, e0, e1, e2, e3, e4, h1, s1, s2, s3⟩ := op_read hi.rd hx
      have hi1 : I h1 p q vb nb (some ad) ops cs clk (cs.map (·.v)) (cs.map (·.ver)) := hi.op (hi.m.fr s3 (by simp) (by simp)) s3 (by simp) rfl
      have hob : h.n ≠ vb ∧ h.n ≠ nb ∧ h.n ≠ p ∧ h.n ≠ q := by have := hi.va.n; have := hi.na.n; have := hi.m.pn; have := hi.m.qn; omega
      -- behind the call
      have j9 : ∀ (h2 : AH) (cs2 : List Cel) (clk2 done : Int), I h2 p q vb nb (some ad) ops cs2 clk2 (cs.map (·.v)) (cs.map (·.ver)) → OpAt h2 h.n x → Step cs cs2 clk2 x done →
          Ok (law14_CellVersions_j9 (some ⟨p, 0, none⟩) (some ⟨nb, 0, none⟩) (some ⟨vb, 0, none⟩) k (some ad) l2 c3 (some ⟨h.n, 0, none⟩) done h2) Q := by
        intro h2 cs2 clk2 done hi2 hop2 hst
        refine Ok.le ?_ law14_CellVersions_j9_le
        refine loop2 (k : Int) l2 c3 h.n x done hst hv ?_ 6 0 h2 _ _ rfl (by omega) hi2 hop2 ⟨hob.1, hob.2.1⟩ ?_
        · intro h3 hi3
          refine Ok.le ?_ law14_CellVersions_j2_le
          rw [wrap64 (by omega) (by omega)]
          exact ih (k + 1) h3 cs2 clk2 (by omega) (by omega) hi3 (hv.step hst)
        · intro j c c' hc hc'
          rw [if_neg (by omega), if_neg (by omega)]
          simp [hc]
      simp only [Option.bind_some, inB_t (show (0 : Int) ≤ (k : Int) by omega) (show (k : Int) < (l2 : Nat) by omega), cond_t, Int.toNat_natCast, e0, e1, e2, e3, e4, s1, s2.l1, load_eq hi1.m, asTu_t, hdO_c, asI_i64, List.isEmpty_nil, s2.l0, s2.l3]
      by_cases k0 : x.kind = 0
      · rw [dec_t k0, cond_t]
        refine Ok.bind (adv_ok hi1.m) ?_
        rintro _ h2 ⟨rfl, hM2, hf2⟩
        simp only [asTu_t, hdO_c, asI_i64, Option.bind_some, List.isEmpty_nil, cond_t]
        refine j9 h2 cs _ 2 (hi1.op hM2 hf2 (by simp) rfl) (s2.fr hf2 (by simp; omega)) (.same hv ?_ x 2)
        unfold advM
        split
        · exact Int.le_refl _
        · show clk ≤ clk + 1; omega
      rw [dec_f k0, cond_f]
      by_cases k2 : x.kind = 2
      · rw [dec_t k2, cond_t]
        refine Ok.bind (fill_ok hi1.m x.i x.v) ?_
        rintro _ h2 ⟨rfl, hM2, hf2⟩
        simp only [asI_i64, Option.bind_some]
        have hst := step_fill hv x
        exact j9 h2 _ clk _ (hi1.op hM2 hf2 (by simp) hst.len) (s2.fr hf2 (by simp; omega)) hst
      rw [dec_f k2, cond_f]
      have j10 : ∀ b, Ok (law14_CellVersions_j10 (some ⟨h.n, 0, none⟩) h1 (some ⟨p, 0, none⟩) (loadM cs x.i).1.own (some ⟨nb, 0, none⟩) (some ⟨vb, 0, none⟩) k (some ad) l2 c3 b) Q := by
        intro b
        refine Ok.le ?_ law14_CellVersions_j10_le
        cases b with
        | false => exact j9 h1 cs clk 2 hi1 s2 (.same hv (Int.le_refl _) x 2)
        | true =>
          simp only [cond_t, Option.bind_some, s2.l1, s2.l2, s2.l3, s2.l4]
          refine Ok.bind (publish_ok hi1.m x.i x.o x.v x.ver) ?_
          rintro _ h2 ⟨rfl, hM2, hf2⟩
          have hop2 := s2.fr hf2 (by simp; omega)
          have hst := step_publish hv x
          simp only [asI_i64, Option.bind_some, hop2.l2]
          have fin := j9 h2 _ clk _ (hi1.op hM2 hf2 (by simp) hst.len) hop2 hst
          by_cases hd : (publishM cs clk x.i x.o x.v x.ver).1 = 0
          · rw [dec_t hd, cond_t, dec_t (publish_own hd), Bool.not_true, cond_f]; exact fin
          · rw [dec_f hd, cond_f]; exact fin
      have j11 : ∀ b, Ok (law14_CellVersions_j11 (some ⟨p, 0, none⟩) (some ⟨nb, 0, none⟩) (some ⟨vb, 0, none⟩) k (some ad) l2 c3 x.kind (loadM cs x.i).1.own (some ⟨h.n, 0, none⟩) b h1) Q := by
        intro b
        refine Ok.le ?_ law14_CellVersions_j11_le
        cases b with
        | true =>
          simp only [cond_t, Option.bind_some, s2.l1, s2.l2]
          refine Ok.bind (lock_ok hi1.m x.i x.o) ?_
          rintro _ h2 ⟨rfl, hM2, hf2⟩
          have hst := step_lock hv x 2
          simp only [asI_i64, Option.bind_some]
          exact j9 h2 _ clk 2 (hi1.op hM2 hf2 (by simp) hst.len) (s2.fr hf2 (by simp; omega)) hst
        | false =>
          rw [cond_f]
          cases decide (x.kind = 5) with
          | true =>
            simp only [cond_t, Option.bind_some, s2.l1, s2.l2]
            refine Ok.bind (unlock_ok hi1.m x.i x.o) ?_
            rintro _ h2 ⟨rfl, hM2, hf2⟩
            have hst := step_unlock hv x 2
            simp only [asI_i64, Option.bind_some]
            exact j9 h2 _ clk 2 (hi1.op hM2 hf2 (by simp) hst.len) (s2.fr hf2 (by simp; omega)) hst
          | false =>
            rw [cond_f]
            cases decide (x.kind = 6) <;> exact j10 _
      cases decide (x.kind = 3) <;> exact j11 _
    · rw [dec_f hlt, cond_f]
      refine Ok.le ?_ law14_CellVersions_j1_le
      simp only [C_closed (f := k_law14_awake) rfl h, Option.bind_some, asB_b]
      exact Ok.some rfl

theorem main (h : AH) {a1 : Option Addr} {l2 c3 : Nat} {ops : List COp} (hs : SlIn h encCOp (fun _ => True) a1 l2 c3 ops) : Ok (C k_law14_CellVersions [.slice a1 l2 c3] h) Q := by
  refine Ok.le ?_ law14_CellVersions_le
  unfold F_law14_CellVersions
  rcases new_ok h 6 with ⟨hbad, _⟩ | ⟨_, _, h1, e1, hM, hf, hn⟩
  · omega
  · simp only [e1, Option.bind_some, asTu_t, hdO_c, asP_p, asI_i64, List.isEmpty_nil, cond_t, decide_true, Bool.not_true, cond_f]
    refine Ok.le ?_ law14_CellVersions_j13_le
    have hf2 : ∀ (h : AH) z, Fr [] h (h.push z) := fun h z => Fr.push _ _ _
    have a1' := IArr.new h1 [0, 0, 0, 0, 0, 0] [(.int .i64 0), (.int .i64 0), (.int .i64 0), (.int .i64 0), (.int .i64 0), (.int .i64 0)] rfl 6 rfl
    have a2' := IArr.new (h1.push (.cells [(.int .i64 0), (.int .i64 0), (.int .i64 0), (.int .i64 0), (.int .i64 0), (.int .i64 0)] false false 6)) [0, 0, 0, 0, 0, 0] [(.int .i64 0), (.int .i64 0), (.int .i64 0), (.int .i64 0), (.int .i64 0), (.int .i64 0)] rfl 6 rfl
    refine loop1 (p := h.n + 1) (q := h.n) l2 c3 hs.len 200 0 _ (List.replicate 6 ⟨0, 0, 0⟩) 0 rfl (by omega) ⟨(hM.fr (hf2 _ _) (by simp) (by simp)).fr (hf2 _ _) (by simp) (by simp), rfl, a1'.fr (hf2 _ _) (by simp), a2', rfl, rfl, ?_, ((hs.rd.fr hf (by simp)).fr (hf2 _ _) (by simp)).fr (hf2 _ _) (by simp), fun b hb => ?_⟩ ?_
    · simp only [AH.n_push]; omega
    · have := hs.lt b hb; simp only [AH.n_push]; omega
    · intro i c hc
      rw [List.getElem?_replicate] at hc
      split at hc
      · obtain rfl := Option.some.inj hc; exact ⟨Int.le_refl _, Int.le_refl _⟩
      · cases hc
end Versions
end Go.Lg.Try
