/- SchedRuns: the picks. -/
import Derived.Test.YtplfjljdakkigaaPrunsL
namespace Go.Lg.Try
set_option linter.unusedVariables false
set_option linter.unusedSimpArgs false
open Go Go.Proofs
namespace Rn
def Bd (l : List Int) : Prop := ∀ y ∈ l, 0 ≤ y ∧ y ≤ 3
theorem Bd.set {l : List Int} (h : Bd l) (i : Nat) {y : Int} (hy : 0 ≤ y ∧ y ≤ 3) : Bd (l.set i y) := fun z hz => by
  rcases List.mem_or_eq_of_mem_set hz with hz | rfl
  · exact h z hz
  · exact hy
theorem Bd.wake {l : List Int} (h : Bd l) (line : List Int) (now : Int) (w : Bool) (id : Int) : Bd (wakeW l line now w id).2.1 := by
  unfold wakeW
  repeat' split
  all_goals first | exact h | exact h.set _ (by omega)
theorem Bd.picked {l : List Int} (h : Bd l) (line : List Int) (k : Nat) (id : Int) (d : DoR) : Bd (pickedW l line k id d).2.1 ∧ 1 ≤ (pickedW l line k id d).1 ∧ (pickedW l line k id d).1 ≤ 3 := by
  have h1 : Bd (aftW l (line.eraseIdx k) id d).1 := by
    unfold aftW
    split
    · exact h
    · exact h.wake _ _ _ _
  unfold pickedW finW
  split
  · exact ⟨h1.set _ (by omega), by omega, by omega⟩
  · split
    · exact ⟨h1.set _ (by omega), by omega, by omega⟩
    · exact ⟨h1.set _ (by omega), by omega, by omega⟩
theorem Bd.st {ts : List TD} (h : Bd (ts.map TD.st)) : ∀ x ∈ ts, 0 ≤ x.st ∧ x.st ≤ 3 := fun x hx => h x.st (List.mem_map.mpr ⟨x, hx, rfl⟩)
theorem tn_picked (ts : List TD) (line : List Int) (k : Nat) (id : Int) (d : DoR) : tn (picked ts line k id d).2.1 = tn (stepTs ts id) := (tn_fin _ _ _ _ _).trans (tn_aft _ _ _ _ _)
theorem stepTs_t (ts : List TD) (id : Int) : (stepTs ts id).map TD.t = ts.map TD.t := by
  unfold stepTs
  generalize (id - 1).toNat = i
  apply List.ext_getElem?
  intro k
  rw [List.getElem?_map, List.getElem?_modify, List.getElem?_map]
  cases ts[k]? with
  | none => simp
  | some x => by_cases e : i = k <;> simp [e]
theorem stepTs_n (ts : List TD) (id : Int) {x : TD} (hx : ts[(id - 1).toNat]? = some x) : (stepTs ts id).map TD.n = (ts.map TD.n).set (id - 1).toNat (x.n + 1) := by
  unfold stepTs
  generalize (id - 1).toNat = i at hx
  have hil := (List.getElem?_eq_some_iff.mp hx).1
  apply List.ext_getElem?
  intro k
  rw [List.getElem?_map, List.getElem?_modify, List.getElem?_set]
  by_cases e : i = k
  · subst e; rw [hx]; simp [hil]
  · rw [if_neg e, List.getElem?_map]
    cases ts[k]? <;> simp [e]
section
variable {h h' : AH} {K : Nat → Prop} {s o1 o2 wb : Nat} {pa : Option Addr} {pn pc : Nat} {a4 : Option Addr} {ps : List Int} {i : Nat} {ts : List TD} {line : List Int} {tl : List TK} {bs : List Bool} {c6 : Nat}
theorem doOf_tell (q : TK) (hq : ∀ d ∈ q.l, pickM d.tell 7 = d.tell) : pickM (doOf q).tell 7 = (doOf q).tell := by
  unfold doOf
  cases hx : q.l[q.at_]? with
  | none => rfl
  | some d => exact hq d (List.mem_of_getElem? hx)
theorem at_set {tl : List TK} {j : Nat} {q : TK} (hq : tl[j]? = some q) : (tl.set j (up q)).map (fun p => (p.at_ : Int)) = (tl.map fun p => (p.at_ : Int)).set j ((q.at_ : Int) + 1) := by
  rw [List.map_set]; rfl
theorem sl_set {tl : List TK} {j : Nat} {q : TK} (hq : tl[j]? = some q) : (tl.set j (up q)).map (fun p => Value.slice p.a p.n p.c) = tl.map fun p => Value.slice p.a p.n p.c := by
  have hjl := (List.getElem?_eq_some_iff.mp hq).1
  apply List.ext_getElem?
  intro k
  by_cases e : j = k
  · subst e; rw [List.getElem?_map, List.getElem?_set_self hjl, List.getElem?_map, hq]; rfl
  · rw [List.getElem?_map, List.getElem?_set_ne e, List.getElem?_map]
theorem t_set {tl : List TK} {j : Nat} {q : TK} (hq : tl[j]? = some q) : (tl.set j (up q)).map tOf = tl.map tOf := by
  have hjl := (List.getElem?_eq_some_iff.mp hq).1
  apply List.ext_getElem?
  intro k
  by_cases e : j = k
  · subst e; rw [List.getElem?_map, List.getElem?_set_self hjl, List.getElem?_map, hq]; rfl
  · rw [List.getElem?_map, List.getElem?_set_ne e, List.getElem?_map]
theorem wakeM_len (ts : List TD) (line : List Int) (id : Int) : (wakeM ts line 0 false id).2.1.length = ts.length := tn_len (tn_wake ts line false id)
theorem L3_ok (hps : ∀ x ∈ ps, (Lit.int .i64 x).wf = true) : ∀ (d i : Nat) (h : AH) (ts : List TD) (line : List Int) (tl : List TK) (bs : List Bool), 300 - i = d → i ≤ 300 → Pk h K s o1 o2 wb pa pn pc a4 ps i ts line tl bs → Bd (ts.map TD.st) →
    Ok (law13_SchedRuns_L3 ps.length a4 (some ⟨s, 0, none⟩) (some ⟨wb, 0, none⟩) (some ⟨o2, 0, none⟩) (some ⟨o1, 0, none⟩) c6 (i : Int) h) Qt := by
  intro d
  induction d with
  | zero =>
    intro i h ts line tl bs hd hi hP hB
    obtain rfl : i = 300 := by omega
    have fin : Ok (law13_SchedRuns_j7 (some ⟨o1, 0, none⟩) (some ⟨wb, 0, none⟩) (some ⟨s, 0, none⟩) h) Qt := by
      refine Ok.le ?_ law13_SchedRuns_j7_le
      exact L2_ok hP (by omega) hB.st _ 0 rfl (by omega)
    refine Ok.le ?_ law13_SchedRuns_L3_le
    have z : decide (((300 : Nat) : Int) < 300) = false := rfl
    rw [z, cond_f]
    cases decide (((300 : Nat) : Int) < ((ps.length : Nat) : Int)) <;> exact fin
  | succ d ih =>
    intro i h ts line tl bs hd hi hP hB
    have fin : Ok (law13_SchedRuns_j7 (some ⟨o1, 0, none⟩) (some ⟨wb, 0, none⟩) (some ⟨s, 0, none⟩) h) Qt := by
      refine Ok.le ?_ law13_SchedRuns_j7_le
      exact L2_ok hP (by omega) hB.st _ 0 rfl (by omega)
    refine Ok.le ?_ law13_SchedRuns_L3_le
    by_cases hip : (i : Int) < ((ps.length : Nat) : Int)
    · rw [dec_t hip, cond_t, dec_t (by omega), cond_t]
      have hgl := hP.good.len
      have hle := hP.le
      have hlen := hP.len
      have hbl := hP.bl
      obtain ⟨x, hx⟩ : ∃ x, ps[i]? = some x := ⟨_, List.getElem?_eq_getElem (by omega)⟩
      obtain ⟨ad, a1, a2⟩ := rd_i hP.ip hx
      subst a1
      have hxw := hps x (List.mem_of_getElem? hx)
      have hxb : -9223372036854775808 ≤ x ∧ x ≤ 9223372036854775807 := by
        have h := hxw
        simp only [Lit.wf, Bool.and_eq_true, decide_eq_true_eq] at h
        exact h
      refine Ok.le ?_ law13_SchedRuns_j11_le
      simp only [Option.bind_some, inB_t (show (0 : Int) ≤ (i : Int) by omega) hip, cond_t, Int.toNat_natCast, a2]
      have go : ∀ (g : AH) (ts' : List TD) (line' : List Int) (tl' : List TK) (bs' : List Bool), Pk g K s o1 o2 wb pa pn pc (some ad) ps (i + 1) ts' line' tl' bs' → Bd (ts'.map TD.st) → Ok (law13_SchedRuns_j10 (some ⟨o2, 0, none⟩) ps.length (some ad) (some ⟨s, 0, none⟩) (some ⟨wb, 0, none⟩) (some ⟨o1, 0, none⟩) c6 (i : Int) g) Qt := by
        intro g ts' line' tl' bs' hP' hB'
        refine j10_ok hP' (by omega) fun g' hf => ?_
        refine Ok.le ?_ law13_SchedRuns_j8_le
        rw [wrap64 (by omega) (by omega)]
        exact ih (i + 1) g' ts' line' tl' bs' (by omega) (by omega) (hP'.fr hf) hB'
      by_cases hneg : x < 0
      · rw [dec_t hneg, cond_t, wrap64 (show -9223372036854775808 ≤ -1 - x by omega) (by omega)]
        refine Ok.bind (hP.b.wakeS (-1 - x) (by omega) (by omega)) ?_
        rintro _ g1 ⟨rfl, hB1, kp1⟩
        simp only [asB_b, Option.bind_some]
        refine Ok.bind (hB1.wakeW (-1 - x) (by rw [List.length_map]; omega) (by omega)) ?_
        rintro _ g2 ⟨rfl, hB2, kp2⟩
        obtain ⟨q1, q2, q3⟩ := wake_eq ts line 0 false (-1 - x)
        have kp := kp1.trans kp2
        have htn := tn_wake ts line false (-1 - x)
        have e3 : (wakeW (ts.map TD.st) line 0 false (-1 - x)).2.2.1 = (wakeM ts line 0 false (-1 - x)).2.2.1 := by rw [← q3]
        rw [← q2, e3, ← tn_n, ← htn, tn_n] at hB2
        simp only [asB_b, Option.bind_some, q1, beq_self_eq_true, Bool.not_true, cond_f]
        refine go g2 _ _ _ _ ⟨hB2, good_wake hP.good _, by rw [wakeM_len]; exact hlen, by rw [wakeM_len]; exact hle, by rw [← tn_t, htn, tn_t]; exact hP.tt, by rw [← tn_n, htn, tn_n]; exact hP.nn, fun p hp => by have := hP.at_ p hp; omega, by omega, kp.rd hP.pr hP.pk, hP.pk, hP.pl, fun p hp => ⟨kp.rd (hP.ins p hp).1 (hP.ins p hp).2.1, (hP.ins p hp).2⟩, kp.rd hP.ip hP.ik, hP.ik⟩ ?_
        rw [q2]; exact hB.wake _ _ _ _
      · have wu : IntKind.wrap .u64 x = x := wrapu64 (by omega) (by omega)
        rw [dec_f hneg, cond_f, wu]
        by_cases hl : line = []
        · obtain ⟨F, G, w, w', h1, h2, ⟨t, A, hw, hF, ht⟩, h4, h5, h6, h7⟩ := id hP.b
          have hln := hw.llen
          have ew : C k_ref13_World_Pick [.pointer (some ⟨wb, 0, none⟩), .int .u64 x] h = some (.tuple #[.int .i64 0, .int .i64 0, .bool false], h) := by
            refine ref13_World_Pick_le _ ?_
            have z : A.ln = 0 := by rw [hln, hl]; rfl
            simp only [F_ref13_World_Pick, Option.bind_some, hw.c3, z]
            rfl
          simp only [pick_idle h1 x (.inl hl), ew, Option.bind_some, asTu_t, hdO_c, asI_i64, asI_u8, asB_b, List.isEmpty_nil, cond_t, decide_true, Bool.not_true, cond_f, beq_self_eq_true]
          have w0 : IntKind.wrap .i64 0 = 0 := by decide
          simp only [w0, decide_true, Bool.not_true, cond_f]
          refine go h ts line tl bs ⟨hP.b, hP.good, hP.len, hP.le, hP.tt, hP.nn, fun p hp => by have := hP.at_ p hp; omega, by omega, hP.pr, hP.pk, hP.pl, hP.ins, hP.ip, hP.ik⟩ hB
        · have hpos : 0 < line.length := List.length_pos_iff.mpr hl
          obtain ⟨k, hk⟩ : ∃ k, (x % (line.length : Int)).toNat = k := ⟨_, rfl⟩
          have hkn : k < line.length := by
            have := Int.emod_nonneg x (show (line.length : Int) ≠ 0 by omega)
            have := Int.emod_lt_of_pos x (show (0 : Int) < line.length by omega)
            omega
          obtain ⟨id, hid⟩ : ∃ id, line[k]? = some id := ⟨_, List.getElem?_eq_getElem hkn⟩
          obtain ⟨hid1, y, hy, hys⟩ := hP.good.2 id (List.mem_of_getElem? hid)
          have hil : (id - 1).toNat < ts.length := (List.getElem?_eq_some_iff.mp hy).1
          obtain ⟨q, hq⟩ : ∃ q, tl[(id - 1).toNat]? = some q := ⟨_, List.getElem?_eq_getElem (by omega)⟩
          have hqa := hP.at_ q (List.mem_of_getElem? hq)
          have hm : (ts.map TD.n)[(id - 1).toNat]? = some (q.at_ : Int) := by rw [hP.nn, List.getElem?_map, hq]; rfl
          have hyn : y.n = (q.at_ : Int) := by rw [List.getElem?_map, hy] at hm; exact Option.some.inj hm
          have hdt := doOf_tell q (hP.ins q (List.mem_of_getElem? hq)).2.2.2
          have hnb : ∀ z ∈ ts.map TD.n, 0 ≤ z ∧ z ≤ 400 := fun z hz => by
            rw [hP.nn] at hz
            obtain ⟨p, hp, rfl⟩ := List.mem_map.mp hz
            have := hP.at_ p hp; omega
          refine Ok.bind (hP.b.pickS hP.good (by omega) (by omega) hk hid hq hP.tt hnb (by omega) (by omega)) ?_
          rintro _ g1 ⟨rfl, hB1, kp1⟩
          simp only [Option.bind_some, asTu_t, hdO_c, asI_i64, asI_u8, asB_b, List.isEmpty_nil, cond_t]
          refine Ok.bind (hB1.pickW (tl0 := tl) (kp1.rd hP.pr hP.pk) hP.pk hP.pl (fun p hp => ⟨kp1.rd (hP.ins p hp).1 (hP.ins p hp).2.1, (hP.ins p hp).2.1, (hP.ins p hp).2.2.1⟩) (by omega) hk hid ⟨hid1, by rw [List.length_map]; omega⟩ (by rw [List.length_map, List.length_map]) hq hm (by omega) (by rw [List.length_map]; omega) (by omega) (by omega)) ?_
          rintro _ g2 ⟨rfl, hB2, kp2⟩
          have kp := kp1.trans kp2
          obtain ⟨e1, e2, e3⟩ := picked_eq ts line k id hdt
          obtain ⟨_, _, e4⟩ := aft_eq (stepTs ts id) (line.eraseIdx k) id (doOf q)
          rw [stepTs_st] at e4
          obtain ⟨b1, b2, b3⟩ := hB.picked line k id (doOf q)
          have w1 : IntKind.wrap .i64 (pickedW (ts.map TD.st) line k id (doOf q)).1 = (pickedW (ts.map TD.st) line k id (doOf q)).1 := wrap64 (by omega) (by omega)
          simp only [Option.bind_some, asTu_t, hdO_c, asI_i64, asI_u8, asB_b, List.isEmpty_nil, cond_t, decide_true, Bool.not_true, cond_f, e1, w1, beq_self_eq_true]
          have htn := tn_picked ts line k id (doOf q)
          have en : (picked ts line k id (doOf q)).2.1.map TD.n = (ts.map TD.n).set (id - 1).toNat ((q.at_ : Int) + 1) := by rw [← tn_n, htn, tn_n, stepTs_n ts id hy, hyn]
          have hlen2 : (picked ts line k id (doOf q)).2.1.length = ts.length := by rw [tn_len htn]; simp [stepTs]
          rw [← e2, ← e3, ← e4, ← en] at hB2
          have hst : ts.set (id - 1).toNat { y with n := y.n + 1 } = stepTs ts id := set_modify ts (id - 1).toNat (fun y => { y with n := y.n + 1 }) hy
          have hmid := hP.good.mid hid hy (y := { y with n := y.n + 1 }) rfl
          rw [hst] at hmid
          have hgood : Good (picked ts line k id (doOf q)).2.1 (picked ts line k id (doOf q)).2.2 := ((hmid.aft false (doOf q)).fin _ _).1
          have htl := told_len (stepTs ts id) (line.eraseIdx k) id false (doOf q)
          refine go g2 _ _ _ _ ⟨hB2, hgood, by rw [hlen2, List.length_set]; exact hlen, by omega, by rw [t_set hq, ← tn_t, htn, tn_t, stepTs_t]; exact hP.tt, by rw [en, at_set hq, hP.nn], fun p hp => ?_, by rw [List.length_append]; omega, by rw [sl_set hq]; exact kp.rd hP.pr hP.pk, hP.pk, by rw [List.length_set]; exact hP.pl, fun p hp => ?_, kp.rd hP.ip hP.ik, hP.ik⟩ (by rw [e2]; exact b1)
          · rcases List.mem_or_eq_of_mem_set hp with hp | rfl
            · have := hP.at_ p hp; omega
            · show q.at_ + 1 ≤ i + 1; omega
          · rcases List.mem_or_eq_of_mem_set hp with hp | rfl
            · exact ⟨kp.rd (hP.ins p hp).1 (hP.ins p hp).2.1, (hP.ins p hp).2⟩
            · have := hP.ins q (List.mem_of_getElem? hq)
              exact ⟨kp.rd this.1 this.2.1, this.2⟩
    · rw [dec_f hip, cond_f]
      exact fin
end
end Rn
end Go.Lg.Try
