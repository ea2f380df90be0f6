/- SchedSteps: the law's function answers true, over the abstract memory. -/
import Derived.Test.YtplfjljdakkigaaPschedGood
namespace Go.Lg.Try
set_option linter.unusedVariables false
set_option linter.unusedSimpArgs false
open Go Go.Proofs
def tOf (p : TK) : Option (TypeId × Value) := some (y_P_law13_task, .pointer (some ⟨p.tb, 0, none⟩))
def sumN (ts : List TD) : Int := ((tn ts).map (·.2)).sum
theorem tn_len {a b : List TD} (h : tn a = tn b) : a.length = b.length := by have := congrArg List.length h; simpa [tn] using this
theorem tn_t (ts : List TD) : (tn ts).map (·.1) = ts.map TD.t := by simp [tn]
theorem tn_n (ts : List TD) : (tn ts).map (·.2) = ts.map TD.n := by simp [tn]
theorem sum_set : ∀ (l : List Int) (i : Nat) (x y : Int), l[i]? = some x → (l.set i y).sum = l.sum + (y - x)
  | [], i, x, y, h => by simp at h
  | a :: l, 0, x, y, h => by
    obtain rfl : a = x := by simpa using h
    simp; omega
  | a :: l, i + 1, x, y, h => by
    have := sum_set l i x y (by simpa using h)
    simp [this]; omega
structure St (h0 h : AH) (K : Nat → Prop) (s o1 o2 m k : Nat) (ts : List TD) (line : List Int) : Prop where
  ex : ∃ F w tl bs, Sch h s F ts line 0 w ∧ TI h0 h K F s o1 o2 tl bs ∧ ts.map TD.t = tl.map tOf ∧ bs.length ≤ k ∧ (∀ p ∈ tl, p.at_ ≤ k)
  len : ts.length = m
  good : Good ts line
  nb : ∀ x ∈ ts.map TD.n, 0 ≤ x ∧ x ≤ k
  sum : sumN ts = k
theorem task_m (v : Value) : ifcQ Try.prog "Step" (ifV (some (y_P_law13_task, v))) = some (k_law13_task_Step, [v], []) := by kernel_rfl
theorem task_b : hasBody Try.prog k_law13_task_Step = true := by kernel_rfl
theorem aft_line (ts : List TD) (line : List Int) (id : Int) (w : Bool) (d : DoR) : (aft ts line id w d).2.1.length ≤ line.length + 1 := by
  unfold aft wakeM
  repeat' split
  all_goals simp
theorem told_len (ts : List TD) (line : List Int) (id : Int) (w : Bool) (d : DoR) : (toldOf ts line id w d).length ≤ 1 := by
  unfold toldOf; split <;> simp
theorem St.pick {h0 h : AH} {K : Nat → Prop} {s o1 o2 m k : Nat} {ts : List TD} {line : List Int} (hS : St h0 h K s o1 o2 m k ts line) (hm : m ≤ 20) (hk : k < 300) {p : Int} (hp0 : 0 ≤ p) (hne : line ≠ []) :
    Ok (C k_sched_Sched_Pick [.pointer (some ⟨s, 0, none⟩), .int .u64 p] h) fun v h' => ∃ id st ts' line', line[(p % (line.length : Int)).toNat]? = some id ∧ v = .tuple #[.int .i64 id, .int .u8 st, .bool true] ∧ St h0 h' K s o1 o2 m (k + 1) ts' line' ∧ st = stOf ts' id := by
  obtain ⟨F, w, tl, bs, hs, hT, htt, hbs, hat⟩ := hS.ex
  have hlen := hS.len
  have hgl := hS.good.len
  have hpos : 0 < line.length := List.length_pos_iff.mpr hne
  have hkn : (p % (line.length : Int)).toNat < line.length := by
    have := Int.emod_nonneg p (show (line.length : Int) ≠ 0 by omega)
    have := Int.emod_lt_of_pos p (show (0 : Int) < line.length by omega)
    omega
  obtain ⟨id, hid⟩ : ∃ id, line[(p % (line.length : Int)).toNat]? = some id := ⟨_, List.getElem?_eq_getElem hkn⟩
  obtain ⟨hid1, x, hx, hxs⟩ := hS.good.2 id (List.mem_of_getElem? hid)
  have hil : (id - 1).toNat < ts.length := (List.getElem?_eq_some_iff.mp hx).1
  have hxn := hS.nb x.n (List.mem_map.mpr ⟨x, List.mem_of_getElem? hx, rfl⟩)
  obtain ⟨q, hq, hqt⟩ : ∃ q, tl[(id - 1).toNat]? = some q ∧ x.t = tOf q := by
    have e1 : (ts.map TD.t)[(id - 1).toNat]? = some x.t := by rw [List.getElem?_map, hx]; rfl
    rw [htt, List.getElem?_map] at e1
    cases hq : tl[(id - 1).toNat]? with
    | none => rw [hq] at e1; cases e1
    | some q => rw [hq] at e1; exact ⟨q, rfl, (Option.some.inj e1).symm⟩
  have hmid := hS.good.mid hid hx (y := { x with n := x.n + 1 }) rfl
  refine (pick_go hs hp0 hne (by omega) (by omega) (id := id) hid ⟨hid1, by omega⟩ hx ⟨hxn.1, by omega⟩
    (R := fun st F2 ts2 line2 w2 h2 => Mid ts2 line2 id ∧ tn ts2 = tn (ts.set (id - 1).toNat { x with n := x.n + 1 }) ∧ ∃ tl' bs', TI h0 h2 K F2 s o1 o2 tl' bs' ∧ tl'.map tOf = tl.map tOf ∧ bs'.length ≤ k + 1 ∧ ∀ p ∈ tl', p.at_ ≤ k + 1) ?_).mono ?_
  · intro h1 F1 hs1 mv
    refine ⟨k_law13_task_Step, [.pointer (some ⟨q.tb, 0, none⟩)], by rw [hqt]; exact task_m _, task_b, ?_⟩
    obtain ⟨F1t, hs1t, ht1, hsub⟩ := hs1.tight
    have hT1 : TI h0 h1 K F1t s o1 o2 tl bs := (hT.moved mv).keep (Nat.le_refl _) (fun _ _ _ => rfl) (fun b hb => .inl (hsub b hb))
    have hel : (line.eraseIdx (p % (line.length : Int)).toNat).length ≤ line.length := by rw [List.length_eraseIdx]; split <;> omega
    have hqa := hat q (List.mem_of_getElem? hq)
    refine (gstep hs1t (by omega) hT1 ht1 hq (by omega) (by simp; omega) (by omega) (by omega)).mono ?_
    rintro v h2 ⟨rfl, F2, g1, g2⟩
    have hal := aft_line (ts.set (id - 1).toNat { x with n := x.n + 1 }) (line.eraseIdx (p % (line.length : Int)).toNat) id false (doOf q)
    have htl := told_len (ts.set (id - 1).toNat { x with n := x.n + 1 }) (line.eraseIdx (p % (line.length : Int)).toNat) id false (doOf q)
    refine ⟨_, F2, _, _, _, rfl, g1, ?_, by omega, hmid.aft false (doOf q), tn_aft _ _ _ _ _, _, _, g2, ?_, by rw [List.length_append]; omega, fun r hr => ?_⟩
    · rw [tn_len (tn_aft _ _ _ _ _)]; simp
    · apply List.ext_getElem?
      intro j
      have hql : (id - 1).toNat < tl.length := (List.getElem?_eq_some_iff.mp hq).1
      by_cases e : (id - 1).toNat = j
      · subst e; rw [List.getElem?_map, List.getElem?_set_self hql, List.getElem?_map, hq]; rfl
      · rw [List.getElem?_map, List.getElem?_set_ne e, List.getElem?_map]
    · rcases List.mem_or_eq_of_mem_set hr with hr | rfl
      · have := hat r hr; omega
      · show q.at_ + 1 ≤ k + 1; omega
  · rintro v h' ⟨st, F2, ts2, line2, w2, h2, ⟨m1, m2, tl', bs', m3, m4, m5, m6⟩, rfl, F', hs', mv⟩
    obtain ⟨f1, f2⟩ := m1.fin w2 st
    have ft := (tn_fin ts2 line2 w2 id st).trans m2
    have et : (finM ts2 line2 w2 id st).2.1.map TD.t = ts.map TD.t := by
      rw [← tn_t, ft, tn_t]
      apply List.ext_getElem?
      intro j
      by_cases e : (id - 1).toNat = j
      · subst e; rw [List.getElem?_map, List.getElem?_set_self hil, List.getElem?_map, hx]; rfl
      · rw [List.getElem?_map, List.getElem?_set_ne e, List.getElem?_map]
    have en : (finM ts2 line2 w2 id st).2.1.map TD.n = (ts.map TD.n).set (id - 1).toNat (x.n + 1) := by
      rw [← tn_n, ft, tn_n, List.map_set]
    have hxm : (ts.map TD.n)[(id - 1).toNat]? = some x.n := by rw [List.getElem?_map, hx]; rfl
    refine ⟨id, _, _, _, hid, rfl, ⟨⟨F', w2, tl', bs', hs', m3.moved mv, by rw [et, htt, m4], m5, m6⟩, ?_, f1, fun y hy => ?_, ?_⟩, f2.symm⟩
    · rw [tn_len ft]; simpa using hlen
    · rw [en] at hy
      rcases List.mem_or_eq_of_mem_set hy with hy | rfl
      · have := hS.nb y hy; omega
      · omega
    · have := hS.sum
      unfold sumN at this ⊢
      rw [tn_n] at this ⊢
      rw [en, sum_set _ _ _ _ hxm, this]
      omega
section
variable {h0 h h' : AH} {K : Nat → Prop} {s o1 o2 m k : Nat} {ts : List TD} {line : List Int}
theorem St.fr (hS : St h0 h K s o1 o2 m k ts line) (hf : Fr [] h h') : St h0 h' K s o1 o2 m k ts line := by
  obtain ⟨F, w, tl, bs, hs, hT, htt, hbs, hat⟩ := hS.ex
  exact ⟨⟨F, w, tl, bs, hs.fr hf, hT.fr hf, htt, hbs, hat⟩, hS.len, hS.good, hS.nb, hS.sum⟩
theorem St.rd (hS : St h0 h K s o1 o2 m k ts line) {a : Option Addr} {cs : List Value} (hr : Rd h0 a cs) (hk : cs ≠ [] → ∀ b, blk a b → K b) : Rd h a cs := by
  rcases Classical.em (cs = []) with rfl | hc
  · exact .inl rfl
  replace hk := hk hc
  obtain ⟨F, w, tl, bs, hs, hT, htt, hbs, hat⟩ := hS.ex
  exact rd_keep hr (fun b hb => (hT.kb b (hk b hb)).2) hT.n0
/-- one more slice that is kept -/
theorem St.more (hS : St h0 h K s o1 o2 m k ts line) (hf : Fr [] h h') {a : Option Addr} (hx : ∀ b, blk a b → h.n ≤ b ∧ b < h'.n) : St h' h' (fun b => K b ∨ blk a b) s o1 o2 m k ts line := by
  obtain ⟨F, w, tl, bs, hs, hT, htt, hbs, hat⟩ := hS.ex
  obtain ⟨F1, hs1, ht1, hsub⟩ := hs.tight
  have hT1 : TI h0 h K F1 s o1 o2 tl bs := hT.keep (Nat.le_refl _) (fun _ _ _ => rfl) (fun b hb => .inl (hsub b hb))
  have hT2 := hT1.fr hf
  have old : ∀ b, b < h.n → ¬ blk a b := fun b hb hx' => by have := (hx b hx').1; omega
  have hn := hf.n
  have hn0 := hT1.n0
  obtain ⟨ta, tn, tc, t1, t2, t3⟩ := hT1.told
  refine ⟨⟨F1, w, tl, bs, hs1.fr hf, ⟨Nat.le_refl _, fun b hb => ⟨?_, rfl⟩, fun b hb hk => ?_, ⟨ta, tn, tc, ?_, ?_, fun b hb => ?_⟩, hT2.bad, ⟨fun hk => ?_, hT2.o1o.2⟩, ⟨fun hk => ?_, hT2.o2o.2⟩, hT2.ne, fun p hp => ?_, fun p hp => ?_, hT2.nd⟩, htt, hbs, hat⟩, hS.len, hS.good, hS.nb, hS.sum⟩
  · rcases hb with hb | hb
    · have := (hT1.kb b hb).1; omega
    · exact (hx b hb).2
  · rcases hk with hk | hk
    · exact hT1.Fb b hb hk
    · exact old b (ht1 b hb) hk
  · rw [hf.g o1 hT1.o1o.2.1 (by simp)]; exact t1
  · exact t2.fr hf (by simp)
  · obtain ⟨k1, k2, k3⟩ := t3 b hb
    exact ⟨fun hk => by rcases hk with hk | hk; exact k1 hk; exact old b k2 hk, by omega, k3⟩
  · rcases hk with hk | hk
    · exact hT1.o1o.1 hk
    · exact old _ hT1.o1o.2.1 hk
  · rcases hk with hk | hk
    · exact hT1.o2o.1 hk
    · exact old _ hT1.o2o.2.1 hk
  · obtain ⟨k1, k2, k3, k4⟩ := hT2.tk p hp
    obtain ⟨_, j2, j3, _⟩ := hT1.tk p hp
    exact ⟨k1, fun hk => by rcases hk with hk | hk; exact k2 hk; exact old _ j3 hk, k3, k4⟩
  · obtain ⟨k1, k2, k3⟩ := hT2.ins p hp
    exact ⟨rd_keep k1 (fun b hb => (hT2.kb b (k2 b hb)).2) hT2.n0, fun b hb => .inl (k2 b hb), k3⟩
end
def Q : Value → AH → Prop := fun v _ => v = .bool true
/-- a state, and slices to be read in it -/
def Inv (h : AH) (s o1 o2 m k : Nat) (ts : List TD) (line : List Int) (rs : List (Option Addr × List Value)) : Prop := ∃ h0 K, St h0 h K s o1 o2 m k ts line ∧ ∀ r ∈ rs, Rd h0 r.1 r.2 ∧ (r.2 ≠ [] → ∀ b, blk r.1 b → K b)
section
variable {h : AH} {s o1 o2 m k : Nat} {ts : List TD} {line : List Int} {rs : List (Option Addr × List Value)}
theorem Inv.rd (hI : Inv h s o1 o2 m k ts line rs) {r : Option Addr × List Value} (hr : r ∈ rs) : Rd h r.1 r.2 := by
  obtain ⟨h0, K, hS, hR⟩ := hI
  exact hS.rd (hR r hr).1 (hR r hr).2
theorem Inv.less (hI : Inv h s o1 o2 m k ts line rs) {rs' : List (Option Addr × List Value)} (hr : ∀ r ∈ rs', r ∈ rs) : Inv h s o1 o2 m k ts line rs' := by
  obtain ⟨h0, K, hS, hR⟩ := hI
  exact ⟨h0, K, hS, fun r h => hR r (hr r h)⟩
theorem Inv.ready (hI : Inv h s o1 o2 m k ts line rs) (hm : m ≤ 20) : Ok (C k_sched_Sched_Ready [.pointer (some ⟨s, 0, none⟩)] h) fun v h' => ∃ a c, v = .slice a line.length c ∧ Inv h' s o1 o2 m k ts line ((a, line.flatMap encI) :: rs) := by
  obtain ⟨h0, K, hS, hR⟩ := hI
  obtain ⟨F, w, tl, bs, hs, hT, htt, hbs, hat⟩ := hS.ex
  have hgl := hS.good.len
  have hml := hS.len
  refine (ready_ok hs (by omega)).mono ?_
  rintro v h1 ⟨a, c, rfl, g1, g2, g3⟩
  by_cases hl : line = []
  · refine ⟨a, c, rfl, h0, K, hS.fr g2, fun r hr => ?_⟩
    rcases List.mem_cons.mp hr with rfl | hr
    · exact ⟨.inl (by rw [hl]; rfl), fun hc => absurd (by rw [hl]; rfl) hc⟩
    · exact hR r hr
  · have hlt : ∀ b, blk a b → b < h1.n := fun b hb => by
      rcases g1 with e | ⟨ad, c', op, ro, e, rfl, h2, h3, h4⟩
      · have := (List.flatMap_eq_nil_iff.mp e) (line.head hl) (List.head_mem hl)
        simp [encI] at this
      · obtain rfl : ad.block = b := hb
        exact h3
    refine ⟨a, c, rfl, h1, _, hS.more g2 (fun b hb => ⟨g3 b hb, hlt b hb⟩), fun r hr => ?_⟩
    rcases List.mem_cons.mp hr with rfl | hr
    · exact ⟨g1, fun _ b hb => .inr hb⟩
    · exact ⟨(hS.fr g2).rd (hR r hr).1 (hR r hr).2, fun hc b hb => .inl ((hR r hr).2 hc b hb)⟩
theorem Inv.pick (hI : Inv h s o1 o2 m k ts line rs) (hm : m ≤ 20) (hk : k < 300) {p : Int} (hp0 : 0 ≤ p) (hne : line ≠ []) :
    Ok (C k_sched_Sched_Pick [.pointer (some ⟨s, 0, none⟩), .int .u64 p] h) fun v h' => ∃ id st ts' line', line[(p % (line.length : Int)).toNat]? = some id ∧ v = .tuple #[.int .i64 id, .int .u8 st, .bool true] ∧ Inv h' s o1 o2 m (k + 1) ts' line' rs ∧ st = stOf ts' id := by
  obtain ⟨h0, K, hS, hR⟩ := hI
  refine (hS.pick hm hk hp0 hne).mono ?_
  rintro v h1 ⟨id, st, ts', line', g1, g2, g3, g4⟩
  exact ⟨id, st, ts', line', g1, g2, ⟨h0, K, g3, hR⟩, g4⟩
theorem Inv.status (hI : Inv h s o1 o2 m k ts line rs) (hm : m ≤ 20) (id : Int) : C k_sched_Sched_Status [.pointer (some ⟨s, 0, none⟩), .int .i64 id] h = some (.int .u8 (stOf ts id), h) := by
  obtain ⟨h0, K, hS, hR⟩ := hI
  obtain ⟨F, w, tl, bs, ⟨ta, tn, tc, la, ln, lc, hs, hF⟩, hT, htt, hbs, hat⟩ := hS.ex
  exact s_status hs id (by have := hS.len; omega)
theorem Inv.steps (hI : Inv h s o1 o2 m k ts line rs) (hm : m ≤ 20) (id : Int) : C k_sched_Sched_Steps [.pointer (some ⟨s, 0, none⟩), .int .i64 id] h = some (.int .i64 (nOf ts id), h) := by
  obtain ⟨h0, K, hS, hR⟩ := hI
  obtain ⟨F, w, tl, bs, ⟨ta, tn, tc, la, ln, lc, hs, hF⟩, hT, htt, hbs, hat⟩ := hS.ex
  exact s_steps hs id (by have := hS.len; omega)
theorem Inv.end_ (hI : Inv h s o1 o2 m k ts line rs) (hm : m ≤ 20) (a : Option Addr) (c : Nat) : Ok (law13_SchedSteps_j1 k k (some ⟨o2, 0, none⟩) h (some ⟨s, 0, none⟩) m a c) Q := by
  refine Ok.le ?_ law13_SchedSteps_j1_le
  obtain ⟨h0, K, hS, hR⟩ := id hI
  obtain ⟨F, w, tl, bs, hs, hT, htt, hbs, hat⟩ := hS.ex
  have e1 : h.ldB o2 0 = some false := AH.ldB_of hT.bad rfl
  have hgl := hS.good.both
  have hml := hS.len
  simp only [decide_true, cond_t, Option.bind_some, e1, Bool.not_false]
  refine Ok.bind (ready_ok hs (by omega)) ?_
  rintro _ h1 ⟨a', c', rfl, g1, g2, g3⟩
  simp only [asS_s, Option.bind_some]
  refine Ok.bind (blocked_ok (hs.fr g2) (by omega)) ?_
  rintro _ h2 ⟨a2, n2, c2, rfl, g4, g5, g6⟩
  have hn2 : n2 = (blkU ts ts.length).length := by have := g4.len; rw [flat_len encI_len] at this; omega
  simp only [asS_s, Option.bind_some]
  rw [wrap64 (by omega) (by omega), dec_t (by omega), cond_t]
  simp only [C_closed (show closedL.any (Nat.beq k_law13_awake) = true from rfl), Option.bind_some, asB_b]
  exact Ok.some rfl
end
def encP (x : Int) : List Value := [.int .u64 x]
theorem encP_len (x : Int) : (encP x).length = 1 := rfl
def WP (x : Int) : Prop := (Lit.int .u64 x).wf = true
theorem WP.b {x : Int} (h : WP x) : 0 ≤ x ∧ x ≤ 18446744073709551615 := by
  have h := h
  simp only [WP, Lit.wf, Bool.and_eq_true, decide_eq_true_eq] at h
  exact h
theorem rd_i {h : AH} {a : Option Addr} {l : List Int} (hr : Rd h a (l.flatMap encI)) {j : Nat} {x : Int} (hx : l[j]? = some x) : ∃ ad, a = some ad ∧ h.ldI .i64 ad.block (ad.off + j * 1) = some x := by
  have hj : j < l.length := (List.getElem?_eq_some_iff.mp hx).1
  obtain ⟨ad, had, hrd⟩ := hr.some (by
    intro he
    have := congrArg List.length he
    rw [flat_len encI_len] at this
    have h0 : l.length * 1 = 0 := this
    omega)
  refine ⟨ad, had, ?_⟩
  have := (hrd (j * 1 + 0)).1 .i64 x (by rw [flat_get_some encI_len (by omega) hx]; rfl)
  exact this
theorem rd_p {h : AH} {a : Option Addr} {l : List Int} (hr : Rd h a (l.flatMap encP)) {j : Nat} {x : Int} (hx : l[j]? = some x) : ∃ ad, a = some ad ∧ h.ldI .u64 ad.block (ad.off + j * 1) = some x := by
  have hj : j < l.length := (List.getElem?_eq_some_iff.mp hx).1
  obtain ⟨ad, had, hrd⟩ := hr.some (by
    intro he
    have := congrArg List.length he
    rw [flat_len encP_len] at this
    have h0 : l.length * 1 = 0 := this
    omega)
  refine ⟨ad, had, ?_⟩
  have := (hrd (j * 1 + 0)).1 .u64 x (by rw [flat_get_some encP_len (by omega) hx]; rfl)
  exact this
theorem Good.st1 {ts : List TD} {line : List Int} (hg : Good ts line) {x : Int} (hx : x ∈ line) : stOf ts x = 1 := by
  obtain ⟨h1, y, h2, h3⟩ := hg.2 x hx
  have hlt := (List.getElem?_eq_some_iff.mp h2).1
  unfold stOf
  rw [if_pos ⟨h1, by omega⟩, h2]; exact h3
theorem nOf_at {ts : List TD} {i : Nat} {x : Int} (hx : (ts.map TD.n)[i]? = some x) : nOf ts ((i : Int) + 1) = x := by
  have hlt := (List.getElem?_eq_some_iff.mp hx).1
  simp only [List.length_map] at hlt
  unfold nOf
  have e0 : ((i : Int) + 1 - 1).toNat = i := by omega
  rw [if_pos ⟨by omega, by omega⟩, e0]
  rw [List.getElem?_map] at hx
  cases hy : ts[i]? with
  | none => rw [hy] at hx; cases hx
  | some y => rw [hy] at hx; exact Option.some.inj hx
section
variable {s o1 o2 m k : Nat} {ts : List TD} {line : List Int} {rs : List (Option Addr × List Value)} {a15 : Option Addr} {c17 : Nat}
theorem L2_ok {h : AH} (hm : m ≤ 20) {i : Nat} (hi : i < m) {acc : Int} {a : Option Addr} {c : Nat} (hI : Inv h s o1 o2 m k ts line ((a, line.flatMap encI) :: rs)) (hg : Good ts line) (hlen : ts.length = m)
    (hc : Ok (law13_SchedSteps_j2 (some ⟨s, 0, none⟩) k (some ⟨o2, 0, none⟩) a15 m c17 acc m i h) Q) : ∀ (d j : Nat), line.length - j = d → j ≤ line.length → Ok (law13_SchedSteps_L2 i (some ⟨s, 0, none⟩) m k (some ⟨o2, 0, none⟩) a15 m c17 acc a line.length c (line.length : Nat) j h) Q := by
  have hgl := hg.len
  intro d
  induction d with
  | zero =>
    intro j hd hj
    obtain rfl : j = line.length := by omega
    refine Ok.le ?_ law13_SchedSteps_L2_le
    refine Ok.le ?_ law13_SchedSteps_j5_le
    rw [dec_f (by omega), cond_f]
    exact hc
  | succ d ih =>
    intro j hd hj
    refine Ok.le ?_ law13_SchedSteps_L2_le
    refine Ok.le ?_ law13_SchedSteps_j5_le
    rw [dec_t (by omega), cond_t]
    refine Ok.le ?_ law13_SchedSteps_j4_le
    obtain ⟨x, hx⟩ : ∃ x, line[j]? = some x := ⟨_, List.getElem?_eq_getElem (by omega)⟩
    obtain ⟨ad, rfl, e1⟩ := rd_i (hI.rd (r := (a, line.flatMap encI)) (by simp)) hx
    have hn : Ok (law13_SchedSteps_j3 i (some ⟨s, 0, none⟩) m k (some ⟨o2, 0, none⟩) a15 m c17 acc (some ad) line.length c (line.length : Nat) j h) Q := by
      refine Ok.le ?_ law13_SchedSteps_j3_le
      rw [wrap64 (by omega) (by omega)]
      exact ih (j + 1) (by omega) (by omega)
    simp only [Option.bind_some, inB_t (show (0 : Int) ≤ (j : Int) by omega) (show (j : Int) < (line.length : Nat) by omega), cond_t, Int.toNat_natCast, e1]
    by_cases c1 : x = IntKind.wrap .i64 ((i : Int) + 1)
    · simp only [dec_t c1, cond_t, hI.status hm, hg.st1 (List.mem_of_getElem? hx), Option.bind_some, asI_u8, decide_true, Bool.not_true, cond_f]
      exact hn
    · simp only [dec_f c1, cond_f]
      exact hn
theorem L1_ok (hm : m ≤ 20) (hk : k < 300) : ∀ (d i : Nat) (h : AH) (rs : List (Option Addr × List Value)), m - i = d → i ≤ m → Inv h s o1 o2 m k ts line rs → Good ts line → ts.length = m → (∀ x ∈ ts.map TD.n, 0 ≤ x ∧ x ≤ k) → (ts.map TD.n).sum = k →
    ∀ acc : Int, acc = ((ts.map TD.n).take i).sum → 0 ≤ acc → acc ≤ 300 * i → Ok (law13_SchedSteps_L1 (some ⟨s, 0, none⟩) k (some ⟨o2, 0, none⟩) a15 m c17 acc m i h) Q := by
  intro d
  induction d with
  | zero =>
    intro i h rs hd hi hI hg hlen hnb hsum acc hacc h0 h1
    obtain rfl : i = m := by omega
    refine Ok.le ?_ law13_SchedSteps_L1_le
    refine Ok.le ?_ law13_SchedSteps_j7_le
    rw [dec_f (by omega), cond_f]
    rw [List.take_of_length_le (by simp; omega), hsum] at hacc
    subst hacc
    exact hI.end_ hm _ _
  | succ d ih =>
    intro i h rs hd hi hI hg hlen hnb hsum acc hacc h0 h1
    refine Ok.le ?_ law13_SchedSteps_L1_le
    refine Ok.le ?_ law13_SchedSteps_j7_le
    rw [dec_t (by omega), cond_t]
    refine Ok.le ?_ law13_SchedSteps_j6_le
    obtain ⟨x, hx⟩ : ∃ x, (ts.map TD.n)[i]? = some x := ⟨_, List.getElem?_eq_getElem (by simp; omega)⟩
    have hxb := hnb x (List.mem_of_getElem? hx)
    rw [wrap64 (show -9223372036854775808 ≤ (i : Int) + 1 by omega) (by omega)]
    simp only [hI.steps hm, nOf_at hx, Option.bind_some, asI_i64]
    refine Ok.bind (hI.ready hm) ?_
    rintro _ h2 ⟨a, c, rfl, hI2⟩
    simp only [asS_s, Option.bind_some]
    rw [wrap64 (by omega) (by omega)]
    refine L2_ok hm (by omega) hI2 hg hlen ?_ _ 0 rfl (by omega)
    refine Ok.le ?_ law13_SchedSteps_j2_le
    rw [wrap64 (by omega) (by omega)]
    refine ih (i + 1) h2 _ (by omega) (by omega) hI2 hg hlen hnb hsum _ ?_ (by omega) (by omega)
    rw [List.take_add_one, hx, List.sum_append, hacc]
    simp
end
section
variable {s o1 o2 m k : Nat} {ts : List TD} {line : List Int} {rs : List (Option Addr × List Value)} {a15 : Option Addr} {c17 : Nat} {a4 : Option Addr} {c6 : Nat} {ps : List Int}
theorem L4_ok {h : AH} (hm : m ≤ 20) {i : Nat} {p : Int} (hp : ps[i]? = some p) (hp0 : 0 ≤ p) {line0 : List Int} (hl0 : line0.length ≤ m) {a : Option Addr} {c : Nat} {id st : Int} {steps : Int} (hI : Inv h s o1 o2 m k ts line rs) (hr1 : Rd h a (line0.flatMap encI)) (hr2 : Rd h a4 (ps.flatMap encP))
    (hid : line0[(p % (line0.length : Int)).toNat]? = some id) (hst : st = stOf ts id) (hc : Ok (law13_SchedSteps_j9 ps.length (some ⟨s, 0, none⟩) a4 (some ⟨o2, 0, none⟩) c6 a15 m c17 i steps h) Q) : ∀ (d j : Nat) (b : Bool), line0.length - j = d → j ≤ line0.length → ((p % (line0.length : Int)).toNat < j → b = true) →
    Ok (law13_SchedSteps_L4 a line0.length c st id i (some ⟨s, 0, none⟩) (some ⟨o2, 0, none⟩) a4 ps.length c6 a15 m c17 steps b (line0.length : Nat) j h) Q := by
  have hkl : (p % (line0.length : Int)).toNat < line0.length := (List.getElem?_eq_some_iff.mp hid).1
  have hil : i < ps.length := (List.getElem?_eq_some_iff.mp hp).1
  intro d
  induction d with
  | zero =>
    intro j b hd hj hb
    obtain rfl : j = line0.length := by omega
    refine Ok.le ?_ law13_SchedSteps_L4_le
    refine Ok.le ?_ law13_SchedSteps_j13_le
    rw [dec_f (by omega), cond_f]
    refine Ok.le ?_ law13_SchedSteps_j10_le
    obtain rfl := hb hkl
    obtain ⟨ad, rfl, e1⟩ := rd_p hr2 hp
    obtain ⟨ad2, rfl, e2⟩ := rd_i hr1 hid
    have hw1 : IntKind.wrap .u64 (line0.length : Int) = (line0.length : Int) := wrapu64 (by omega) (by omega)
    have hnn := Int.emod_nonneg p (show (line0.length : Int) ≠ 0 by omega)
    have hlt := Int.emod_lt_of_pos p (show (0 : Int) < line0.length by omega)
    have hmod : p.tmod (line0.length : Int) = p % (line0.length : Int) := Int.tmod_eq_emod_of_nonneg hp0
    simp only [Bool.not_true, cond_f, hI.status hm, Option.bind_some, asI_u8, hst, decide_true, inB_t (show (0 : Int) ≤ (i : Int) by omega) (show (i : Int) < (ps.length : Nat) by omega), cond_t, Int.toNat_natCast, e1, hw1, hmod, dec_f (show ¬(line0.length : Int) = 0 by omega), Bool.not_false, inB_t hnn (show p % (line0.length : Int) < (line0.length : Nat) by omega), e2]
    exact hc
  | succ d ih =>
    intro j b hd hj hb
    refine Ok.le ?_ law13_SchedSteps_L4_le
    refine Ok.le ?_ law13_SchedSteps_j13_le
    rw [dec_t (by omega), cond_t]
    refine Ok.le ?_ law13_SchedSteps_j12_le
    obtain ⟨x, hx⟩ : ∃ x, line0[j]? = some x := ⟨_, List.getElem?_eq_getElem (by omega)⟩
    obtain ⟨ad, rfl, e1⟩ := rd_i hr1 hx
    simp only [Option.bind_some, inB_t (show (0 : Int) ≤ (j : Int) by omega) (show (j : Int) < (line0.length : Nat) by omega), cond_t, Int.toNat_natCast, e1]
    cases b with
    | true =>
      rw [cond_t]
      refine Ok.le ?_ law13_SchedSteps_j11_le
      rw [wrap64 (by omega) (by omega)]
      exact ih (j + 1) true (by omega) (by omega) (fun _ => rfl)
    | false =>
      rw [cond_f]
      refine Ok.le ?_ law13_SchedSteps_j11_le
      rw [wrap64 (by omega) (by omega)]
      refine ih (j + 1) _ (by omega) (by omega) (fun hlt => ?_)
      have : (p % (line0.length : Int)).toNat = j := by
        rcases Nat.lt_or_ge (p % (line0.length : Int)).toNat j with h | h
        · have := hb h; cases this
        · omega
      rw [this, hx] at hid
      exact dec_t (Option.some.inj hid)
theorem L3_ok (hm : m ≤ 20) (hps : ∀ x ∈ ps, WP x) : ∀ (d i k : Nat) (h : AH) (ts : List TD) (line : List Int), 200 - i = d → i ≤ 200 → k ≤ i → Inv h s o1 o2 m k ts line [(a4, ps.flatMap encP)] →
    Ok (law13_SchedSteps_L3 ps.length (some ⟨s, 0, none⟩) a4 (some ⟨o2, 0, none⟩) c6 a15 m c17 k i h) Q := by
  have done : ∀ (k : Nat) (h : AH) (ts : List TD) (line : List Int), k ≤ 200 → Inv h s o1 o2 m k ts line [(a4, ps.flatMap encP)] → Ok (law13_SchedSteps_j8 (some ⟨s, 0, none⟩) k (some ⟨o2, 0, none⟩) a15 m c17 h) Q := by
    intro k h ts line hk hI
    refine Ok.le ?_ law13_SchedSteps_j8_le
    obtain ⟨h0, K, hS, hR⟩ := id hI
    have hsum := hS.sum
    unfold sumN at hsum
    rw [tn_n] at hsum
    exact L1_ok hm (by omega) m 0 h _ (by omega) (by omega) hI hS.good hS.len hS.nb hsum 0 (by simp) (by omega) (by omega)
  intro d
  induction d with
  | zero =>
    intro i k h ts line hd hi hk hI
    obtain rfl : i = 200 := by omega
    refine Ok.le ?_ law13_SchedSteps_L3_le
    rw [dec_f (show ¬(((200 : Nat) : Int) < 200) by omega), cond_f]
    cases (decide (((200 : Nat) : Int) < ((ps.length : Nat) : Int))) <;> exact done k h ts line (by omega) hI
  | succ d ih =>
    intro i k h ts line hd hi hk hI
    refine Ok.le ?_ law13_SchedSteps_L3_le
    by_cases c : (i : Int) < ((ps.length : Nat) : Int)
    · rw [dec_t c, cond_t, dec_t (show (i : Int) < 200 by omega), cond_t]
      refine Ok.le ?_ law13_SchedSteps_j16_le
      obtain ⟨h0, K, hS0, hR0⟩ := id hI
      have hgl := hS0.good.len
      have hml := hS0.len
      refine Ok.bind (hI.ready hm) ?_
      rintro _ h1 ⟨a, ca, rfl, hI1⟩
      obtain ⟨p, hp⟩ : ∃ p, ps[i]? = some p := ⟨_, List.getElem?_eq_getElem (by omega)⟩
      have hpb := (hps p (List.mem_of_getElem? hp)).b
      obtain ⟨ad, had, e1⟩ := rd_p (hI1.rd (r := (a4, ps.flatMap encP)) (by simp)) hp
      have had : a4 = some ad := had
      simp only [had, asS_s, Option.bind_some, inB_t (show (0 : Int) ≤ (i : Int) by omega) c, cond_t, Int.toNat_natCast, e1]
      by_cases hne : line = []
      · subst hne
        obtain ⟨h0', K', hS', hR'⟩ := id hI1
        obtain ⟨F, w, tl, bs, hs, _⟩ := hS'.ex
        simp only [pick_idle hs p (.inl rfl), Option.bind_some, asTu_t, hdO_c, asI_i64, asI_u8, asB_b, List.isEmpty_nil, cond_t, List.length_nil, dec_f (show ¬((0 : Int) < ((0 : Nat) : Int)) by omega), beq_self_eq_true, Bool.not_true, cond_f]
        refine Ok.le ?_ law13_SchedSteps_j15_le
        rw [Bool.not_false, cond_t]
        refine Ok.le ?_ law13_SchedSteps_j9_le
        rw [wrap64 (by omega) (by omega), ← had]
        exact ih (i + 1) k h1 ts [] (by omega) (by omega) (by omega) (hI1.less (by simp))
      · have hpos : 0 < line.length := List.length_pos_iff.mpr hne
        refine Ok.bind (hI1.pick hm (by omega) hpb.1 hne) ?_
        rintro _ h2 ⟨id, st, ts', line', q1, rfl, hI2, q3⟩
        simp only [Option.bind_some, asTu_t, hdO_c, asI_i64, asI_u8, asB_b, List.isEmpty_nil, cond_t, dec_t (show ((0 : Int) < ((line.length : Nat) : Int)) by omega), beq_self_eq_true, Bool.not_true, cond_f]
        refine Ok.le ?_ law13_SchedSteps_j15_le
        rw [Bool.not_true, cond_f]
        refine Ok.le ?_ law13_SchedSteps_j14_le
        rw [wrap64 (by omega) (by omega), ← had]
        refine L4_ok hm hp hpb.1 (by omega) hI2 (hI2.rd (r := (a, line.flatMap encI)) (by simp)) (hI2.rd (r := (a4, ps.flatMap encP)) (by simp)) q1 q3 ?_ _ 0 false rfl (by omega) (fun h => absurd h (by omega))
        refine Ok.le ?_ law13_SchedSteps_j9_le
        rw [wrap64 (by omega) (by omega)]
        exact ih (i + 1) (k + 1) h2 ts' line' (by omega) (by omega) (by omega) (hI2.less (by simp))
    · rw [dec_f c, cond_f]
      exact done k h ts line (by omega) hI
end
theorem Good.app {ts : List TD} {line : List Int} (hg : Good ts line) (x : TD) (hx : x.st = 1) : Good (ts ++ [x]) (line ++ [(ts.length : Int) + 1]) := by
  refine good_push ⟨hg.1, fun j hj => ?_⟩ (fun h => ?_) (by omega) ⟨x, ?_, hx⟩
  · obtain ⟨h1, y, h2, h3⟩ := hg.2 j hj
    exact ⟨h1, y, by rw [List.getElem?_append_left (List.getElem?_eq_some_iff.mp h2).1]; exact h2, h3⟩
  · obtain ⟨h1, y, h2, h3⟩ := hg.2 _ h
    have := (List.getElem?_eq_some_iff.mp h2).1
    omega
  · have e0 : ((ts.length : Int) + 1 - 1).toNat = ts.length := by omega
    rw [e0, List.getElem?_append_right (Nat.le_refl _)]; simp
section
variable {h0 h h' : AH} {K : Nat → Prop} {s o1 o2 m k : Nat} {ts : List TD} {line : List Int}
theorem St.add (hS : St h0 h K s o1 o2 m 0 ts line) (hm : m < 20) {x : Inn DoR} (hx : Rd h0 x.a (x.l.flatMap encDo)) (hxk : ∀ b, blk x.a b → K b) (hxn : x.n = x.l.length) :
    Ok (C k_sched_Sched_Add [.pointer (some ⟨s, 0, none⟩), ifV (some (y_P_law13_task, .pointer (some ⟨h.n, 0, none⟩)))] (h.push (.cells [.pointer (some ⟨s, 0, none⟩), .slice x.a x.n x.c, .int .i64 0, .pointer (some ⟨o1, 0, none⟩), .pointer (some ⟨o2, 0, none⟩)] false false 5))) fun v h' => v = .tuple #[.int .i64 ((m : Int) + 1), .int .i64 0] ∧ ∃ ts' line', St h0 h' K s o1 o2 (m + 1) 0 ts' line' := by
  obtain ⟨F, w, tl, bs, hs, hT, htt, hbs, hat⟩ := hS.ex
  obtain ⟨F1, hs1, ht1, hsub⟩ := hs.tight
  have hT1 : TI h0 h K F1 s o1 o2 tl bs := hT.keep (Nat.le_refl _) (fun _ _ _ => rfl) (fun b hb => .inl (hsub b hb))
  have hgl := hS.good.len
  have hml := hS.len
  let p : TK := ⟨h.n, x.a, x.n, x.c, x.l, 0⟩
  have hf : Fr [] h (h.push (.cells (tkG s o1 o2 p) false false 5)) := Fr.push _ _ _
  have hpn : (h.push (.cells (tkG s o1 o2 p) false false 5)).n = h.n + 1 := rfl
  refine (add_ok (hs1.fr hf) (y_P_law13_task, .pointer (some ⟨h.n, 0, none⟩)) (by omega) (by omega)).mono ?_
  intro v h1 hv
  rw [if_neg (by have := openN_le ts; omega)] at hv
  obtain ⟨rfl, F2, hs2, mv⟩ := hv
  have hT2 : TI h0 h1 K F2 s o1 o2 tl bs := (hT1.fr hf).moved mv
  have hmn := mv.n
  have hn0 := hT1.n0
  have hnF : ¬ F1 h.n := fun hf' => by have := ht1 _ hf'; omega
  have hpg : h1.get h.n = some (.cells (tkG s o1 o2 p) false false 5) := by rw [mv.g h.n (by omega) hnF]; exact AH.get_push_eq _ _
  have hnF2 : ¬ F2 h.n := mv.keep (by omega) hnF
  refine ⟨by rw [hml], _, _, ⟨⟨F2, w, tl ++ [p], bs, hs2, ⟨hT2.n0, hT2.kb, hT2.Fb, ?_, hT2.bad, hT2.o1o, hT2.o2o, hT2.ne, fun q hq => ?_, fun q hq => ?_, ?_⟩, ?_, hbs, fun q hq => ?_⟩, by simp [hml], hS.good.app _ rfl, fun y hy => ?_, ?_⟩⟩
  · obtain ⟨ta, tn, tc, t1, t2, t3⟩ := hT2.told
    obtain ⟨ta', tn', tc', t1', t2', t3'⟩ := hT1.told
    have e : h1.get o1 = h.get o1 := by
      have := hT1.o1o.2.1
      rw [mv.g o1 (by omega) hT1.o1o.2.2, AH.get_push_ne _ (by omega)]
    rw [e, t1'] at t1
    simp only [Option.some.injEq, Blk.cells.injEq, List.cons.injEq, Value.slice.injEq, and_true] at t1
    obtain ⟨rfl, rfl, rfl⟩ := t1
    refine ⟨ta', tn', tc', by rw [e]; exact t1', t2, fun b hb => ?_⟩
    obtain ⟨k1, k2, k3, k4, k5, k6⟩ := t3 b hb
    refine ⟨k1, k2, k3, k4, k5, fun q hq => ?_⟩
    rcases List.mem_append.mp hq with hq | hq
    · exact k6 q hq
    · simp only [List.mem_cons, List.not_mem_nil, or_false] at hq
      subst hq
      have := (t3' b hb).2.1
      show b ≠ h.n; omega
  · rcases List.mem_append.mp hq with hq | hq
    · exact hT2.tk q hq
    · simp only [List.mem_cons, List.not_mem_nil, or_false] at hq
      subst hq
      refine ⟨hpg, fun hk => ?_, by show h.n < h1.n; omega, hnF2, by have := hT1.o1o.2.1; show h.n ≠ o1; omega, by have := hT1.o2o.2.1; show h.n ≠ o2; omega⟩
      have := (hT1.kb _ hk).1
      have hpt : p.tb = h.n := rfl
      omega
  · rcases List.mem_append.mp hq with hq | hq
    · exact hT2.ins q hq
    · simp only [List.mem_cons, List.not_mem_nil, or_false] at hq
      subst hq
      exact ⟨hx, hxk, hxn⟩
  · rw [List.map_append, List.nodup_append]
    refine ⟨hT2.nd, by simp, fun a ha b hb => ?_⟩
    obtain ⟨q, hq, rfl⟩ := List.mem_map.mp ha
    simp at hb
    have := (hT1.tk q hq).2.2.1
    have hpt : p.tb = h.n := rfl
    omega
  · rw [List.map_append, List.map_append, htt]; rfl
  · rcases List.mem_append.mp hq with hq | hq
    · exact hat q hq
    · simp only [List.mem_cons, List.not_mem_nil, or_false] at hq
      subst hq; exact Nat.le_refl _
  · rw [List.map_append] at hy
    rcases List.mem_append.mp hy with hy | hy
    · exact hS.nb y hy
    · simp at hy; subst hy; omega
  · have := hS.sum
    unfold sumN at this ⊢
    rw [tn_n] at this ⊢
    rw [List.map_append, List.sum_append, this]
    simp
end
theorem L5_ok {h0 : AH} {s o1 o2 : Nat} {ls : List (Inn DoR)} {a15 : Option Addr} {c17 : Nat} {a4 : Option Addr} {c6 : Nat} {ps : List Int} (hm : ls.length ≤ 20) (hps : ∀ x ∈ ps, WP x) (hr : Rd h0 a15 (ls.flatMap encInn)) (ha : ∀ b, blk a15 b → b < h0.n)
    (hin : ∀ x ∈ ls, Rd h0 x.a (x.l.flatMap encDo) ∧ (∀ b, blk x.a b → b < h0.n) ∧ x.n = x.l.length) (hp : Rd h0 a4 (ps.flatMap encP)) (hpa : ∀ b, blk a4 b → b < h0.n) : ∀ (d i : Nat) (h : AH) (ts : List TD) (line : List Int), ls.length - i = d → i ≤ ls.length → St h0 h (fun b => b < h0.n) s o1 o2 i 0 ts line →
    Ok (law13_SchedSteps_L5 a15 ls.length (some ⟨s, 0, none⟩) (some ⟨o1, 0, none⟩) (some ⟨o2, 0, none⟩) a4 ps.length c6 c17 (ls.length : Nat) i h) Q := by
  intro d
  induction d with
  | zero =>
    intro i h ts line hd hi hS
    obtain rfl : i = ls.length := by omega
    refine Ok.le ?_ law13_SchedSteps_L5_le
    refine Ok.le ?_ law13_SchedSteps_j20_le
    rw [dec_f (by omega), cond_f]
    refine Ok.le ?_ law13_SchedSteps_j17_le
    exact L3_ok hm hps 200 0 0 h ts line (by omega) (by omega) (by omega) ⟨h0, _, hS, fun r hr => by
      simp only [List.mem_cons, List.not_mem_nil, or_false] at hr
      subst hr
      exact ⟨hp, fun _ => hpa⟩⟩
  | succ d ih =>
    intro i h ts line hd hi hS
    refine Ok.le ?_ law13_SchedSteps_L5_le
    refine Ok.le ?_ law13_SchedSteps_j20_le
    rw [dec_t (by omega), cond_t]
    refine Ok.le ?_ law13_SchedSteps_j19_le
    obtain ⟨x, hx⟩ : ∃ x, ls[i]? = some x := ⟨_, List.getElem?_eq_getElem (by omega)⟩
    obtain ⟨i1, i2, i3⟩ := hin x (List.mem_of_getElem? hx)
    obtain ⟨ad, had, hrd⟩ := (hS.rd hr (fun _ => ha)).some (by
      intro he
      have := congrArg List.length he
      rw [flat_len encInn_len] at this
      have h0 : ls.length * 1 = 0 := this
      omega)
    have e1 : h.ldS ad.block (ad.off + i * 1) = some (x.a, x.n, x.c) := by
      have := (hrd (i * 1 + 0)).2.2.2.2 x.a x.n x.c (by rw [flat_get_some encInn_len (by omega) hx]; rfl)
      exact this
    simp only [had, Option.bind_some, inB_t (show (0 : Int) ≤ (i : Int) by omega) (show (i : Int) < (ls.length : Nat) by omega), cond_t, Int.toNat_natCast, e1]
    refine Ok.bind (hS.add (by omega) i1 i2 i3) ?_
    rintro _ h1 ⟨rfl, ts', line', hS1⟩
    simp only [asTu_t, hdO_c, asI_i64, Option.bind_some, List.isEmpty_nil, cond_t, decide_true, Bool.not_true, cond_f]
    refine Ok.le ?_ law13_SchedSteps_j18_le
    rw [wrap64 (by omega) (by omega), ← had]
    exact ih (i + 1) h1 ts' line' (by omega) (by omega) hS1
theorem cut_ok {h : AH} {a : Option Addr} {n c : Nat} {ls : List (Inn DoR)} (s1 : SlIn2 h encDo (fun _ => True) a n c ls) : ∃ a' c', slcE 1 a n c none (some (.int .i64 (cond (decide (20 < ((n : Nat) : Int))) 20 ((n : Nat) : Int)))) none h = some (.slice a' (ls.take 20).length c', h) ∧ Rd h a' ((ls.take 20).flatMap encInn) ∧ (∀ b, blk a' b → b < h.n) := by
  have hn := s1.len
  have hlen : (ls.take 20).length = min 20 n := by rw [List.length_take, hn]
  have hv : cond (decide (20 < ((n : Nat) : Int))) 20 ((n : Nat) : Int) = (((ls.take 20).length : Nat) : Int) := by
    by_cases c1 : (20 : Int) < (n : Int)
    · rw [dec_t c1, cond_t, hlen]; omega
    · rw [dec_f c1, cond_f, hlen]; omega
  rw [hv]
  cases a with
  | none =>
    obtain ⟨rfl, rfl⟩ := s1.nil rfl
    have hz : (ls.take 20).length = 0 := by omega
    rw [hz]
    have hz' : ls.take 20 = [] := List.eq_nil_of_length_eq_zero hz
    refine ⟨none, 0, ?_, .inl (by rw [hz']; rfl), fun b hb => hb.elim⟩
    simp only [slcE, Nat.beq_refl, Bool.and_self, cond_t]
    rw [bnd (k := 0) rfl (Nat.le_refl _), bnd0]
  | some ad =>
    refine ⟨some ⟨ad.block, ad.off + cond (Nat.beq 0 c) 0 (0 * 1), none⟩, c - 0, ?_, ?_, fun b hb => s1.lt b hb⟩
    · have hc := s1.cap
      have hle := s1.le
      simp only [slcE, blt_small (show c < 4611686018427387904 by omega), cond_t]
      rw [bnd rfl (by rw [hlen]; omega), bnd0, Nat.sub_zero]
    · have ho : ad.off + cond (Nat.beq 0 c) 0 (0 * 1) = ad.off := by cases Nat.beq 0 c <;> rfl
      rw [ho]
      have hsplit : ls.flatMap encInn = (ls.take 20).flatMap encInn ++ (ls.drop 20).flatMap encInn := by rw [← List.flatMap_append, List.take_append_drop]
      rcases s1.rd with e | ⟨ad', cc, op, ro, e, had, h1, h2, h3⟩
      · rw [hsplit] at e
        exact .inl (List.append_eq_nil_iff.mp e).1
      · obtain rfl := Option.some.inj had
        refine .inr ⟨_, cc, op, ro, e, rfl, h1, h2, fun k v hk => ?_⟩
        refine h3 k v ?_
        rw [hsplit, List.getElem?_append_left (List.getElem?_eq_some_iff.mp hk).1]
        exact hk
theorem main (h : AH) {a : Option Addr} {n c : Nat} {ls : List (Inn DoR)} (s1 : SlIn2 h encDo (fun _ => True) a n c ls) {a2 : Option Addr} {n2 c2 : Nat} {ps : List Int} (s2 : SlIn h encP WP a2 n2 c2 ps) : Ok (C k_law13_SchedSteps [.slice a n c, .slice a2 n2 c2] h) Q := by
  refine Ok.le ?_ law13_SchedSteps_le
  obtain ⟨a', c', e1, e2, e3⟩ := cut_ok s1
  have hn2 := s2.len
  subst hn2
  let h10 := h.push (.cells [.slice none 0 0] false false 1)
  have hn10 : h10.n = h.n + 1 := rfl
  obtain ⟨h12, b1, b2, b3, b4⟩ := push_st h10 [.bool false] [.bool false] 1 rfl
  simp only [h10] at b1
  have f12 : Fr [] h h12 := (Fr.push [] h _).trans b3
  let h13 := h12.push (.cells [.bool true, .slice none 0 0, .slice none 0 0, .int .i64 0, .bool false] false false 5)
  have f13 : Fr [] h h13 := f12.trans (Fr.push [] _ _)
  simp only [F_law13_SchedSteps, e1, Option.bind_some, asS_s, b1, sched_New_le _ rfl, asP_p, Option.isNone_some, cond_f]
  refine Ok.le ?_ law13_SchedSteps_j21_le
  have hS : St h h13 (fun b => b < h.n) h12.n h.n h10.n 0 0 [] [] := by
    refine ⟨⟨fun b => b = h12.n, false, [], [], new_sch h12, ⟨f13.n, fun b hb => ⟨hb, f13.g b hb (by simp)⟩, fun b hb hk => ?_, ⟨none, 0, 0, ?_, .nil, fun b hb => hb.elim⟩, ?_, ⟨by omega, ?_, by omega⟩, ⟨by omega, ?_, by omega⟩, by omega, fun p hp => by simp at hp, fun p hp => by simp at hp, by simp⟩, rfl, Nat.le_refl _, fun p hp => by simp at hp⟩, rfl, ⟨by simp, fun j hj => by simp at hj⟩, fun x hx => by simp at hx, rfl⟩
    · subst hb; omega
    · have : h13.get h.n = h12.get h.n := AH.get_push_ne _ (by omega)
      rw [this, b3.g h.n (by omega) (by simp)]; exact AH.get_push_eq _ _
    · have : h13.get h10.n = h12.get h10.n := AH.get_push_ne _ (by omega)
      rw [this]; exact b2
    · show h.n < h12.n + 1; omega
    · show h10.n < h12.n + 1; omega
  have hll : (ls.take 20).length ≤ 20 := by rw [List.length_take]; omega
  exact L5_ok hll s2.good e2 e3 (fun x hx => by
    have := s1.each x (List.mem_of_mem_take hx)
    exact ⟨this.rd, this.lt, this.len⟩) s2.rd s2.lt _ 0 h13 [] [] rfl (by omega) hS
end Go.Lg.Try
