/- A region that draws its order: soundness. -/
import Derived.Test.YtciiigaagggefaaEv19
namespace Go.Lg
open Go

theorem evD_evOps {P : Program} {O : Orc} {nt : Nat} {ops : List Oper} {bits : List Nat} : ∀ (l : List Oper) (i : Nat) (tm : T Value) (h : AH) (pend : List Pend) (K : T Value → AH → Res), (∀ o ∈ l, isEff o = false) →
    evD P O nt ops bits l i tm h [] pend K = evOps P O nt ops l tm h K
  | [], _, _, _, _, _, _ => rfl
  | o :: rest, i, tm, h, pend, K, hn => by
    have ho := hn o (by simp)
    have ih := fun i tm h pend => evD_evOps (P := P) (O := O) (nt := nt) (ops := ops) (bits := bits) rest i tm h pend K fun x hx => hn x (by simp [hx])
    have run : ∀ tm, (cond (isPure o.op) (evOpX P O tm o.type o.op h fun v _ => put nt tm o.dst v fun tm => evD P O nt ops bits rest (i + 1) tm h [] pend K)
      (cond (isRead o.op)
        (evOp P O tm o.op h fun v _ => reck P O tm o.op v (([] : List AH).take (([] : List AH).length - cN (fun k => effAt ops k && (bits.getD i 0).testBit k) i))
          (put nt tm o.dst v fun tm' => evD P O nt ops bits rest (i + 1) tm' h [] (⟨i, o.op, tm, v⟩ :: pend) K))
        (evOpX P O tm o.type o.op h fun v h' => recheck P O (bits.getD i 0) h' pend (put nt tm o.dst v fun tm => evD P O nt ops bits rest (i + 1) tm h' (h :: []) pend K)))) =
        evOpX P O tm o.type o.op h fun v h => put nt tm o.dst v fun tm => evOps P O nt ops rest tm h K := by
      intro tm
      cases hp : isPure o.op with
      | true =>
        rw [cond_true, opX_pure hp h h (fun v h => put nt tm o.dst v fun tm => evOps P O nt ops rest tm h K)]
        simp only [ih]
      | false =>
        cases hr : isRead o.op with
        | true =>
          rw [cond_false, cond_true, opX_read hr, read_shift hr h (fun v h => put nt tm o.dst v fun tm => evOps P O nt ops rest tm h K)]
          simp only [List.take_nil, reck, ih]
        | false => simp [isEff, hp, hr] at ho
    have skip : ∀ tm, (cond (isEff o) (recheck P O (bits.getD i 0) h pend (put nt tm o.dst (some skipV) fun tm => evD P O nt ops bits rest (i + 1) tm h (h :: []) pend K))
        (put nt tm o.dst (some skipV) fun tm => evD P O nt ops bits rest (i + 1) tm h [] pend K)) = put nt tm o.dst (some skipV) fun tm => evOps P O nt ops rest tm h K := by
      intro tm
      rw [ho, cond_false]
      simp only [ih]
    simp only [evD, evOps, run, skip]
    cases o.guard with
    | none => rfl
    | some p =>
      obtain ⟨j, want⟩ := p
      simp only
      cases (ops[j]?).bind (·.dst) with
      | none => rfl
      | some d =>
        simp only
        cases tm.get d with
        | none => rfl
        | some v => cases v <;> rfl

section
variable {P : Program} {O : Orc} {nt : Nat} {ops : Array Oper}

theorem Lof_set {listed : Array Bool} {i k : Nat} (hi : i < listed.size) : Lof (listed.setIfInBounds i true) k = (Lof listed k || decide (k = i)) := by
  unfold Lof
  by_cases e : k = i
  · subst e; simp [hi]
  · simp [Array.getElem?_setIfInBounds_ne (Ne.symm e), e]

theorem cN_set {p q : Nat → Bool} {i : Nat} : ∀ {n : Nat}, i < n → p i = false → q i = true → (∀ k, k < n → k ≠ i → q k = p k) → cN q n = cN p n + 1
  | 0, h, _, _, _ => by omega
  | n + 1, h, hp, hq, he => by
    simp only [cN]
    by_cases e : i = n
    · subst e
      rw [cN_congr (p := q) (q := p) (n := i) fun k hk => he k (by omega) (by omega), hp, hq]
      rfl
    · rw [cN_set (n := n) (by omega) hp hq fun k hk => he k (by omega), he n (by omega) (Ne.symm e)]
      omega

structure LInv (P : Program) (O : Orc) (nt : Nat) (ops : Array Oper) (bits : List Nat) (φ0 : Emb) (w0 : World) (a0 : Act) (tms : Nat → T Value) (res : Nat → Option Value) (hE : Nat → AH) (listed : Array Bool) (φ : Emb) (a : Act) (w : World) : Prop where
  size : listed.size = ops.size
  closed : Closed ops listed
  good : Good φ0 w0 (hE (cN (fun k => effAt ops.toList k && Lof listed k) ops.size)) w φ
  tsize : a.tmps.size = nt
  temps : ∀ t v, curN (dstAt ops) res (Lof listed) t ((tms 0).get t) ops.size = some v → ∃ c, a.tmps[t]? = some c ∧ VR φ v c
  defers : a.defers = a0.defers

theorem canon {bits : List Nat} {tms : Nat → T Value} {res : Nat → Option Value} {wn : Nat → Bool} {hE : Nat → AH} (ht : Trace P O nt ops.toList bits 0 tms res wn hE) (t : Nat) : ∀ i, i ≤ ops.size → (tms i).get t = curN (dstAt ops) res (fun _ => true) t ((tms 0).get t) i
  | 0, _ => rfl
  | i + 1, hi => by
    have ho : ops.toList[i]? = some ops[i] := by rw [Array.getElem?_toList]; exact Array.getElem?_eq_getElem (by omega)
    have := (ht.put i ops[i] (Nat.zero_le _) ho).2 t
    have hd : dstAt ops i = ops[i].dst := by simp [dstAt, Array.getElem?_eq_getElem (show i < ops.size by omega)]
    rw [this]
    simp only [curN, true_and, hd]
    rw [canon ht t i (by omega)]

theorem lin {bits : List Nat} (hs : Stat ops bits) (hO : CallsOK P O) {φ0 : Emb} {w0 : World} {a0 : Act} {tms : Nat → T Value} {res : Nat → Option Value} {wn : Nat → Bool} {hE : Nat → AH} (ht : Trace P O nt ops.toList bits 0 tms res wn hE) {Q : Exit → Act → World → Prop}
    (hfin : ∀ φ a w, Good φ0 w0 (hE (cN (effAt ops.toList) ops.size)) w φ → TR φ (tms ops.size) nt a.tmps → a.defers = a0.defers → Q .normal a w) :
    ∀ (fuel : Nat) (listed : Array Bool) (φ : Emb) (a : Act) (w : World), LInv P O nt ops bits φ0 w0 a0 tms res hE listed φ a w → cN (fun k => !Lof listed k) ops.size ≤ fuel → wpAny P .any ops Q fuel listed a w := by
  have hsizeL : ops.toList.length = ops.size := by simp
  -- the end
  have done : ∀ listed φ a w, LInv P O nt ops bits φ0 w0 a0 tms res hE listed φ a w → (∀ k, k < ops.size → Lof listed k = true) → Q .normal a w := by
    intro listed φ a w hi hall
    refine hfin φ a w ?_ ⟨hi.tsize, fun t v hv => hi.temps t v ?_⟩ hi.defers
    · rw [← cN_congr (p := fun k => effAt ops.toList k && Lof listed k) (n := ops.size) fun k hk => by rw [hall k hk, Bool.and_true]]; exact hi.good
    · rw [← hv, canon ht t ops.size (Nat.le_refl _)]
      exact curN_congr fun k hk _ => hall k hk
  have ready_all : ∀ listed, listed.size = ops.size → Closed ops listed → Region.ready .any ops listed = [] → ∀ k, k < ops.size → Lof listed k = true := by
    intro listed hsz hc hr k
    induction k using Nat.strongRecOn with
    | _ k ih =>
      intro hk
      cases hL : Lof listed k with
      | true => rfl
      | false =>
        exfalso
        have : k ∈ Region.ready .any ops listed := by
          rw [mem_ready]
          refine ⟨?_, ops[k], Array.getElem?_eq_getElem hk, fun e he hb => ?_⟩
          · unfold Lof at hL
            have hlt : k < listed.size := by omega
            simp [hlt] at hL ⊢
            exact hL
          · have hed := mem_edges he hb
            exact ih e.on (hs.edges k _ (Array.getElem?_eq_getElem hk) _ hed) (by have := hs.edges k _ (Array.getElem?_eq_getElem hk) _ hed; omega)
        rw [hr] at this
        cases this
  intro fuel
  induction fuel with
  | zero =>
    intro listed φ a w hi hf
    have hall : ∀ k, k < ops.size → Lof listed k = true := by
      intro k hk
      cases hL : Lof listed k with
      | true => rfl
      | false =>
        exfalso
        have h1 : cN (fun j => !Lof listed j) ops.size ≥ 1 := by
          have := cN_set (p := fun _ => false) (q := fun j => decide (j = k)) (i := k) hk rfl (by simp) (fun j _ hj => by simp [hj])
          have hle := cN_le (p := fun j => decide (j = k)) (q := fun j => !Lof listed j) (n := ops.size) fun j _ hj => by
            simp only [decide_eq_true_eq] at hj; subst hj; simp [hL]
          omega
        omega
    refine ⟨?_, done listed φ a w hi hall⟩
    cases hr : Region.ready .any ops listed with
    | nil => rfl
    | cons x xs =>
      exfalso
      have hx : x ∈ Region.ready .any ops listed := by rw [hr]; simp
      obtain ⟨h1, o, ho, _⟩ := mem_ready.1 hx
      have hxs : x < ops.size := (Array.getElem?_eq_some_iff.1 ho).1
      have := hall x hxs
      unfold Lof at this
      have hlt : x < listed.size := by rw [hi.size]; exact hxs
      simp [hlt] at h1 this
      rw [h1] at this; cases this
  | succ fuel ih =>
    intro listed φ a w hi hf
    refine ⟨fun hr => done listed φ a w hi (ready_all listed hi.size hi.closed hr), fun i hir => ?_⟩
    obtain ⟨hunD, o, ho, hedges⟩ := mem_ready.1 hir
    have hisz : i < ops.size := (Array.getElem?_eq_some_iff.1 ho).1
    have hil : i < listed.size := by rw [hi.size]; exact hisz
    have hun : Lof listed i = false := by
      unfold Lof
      simp [hil] at hunD ⊢
      exact hunD
    have hready : ∀ e ∈ edgesOf o, Lof listed e = true := by
      intro e he
      obtain ⟨ed, h1, h2, rfl⟩ := edges_mem he
      exact hedges ed h1 h2
    have hnext := next_of hs hi.closed ho hun hready
    have gi : ops.toList[i]? = some o := by rw [Array.getElem?_toList]; exact ho
    have hdi : dstAt ops i = o.dst := by simp [dstAt, ho]
    -- slots that it looks at are as in the text's order
    have slot : ∀ t, t ∈ looks ops.toList o → (tms i).get t = curN (dstAt ops) res (Lof listed) t ((tms 0).get t) ops.size := by
      intro t htl
      rw [canon ht t i (by omega)]
      have h1 : curN (dstAt ops) res (Lof listed) t ((tms 0).get t) ops.size = curN (dstAt ops) res (fun k => decide (k < i)) t ((tms 0).get t) ops.size :=
        curN_congr fun k hk hd => by
          by_cases e : k = i
          · subst e; rw [hun]; simp
          · exact hnext.writers k t hk hd (.inl htl) e
      rw [h1, curN_tail (L := fun k => decide (k < i)) (m := i) (n := ops.size) (by omega) fun k h1 _ _ => by simp; omega]
      exact curN_congr fun k hk _ => by simp [hk]
    have htr : TR φ (scrub (tms i) (looks ops.toList o)) nt a.tmps := ⟨hi.tsize, fun t v hv => by
      obtain ⟨h1, h2⟩ := scrub_mem _ _ _ _ hv
      exact hi.temps t v (by rw [← slot t h1]; exact h2)⟩
    have hopv : ∀ x ∈ o.op.operands, opv (tms i) x = opv (scrub (tms i) (looks ops.toList o)) x := by
      intro x hx
      cases x with
      | tmp t => simp only [opv]; exact (scrub_get_mem _ _ _ (looks_mem hx)).symm
      | _ => rfl
    -- the guard
    have hwant : Region.wanted o (yielded ops a.tmps) = wn i := by
      have := ht.guard i o (Nat.zero_le _) gi
      cases hg : o.guard with
      | none => rw [hg] at this; simp [Region.wanted, hg, this]
      | some gw =>
        obtain ⟨j, want⟩ := gw
        rw [hg] at this
        obtain ⟨d, v, h1, h2, h3⟩ := this
        have hdl : d ∈ looks ops.toList o := looks_guard hg h1
        obtain ⟨c, h4, h5⟩ := hi.temps d v (by rw [← slot d hdl]; exact h2)
        have h1' : (ops[j]?).bind (·.dst) = some d := by rw [← h1, Array.getElem?_toList]
        unfold wantV at h3
        split at h3
        · rename_i b
          obtain rfl := vr_bool h5
          have hy : yielded ops a.tmps j = some b := by simp [yielded, h1', h4]
          simp [Region.wanted, hg, hy, Option.some.inj h3]
        · cases h5 with
          | tuple _ _ => simp [Region.wanted, hg, yielded, h1', h4, ← Option.some.inj h3]
        · cases h3
    have hset : ∀ k, Lof (listed.setIfInBounds i true) k = (Lof listed k || decide (k = i)) := fun k => Lof_set hil
    have hput := ht.put i o (Nat.zero_le _) gi
    -- how many memories
    have he1 : isEff o = true → cN (fun k => effAt ops.toList k && Lof listed k) ops.size = cN (effAt ops.toList) i := by
      intro he
      have h1 := cN_congr (p := fun k => effAt ops.toList k && Lof listed k) (q := fun k => effAt ops.toList k && decide (k < i)) (n := ops.size) fun k hk => by
        by_cases e : k = i
        · subst e; rw [hun]; simp
        · cases hk2 : effAt ops.toList k with
          | false => rfl
          | true => rw [hnext.effs he k hk hk2 e]
      rw [h1, cN_tail (m := i) (by omega) fun k h1 _ => by simp; omega]
      exact cN_congr fun k hk => by simp [hk]
    have he2 : cN (fun k => effAt ops.toList k && Lof (listed.setIfInBounds i true) k) ops.size = cN (fun k => effAt ops.toList k && Lof listed k) ops.size + cond (isEff o) 1 0 := by
      cases he : isEff o with
      | true =>
        exact cN_set (i := i) hisz (by simp [hun]) (by simp [hset, effAt_eq ho, he]) fun k _ hk => by simp [hset, hk]
      | false =>
        refine cN_congr fun k hk => ?_
        by_cases e : k = i
        · subst e; simp [effAt_eq ho, he]
        · simp [hset, e]
    -- the invariant behind it
    have step : ∀ φ' w' c, Good φ w (hE (cN (fun k => effAt ops.toList k && Lof (listed.setIfInBounds i true) k) ops.size)) w' φ' → (∀ x, res i = some x → VR φ' x c) → wpAny P .any ops Q fuel (listed.setIfInBounds i true) (a.put o.dst c) w' := by
      intro φ' w' c hg hv
      refine ih _ φ' _ w' ⟨by simp [hi.size], ?_, hi.good.trans hg, ?_, ?_, (put_defers _ _ _).trans hi.defers⟩ ?_
      · intro k o' hk ho' e he
        rw [hset] at hk ⊢
        by_cases ek : k = i
        · subst ek
          rw [ho] at ho'
          obtain rfl := Option.some.inj ho'
          rw [hready e he]; rfl
        · simp only [ek, decide_false, Bool.or_false] at hk
          rw [hi.closed k o' hk ho' e he]; rfl
      · cases o.dst <;> simp [Act.put, hi.tsize]
      · intro t v hcur
        by_cases edst : o.dst = some t
        · have hcur' : curN (dstAt ops) res (Lof (listed.setIfInBounds i true)) t ((tms 0).get t) ops.size = res i := by
            have h1 : curN (dstAt ops) res (Lof (listed.setIfInBounds i true)) t ((tms 0).get t) ops.size = curN (dstAt ops) res (fun k => decide (k < i + 1)) t ((tms 0).get t) ops.size :=
              curN_congr fun k hk hd => by
                rw [hset]
                by_cases e : k = i
                · subst e; simp
                · rw [hnext.writers k t hk hd (.inr edst) e]
                  by_cases hki : k < i <;> simp [hki, e] <;> omega
            rw [h1, curN_tail (L := fun k => decide (k < i + 1)) (m := i + 1) (n := ops.size) (by omega) fun k h1 _ _ => by simp; omega]
            simp only [curN]
            rw [if_pos ⟨by simp, by rw [hdi]; exact edst⟩]
          rw [hcur'] at hcur
          have hlt := hput.1 t edst
          refine ⟨c, ?_, hv v hcur⟩
          simp [Act.put, edst, hi.tsize, hlt]
        · have hcur' : curN (dstAt ops) res (Lof (listed.setIfInBounds i true)) t ((tms 0).get t) ops.size = curN (dstAt ops) res (Lof listed) t ((tms 0).get t) ops.size :=
            curN_congr fun k hk hd => by
              rw [hset]
              by_cases e : k = i
              · subst e; rw [hdi] at hd; exact absurd hd edst
              · simp [e]
          rw [hcur'] at hcur
          obtain ⟨c', h1, h2⟩ := hi.temps t v hcur
          refine ⟨c', ?_, h2.mono hg.ext.1⟩
          cases hd : o.dst with
          | none => simpa [Act.put] using h1
          | some d =>
            have : d ≠ t := fun e => edst (by rw [hd, e])
            simp only [Act.put]
            rw [Array.getElem?_setIfInBounds_ne this]; exact h1
      · have := cN_set (p := fun k => !Lof (listed.setIfInBounds i true) k) (q := fun k => !Lof listed k) (i := i) hisz (by simp [hset]) (by simp [hun]) fun k _ hk => by simp [hset, hk]
        omega
    unfold wpOp
    simp only [ho]
    rw [hwant]
    cases hw : wn i with
    | false =>
      rw [if_neg (by simp)]
      obtain ⟨h1, h2⟩ := ht.skip i o (Nat.zero_le _) gi hw
      refine step φ w undef ?_ (fun x hx => by rw [h1] at hx; obtain rfl := Option.some.inj hx; exact .tuple rfl (by simp))
      rw [he2]
      cases he : isEff o with
      | false => exact .refl hi.good.rel
      | true =>
        rw [he1 he, cond_true, h2 he, ← he1 he]
        exact .refl hi.good.rel
    | true =>
      rw [if_pos rfl]
      refine .inl ?_
      -- what it comes to here
      have hruns : Runs P O (tms i) o.op (hE (cN (fun k => effAt ops.toList k && Lof listed k) ops.size)) (res i) (hE (cN (fun k => effAt ops.toList k && Lof (listed.setIfInBounds i true) k) ops.size)) := by
        rw [he2]
        cases hp : isPure o.op with
        | true =>
          have hne : isEff o = false := by simp [isEff, hp]
          rw [hne, cond_false, Nat.add_zero]
          exact (Runs.pure hp (ht.pure i o (Nat.zero_le _) gi hw hp)).2 _
        | false =>
          cases hrd : isRead o.op with
          | false =>
            have hne : isEff o = true := by simp [isEff, hp, hrd]
            rw [hne, cond_true, he1 hne]
            exact ht.eff i o (Nat.zero_le _) gi hw hne
          | true =>
            have hne : isEff o = false := by simp [isEff, hrd]
            rw [hne, cond_false, Nat.add_zero]
            obtain ⟨r1, r2⟩ := ht.read i o (Nat.zero_le _) gi hw hp hrd
            have hbit := bits_closed hs hi.closed i o ho hready
            by_cases hlate : ∃ k, k < ops.size ∧ i < k ∧ effAt ops.toList k = true ∧ Lof listed k = true
            · -- the last of the later ones
              obtain ⟨k, hk, hmax⟩ : ∃ k, (k < ops.size ∧ i < k ∧ effAt ops.toList k = true ∧ Lof listed k = true) ∧ ∀ m, k < m → m < ops.size → effAt ops.toList m = true → Lof listed m = false := by
                obtain ⟨k0, hk0⟩ := hlate
                obtain ⟨d, hd, hmin⟩ := exists_min (fun d => ∃ k, k + d = ops.size ∧ (k < ops.size ∧ i < k ∧ effAt ops.toList k = true ∧ Lof listed k = true)) ⟨ops.size - k0, k0, by omega, hk0⟩
                obtain ⟨k, hkd, hk⟩ := hd
                refine ⟨k, hk, fun m hm hms hem => ?_⟩
                cases hL : Lof listed m with
                | false => rfl
                | true =>
                  have := hmin (ops.size - m) ⟨m, by omega, hms, by omega, hem, hL⟩
                  omega
              obtain ⟨hks, hik, hke, hkL⟩ := hk
              have gk : ops[k]? = some ops[k] := Array.getElem?_eq_getElem hks
              have hnb : (bits.getD k 0).testBit i = false := by
                cases hb : (bits.getD k 0).testBit i with
                | false => rfl
                | true =>
                  have := bits_closed hs hi.closed k ops[k] gk (hi.closed k _ hkL gk) i hb
                  rw [hun] at this; cases this
              have hcount : cN (fun j => effAt ops.toList j && Lof listed j) ops.size = cN (effAt ops.toList) k + 1 := by
                rw [cN_tail (m := k + 1) (by omega) fun m h1 h2 => by
                  cases he : effAt ops.toList m with
                  | false => rfl
                  | true => rw [hmax m (by omega) h2 he]; rfl]
                simp only [cN, hke, hkL, Bool.and_self, cond_true]
                congr 1
                refine cN_congr fun m hm => ?_
                cases he : effAt ops.toList m with
                | false => rfl
                | true =>
                  have hpair := hs.pair k m hks hm
                  unfold pairOK at hpair
                  have gm : ops.toList[m]? = some ops[m] := by rw [Array.getElem?_toList]; exact Array.getElem?_eq_getElem (by omega)
                  have gk' : ops.toList[k]? = some ops[k] := by rw [Array.getElem?_toList]; exact gk
                  rw [gk', gm] at hpair
                  have e1 : isEff ops[k] = true := by rw [← effAt_eq gk]; exact hke
                  have e2 : isEff ops[m] = true := by rw [← effAt_eq (Array.getElem?_eq_getElem (show m < ops.size by omega))]; exact he
                  simp only [e1, e2, Bool.and_self, Bool.or_true, cond_true] at hpair
                  rw [bits_closed hs hi.closed k ops[k] gk (hi.closed k _ hkL gk) m hpair]; rfl
              rw [hcount]
              exact r2 k hik hke hnb
            · have hnone : ∀ k, i ≤ k → k < ops.size → (effAt ops.toList k && Lof listed k) = false := by
                intro k h1 h2
                by_cases e : k = i
                · subst e; simp [hun]
                · cases he : effAt ops.toList k with
                  | false => rfl
                  | true =>
                    cases hL : Lof listed k with
                    | false => rfl
                    | true => exact absurd ⟨k, h2, by omega, he, hL⟩ hlate
              have hcount : cN (fun j => effAt ops.toList j && Lof listed j) ops.size = cN (fun j => effAt ops.toList j && Lof listed j) i := cN_tail (by omega) hnone
              rw [hcount]
              refine r1 _ ?_ ?_
              · refine cN_le fun k hk hkb => ?_
                simp only [Bool.and_eq_true] at hkb ⊢
                exact ⟨hkb.1, hbit k hkb.2⟩
              · refine cN_le fun k hk hkb => ?_
                simp only [Bool.and_eq_true] at hkb
                exact hkb.1
      classical
      have hk : evOp P O (scrub (tms i) (looks ops.toList o)) o.op (hE (cN (fun k => effAt ops.toList k && Lof listed k) ops.size))
          (fun v h' => if v = res i ∧ h' = hE (cN (fun k => effAt ops.toList k && Lof (listed.setIfInBounds i true) k) ops.size) then some (.nilFunc, h') else none) =
          some (.nilFunc, hE (cN (fun k => effAt ops.toList k && Lof (listed.setIfInBounds i true) k) ops.size)) := by
        rw [← evOp_congr o.op hopv, hruns]
        rw [if_pos ⟨rfl, rfl⟩]
      refine evOp_wp hO o hi.good.rel htr hk fun φ' v h' c w' hg hv hk' => ?_
      by_cases hvh : v = res i ∧ h' = hE (cN (fun k => effAt ops.toList k && Lof (listed.setIfInBounds i true) k) ops.size)
      · obtain ⟨rfl, rfl⟩ := hvh
        exact step φ' w' c hg hv
      · rw [if_neg hvh] at hk'; cases hk'

theorem draw_ok (P : Program) : DrawOK P (drawEv P) := by
  intro O hO nt ops tm h K r hk id φ w a hr ht Q _ hQ
  unfold drawEv at hk
  cases hc : (P.follows .mixedOrders && statOK ops.toList (befL ops.toList []) && ops.toList.all noSel) with
  | false => rw [hc, cond_false] at hk; cases hk
  | true =>
    rw [hc, cond_true] at hk
    simp only [Bool.and_eq_true] at hc
    have hk' : evD P O nt ops.toList (befL ops.toList []) ops.toList 0 tm h [] [] K = some r := by
      cases hall : (ops.toList.all fun o => !isEff o) with
      | true =>
        rw [hall, cond_true] at hk
        rw [evD_evOps]
        · exact hk
        · intro o ho
          rw [List.all_eq_true] at hall
          simpa using hall o ho
      | false => rw [hall, cond_false] at hk; exact hk
    obtain ⟨tms, res, wn, hE, e1, e2, _, e4, e5, _⟩ := evD_trace ops.toList 0 tm h [] [] K r hk' rfl rfl (by simp)
    have hs := stat_of hc.1.2
    have hlen : ops.toList.length = ops.size := by simp
    rw [hlen] at e4
    refine wp_region_any hc.1.1 (lin hs hO e5 (φ0 := φ) (w0 := w) (a0 := a) (fun φ' a' w' hg htr hd => ?_) ops.size _ φ a _ ?_ ?_)
    · exact hQ .normal φ' _ _ a' w' hg htr hd e4
    · have hz : ∀ k, Lof (Array.replicate ops.size false) k = false := by
        intro k
        unfold Lof
        by_cases hk : k < ops.size <;> simp [hk]
      refine ⟨by simp, fun k o hk => (by rw [hz] at hk; cases hk), ?_, ht.size, fun t v hv => ?_, rfl⟩
      · have : cN (fun k => effAt ops.toList k && Lof (Array.replicate ops.size false) k) ops.size = 0 := by
          rw [cN_tail (m := 0) (Nat.zero_le _) fun k _ _ => by rw [hz]; simp]
          rfl
        rw [this]
        have e2' : hE 0 = h := e2
        rw [e2']
        exact Good.drew hr
      · rw [curN_tail (m := 0) (Nat.zero_le _) fun k _ _ _ => hz k] at hv
        simp only [curN, e1] at hv
        exact ht.val t v hv
    · have := cN_le (p := fun k => !Lof (Array.replicate ops.size false) k) (q := fun _ => true) (n := ops.size) fun _ _ _ => rfl
      have hcn : ∀ n, cN (fun _ => true) n = n := by
        intro n
        induction n with
        | zero => rfl
        | succ n ih => simp only [cN, ih, cond_true]
      rw [hcn] at this
      exact this
end
end Go.Lg
