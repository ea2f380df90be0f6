/- A region that draws its order: the trace out of the evaluator. -/
import Derived.Test.YtciiigaagggefaaEv17
namespace Go.Lg
open Go

section
variable {P : Program} {O : Orc} {nt : Nat} {ops : List Oper} {bits : List Nat}

theorem opv_same {tm tm' : T Value} (h : ∀ t, tm.get t = tm'.get t) (x : Operand) : opv tm x = opv tm' x := by
  cases x <;> simp [opv, h]
theorem Runs.same {tm tm' : T Value} {op : Op} {h h' : AH} {v : Option Value} (he : ∀ t, tm.get t = tm'.get t) (hr : Runs P O tm op h v h') : Runs P O tm' op h v h' := fun K => by
  rw [← hr K]; exact (evOp_congr op (fun x _ => opv_same he x) h K).symm
theorem set_same {tm : T Value} {d : Nat} {v : Value} (h : tm.get d = some v) (t : Nat) : (tm.set d (some v)).get t = tm.get t := by
  rw [T.get_set]; split
  · rename_i e; subst e; exact h.symm
  · rfl

theorem Trace.cons {i : Nat} {o : Oper} {tm : T Value} {v : Option Value} {b : Bool} {tms : Nat → T Value} {res : Nat → Option Value} {wn : Nat → Bool} {hE : Nat → AH} (ht : Trace P O nt ops bits (i + 1) tms res wn hE) (ho : ops[i]? = some o)
    (hguard : match o.guard with
      | none => b = true
      | some (j, want) => ∃ d c, (ops[j]?).bind (·.dst) = some d ∧ tm.get d = some c ∧ wantV c want = some b)
    (hskip : b = false → v = some skipV ∧ (isEff o = true → hE (cN (effAt ops) i + 1) = hE (cN (effAt ops) i)))
    (hpure : b = true → isPure o.op = true → Runs P O tm o.op (hE (cN (effAt ops) i)) v (hE (cN (effAt ops) i)))
    (heff : b = true → isEff o = true → Runs P O tm o.op (hE (cN (effAt ops) i)) v (hE (cN (effAt ops) i + 1)))
    (hread : b = true → isPure o.op = false → isRead o.op = true → (∀ q, cN (fun j => effAt ops j && (bits.getD i 0).testBit j) i ≤ q → q ≤ cN (effAt ops) i → Runs P O tm o.op (hE q) v (hE q)) ∧
      (∀ m, i < m → effAt ops m = true → (bits.getD m 0).testBit i = false → Runs P O tm o.op (hE (cN (effAt ops) m + 1)) v (hE (cN (effAt ops) m + 1))))
    (hput : (∀ d, o.dst = some d → d < nt) ∧ ∀ t, (tms (i + 1)).get t = if o.dst = some t then v else tm.get t) :
    Trace P O nt ops bits i (fun k => if k = i then tm else tms k) (fun k => if k = i then v else res k) (fun k => if k = i then b else wn k) hE := by
  refine ⟨fun k o' hk ho' => ?_, fun k o' hk ho' => ?_, fun k o' hk ho' => ?_, fun k o' hk ho' => ?_, fun k o' hk ho' => ?_, fun k o' hk ho' => ?_⟩
  all_goals
    by_cases e : k = i
    · subst e
      rw [ho] at ho'
      obtain rfl := Option.some.inj ho'
      simp only [if_true]
      first
        | exact hguard
        | exact hskip
        | exact hpure
        | exact heff
        | exact hread
        | (rw [if_neg (by omega)]; exact hput)
    · simp only [if_neg e]
      first
        | exact ht.guard k o' (by omega) ho'
        | exact ht.skip k o' (by omega) ho'
        | exact ht.pure k o' (by omega) ho'
        | exact ht.eff k o' (by omega) ho'
        | exact ht.read k o' (by omega) ho'
        | (rw [if_neg (by omega)]; exact ht.put k o' (by omega) ho')

theorem evD_trace : ∀ (l : List Oper) (i : Nat) (tm : T Value) (h : AH) (past : List AH) (pend : List Pend) (K : T Value → AH → Res) (r : Value × AH),
    evD P O nt ops bits l i tm h past pend K = some r → ops.drop i = l → past.length = cN (effAt ops) i → (∀ p ∈ pend, isRead p.op = true) →
    ∃ tms res wn hE, tms i = tm ∧ hE (cN (effAt ops) i) = h ∧ (∀ q, q < past.length → past.reverse[q]? = some (hE q)) ∧ K (tms ops.length) (hE (cN (effAt ops) ops.length)) = some r ∧
      Trace P O nt ops bits i tms res wn hE ∧
      (∀ p ∈ pend, ∀ m, i ≤ m → effAt ops m = true → (bits.getD m 0).testBit p.j = false → Runs P O p.tm p.op (hE (cN (effAt ops) m + 1)) p.v (hE (cN (effAt ops) m + 1)))
  | [], i, tm, h, past, pend, K, r, hk, hd, hl, hrd => by
    have hn : ops.length ≤ i := List.drop_eq_nil_iff.1 hd
    have hc : cN (effAt ops) i = cN (effAt ops) ops.length := cN_tail hn fun k h1 _ => by unfold effAt; rw [List.getElem?_eq_none h1]
    have hnone : ∀ k o, i ≤ k → ops[k]? = some o → False := fun k o hk ho => by rw [List.getElem?_eq_none (by omega)] at ho; cases ho
    refine ⟨fun _ => tm, fun _ => none, fun _ => true, fun q => if q < past.length then past.reverse.getD q h else h, rfl, ?_, ?_, ?_, ?_, ?_⟩
    · simp only; rw [if_neg (by omega)]
    · intro q hq
      simp only; rw [if_pos hq]
      rw [List.getD_eq_getElem?_getD, List.getElem?_eq_getElem (by simpa using hq)]; rfl
    · simp only; rw [if_neg (by omega)]; exact hk
    · exact ⟨fun k o h1 h2 => (hnone k o h1 h2).elim, fun k o h1 h2 => (hnone k o h1 h2).elim, fun k o h1 h2 => (hnone k o h1 h2).elim, fun k o h1 h2 => (hnone k o h1 h2).elim, fun k o h1 h2 => (hnone k o h1 h2).elim, fun k o h1 h2 => (hnone k o h1 h2).elim⟩
    · intro p _ m hm he
      unfold effAt at he
      rw [List.getElem?_eq_none (by omega)] at he
      cases he
  | o :: rest, i, tm, h, past, pend, K, r, hk, hd, hl, hrd => by
    have ho : ops[i]? = some o := by
      have := congrArg (fun l => l[0]?) hd
      simpa using this
    have hd' : ops.drop (i + 1) = rest := by
      rw [← List.drop_drop, hd]; rfl
    have hcs : cN (effAt ops) (i + 1) = cN (effAt ops) i + cond (isEff o) 1 0 := by simp only [cN, effAt, ho]
    have heffat : effAt ops i = isEff o := by simp only [effAt, ho]
    -- an operation that runs
    have run : ∀ (tm' : T Value) (b : Bool), (∀ t, tm'.get t = tm.get t) → b = true →
        (match o.guard with
          | none => b = true
          | some (j, want) => ∃ d c, (ops[j]?).bind (·.dst) = some d ∧ tm.get d = some c ∧ wantV c want = some b) →
        (cond (isPure o.op) (evOpX P O tm' o.type o.op h fun v _ => put nt tm' o.dst v fun tm => evD P O nt ops bits rest (i + 1) tm h past pend K)
          (cond (isRead o.op)
            (evOp P O tm' o.op h fun v _ => reck P O tm' o.op v (past.take (past.length - cN (fun k => effAt ops k && (bits.getD i 0).testBit k) i))
              (put nt tm' o.dst v fun tm2 => evD P O nt ops bits rest (i + 1) tm2 h past (⟨i, o.op, tm', v⟩ :: pend) K))
            (evOpX P O tm' o.type o.op h fun v h' => recheck P O (bits.getD i 0) h' pend (put nt tm' o.dst v fun tm => evD P O nt ops bits rest (i + 1) tm h' (h :: past) pend K)))) = some r →
        ∃ tms res wn hE, tms i = tm ∧ hE (cN (effAt ops) i) = h ∧ (∀ q, q < past.length → past.reverse[q]? = some (hE q)) ∧ K (tms ops.length) (hE (cN (effAt ops) ops.length)) = some r ∧
          Trace P O nt ops bits i tms res wn hE ∧
          (∀ p ∈ pend, ∀ m, i ≤ m → effAt ops m = true → (bits.getD m 0).testBit p.j = false → Runs P O p.tm p.op (hE (cN (effAt ops) m + 1)) p.v (hE (cN (effAt ops) m + 1))) := by
      intro tm' b htm hb hg hk
      have hlen : i < ops.length := (List.getElem?_eq_some_iff.1 ho).1
      cases hp : isPure o.op with
      | true =>
        rw [hp, cond_true] at hk
        have hne : isEff o = false := by simp [isEff, hp]
        replace hcs : cN (effAt ops) (i + 1) = cN (effAt ops) i := by rw [hcs, hne]; rfl
        obtain ⟨v, h', h1, h2⟩ := opX_out hk
        have hrun : Runs P O tm' o.op h v h' := h2
        obtain ⟨rfl, hany⟩ := Runs.pure hp hrun
        obtain ⟨tm2, h3, h4, h5⟩ := put_trace h1
        obtain ⟨tms, res, wn, hE, e1, e2, e3, e4, e5, e6⟩ := evD_trace rest (i + 1) tm2 h' past pend K r h3 hd' (by rw [hcs]; exact hl) hrd
        rw [hcs] at e2
        refine ⟨_, _, _, hE, by simp, e2, e3, ?_, e5.cons ho (tm := tm) (v := v) (b := b) hg (fun hf => by rw [hb] at hf; cases hf) (fun _ _ => (hany _).same htm) (fun _ hf => by rw [hne] at hf; cases hf) (fun _ hf => by rw [hp] at hf; cases hf) ⟨h4, fun t => by rw [e1, h5, htm]⟩, ?_⟩
        · exact (show K (if ops.length = i then tm else tms ops.length) _ = some r from by rw [if_neg (by omega)]; exact e4)
        · intro p hpp m hm he
          by_cases em : m = i
          · subst em; rw [heffat, hne] at he; cases he
          · exact e6 p hpp m (by omega) he
      | false =>
        rw [hp, cond_false] at hk
        cases hrd' : isRead o.op with
        | true =>
          rw [hrd', cond_true] at hk
          have hne : isEff o = false := by simp [isEff, hrd']
          replace hcs : cN (effAt ops) (i + 1) = cN (effAt ops) i := by rw [hcs, hne]; rfl
          obtain ⟨v, h', h1, h2⟩ := (nat_op P O tm' o.op h).out hk
          have hrun : Runs P O tm' o.op h v h' := h2
          obtain rfl := Runs.read hrd' hrun
          obtain ⟨h3, hpast⟩ := reck_inv hrd' h1
          obtain ⟨tm2, h4, h5, h6⟩ := put_trace h3
          obtain ⟨tms, res, wn, hE, e1, e2, e3, e4, e5, e6⟩ := evD_trace rest (i + 1) tm2 h' past (⟨i, o.op, tm', v⟩ :: pend) K r h4 hd' (by rw [hcs]; exact hl) (fun p hpp => by
            rcases List.mem_cons.1 hpp with rfl | hpp
            · exact hrd'
            · exact hrd p hpp)
          rw [hcs] at e2
          refine ⟨_, _, _, hE, by simp, e2, e3, ?_, e5.cons ho (tm := tm) (v := v) (b := b) hg (fun hf => by rw [hb] at hf; cases hf) (fun _ hf => by rw [hp] at hf; cases hf) (fun _ hf => by rw [hne] at hf; cases hf) (fun _ _ _ => ⟨fun q hq1 hq2 => ?_, fun m hm he hbit => ?_⟩) ⟨h5, fun t => by rw [e1, h6, htm]⟩, ?_⟩
          · exact (show K (if ops.length = i then tm else tms ops.length) _ = some r from by rw [if_neg (by omega)]; exact e4)
          · by_cases eq : q = cN (effAt ops) i
            · subst eq; rw [e2]; exact hrun.same htm
            · have hq : q < past.length := by omega
              have hh := e3 q hq
              rw [List.getElem?_reverse hq] at hh
              refine (hpast _ (List.mem_of_getElem? (i := past.length - 1 - q) ?_)).same htm
              rw [List.getElem?_take, if_pos (by omega)]
              exact hh
          · exact (e6 ⟨i, o.op, tm', v⟩ (by simp) m (by omega) he hbit).same htm
          · intro p hpp m hm he
            by_cases em : m = i
            · subst em; rw [heffat, hne] at he; cases he
            · exact e6 p (by simp [hpp]) m (by omega) he
        | false =>
          rw [hrd', cond_false] at hk
          have hne : isEff o = true := by simp [isEff, hp, hrd']
          rw [hne, cond_true] at hcs
          obtain ⟨v, h', h1, h2⟩ := opX_out hk
          have hrun : Runs P O tm' o.op h v h' := h2
          obtain ⟨h3, hpend⟩ := recheck_inv hrd h1
          obtain ⟨tm2, h4, h5, h6⟩ := put_trace h3
          obtain ⟨tms, res, wn, hE, e1, e2, e3, e4, e5, e6⟩ := evD_trace rest (i + 1) tm2 h' (h :: past) pend K r h4 hd' (by rw [hcs]; simp [hl]) hrd
          rw [hcs] at e2
          have eh : hE (cN (effAt ops) i) = h := by
            have := e3 past.length (by simp)
            simp only [List.reverse_cons] at this
            rw [List.getElem?_append_right (by simp)] at this
            simp at this
            rw [← hl]; exact this.symm
          refine ⟨_, _, _, hE, by simp, eh, fun q hq => ?_, ?_, e5.cons ho (tm := tm) (v := v) (b := b) hg (fun hf => by rw [hb] at hf; cases hf) (fun _ hf => by rw [hp] at hf; cases hf) (fun _ _ => by rw [eh, e2]; exact hrun.same htm) (fun _ _ hf => by rw [hrd'] at hf; cases hf) ⟨h5, fun t => by rw [e1, h6, htm]⟩, ?_⟩
          · have := e3 q (by simp; omega)
            simp only [List.reverse_cons] at this
            rw [List.getElem?_append_left (by simpa using hq)] at this
            exact this
          · exact (show K (if ops.length = i then tm else tms ops.length) _ = some r from by rw [if_neg (by omega)]; exact e4)
          · intro p hpp m hm he hbit
            by_cases em : m = i
            · subst em; rw [e2]; exact hpend p hpp hbit
            · exact e6 p hpp m (by omega) he hbit
    have skip : ∀ (tm' : T Value) (b : Bool), (∀ t, tm'.get t = tm.get t) → b = false →
        (match o.guard with
          | none => b = true
          | some (j, want) => ∃ d c, (ops[j]?).bind (·.dst) = some d ∧ tm.get d = some c ∧ wantV c want = some b) →
        (cond (isEff o) (recheck P O (bits.getD i 0) h pend (put nt tm' o.dst (some skipV) fun tm => evD P O nt ops bits rest (i + 1) tm h (h :: past) pend K))
          (put nt tm' o.dst (some skipV) fun tm => evD P O nt ops bits rest (i + 1) tm h past pend K)) = some r →
        ∃ tms res wn hE, tms i = tm ∧ hE (cN (effAt ops) i) = h ∧ (∀ q, q < past.length → past.reverse[q]? = some (hE q)) ∧ K (tms ops.length) (hE (cN (effAt ops) ops.length)) = some r ∧
          Trace P O nt ops bits i tms res wn hE ∧
          (∀ p ∈ pend, ∀ m, i ≤ m → effAt ops m = true → (bits.getD m 0).testBit p.j = false → Runs P O p.tm p.op (hE (cN (effAt ops) m + 1)) p.v (hE (cN (effAt ops) m + 1))) := by
      intro tm' b htm hb hg hk
      have hlen : i < ops.length := (List.getElem?_eq_some_iff.1 ho).1
      cases hne : isEff o with
      | true =>
        rw [hne, cond_true] at hk hcs
        obtain ⟨h3, hpend⟩ := recheck_inv hrd hk
        obtain ⟨tm2, h4, h5, h6⟩ := put_trace h3
        obtain ⟨tms, res, wn, hE, e1, e2, e3, e4, e5, e6⟩ := evD_trace rest (i + 1) tm2 h (h :: past) pend K r h4 hd' (by rw [hcs]; simp [hl]) hrd
        rw [hcs] at e2
        have eh : hE (cN (effAt ops) i) = h := by
          have := e3 past.length (by simp)
          simp only [List.reverse_cons] at this
          rw [List.getElem?_append_right (by simp)] at this
          simp at this
          rw [← hl]; exact this.symm
        refine ⟨_, _, _, hE, by simp, eh, fun q hq => ?_, ?_, e5.cons ho (tm := tm) (v := some skipV) (b := b) hg (fun _ => ⟨rfl, fun _ => by rw [eh, e2]⟩) (fun hf => by rw [hb] at hf; cases hf) (fun hf => by rw [hb] at hf; cases hf) (fun hf => by rw [hb] at hf; cases hf) ⟨h5, fun t => by rw [e1, h6, htm]⟩, ?_⟩
        · have := e3 q (by simp; omega)
          simp only [List.reverse_cons] at this
          rw [List.getElem?_append_left (by simpa using hq)] at this
          exact this
        · exact (show K (if ops.length = i then tm else tms ops.length) _ = some r from by rw [if_neg (by omega)]; exact e4)
        · intro p hpp m hm he hbit
          by_cases em : m = i
          · subst em; rw [e2]; exact hpend p hpp hbit
          · exact e6 p hpp m (by omega) he hbit
      | false =>
        rw [hne, cond_false] at hk
        replace hcs : cN (effAt ops) (i + 1) = cN (effAt ops) i := by rw [hcs, hne]; rfl
        obtain ⟨tm2, h4, h5, h6⟩ := put_trace hk
        obtain ⟨tms, res, wn, hE, e1, e2, e3, e4, e5, e6⟩ := evD_trace rest (i + 1) tm2 h past pend K r h4 hd' (by rw [hcs]; exact hl) hrd
        rw [hcs] at e2
        refine ⟨_, _, _, hE, by simp, e2, e3, ?_, e5.cons ho (tm := tm) (v := some skipV) (b := b) hg (fun _ => ⟨rfl, fun hf => by rw [hne] at hf; cases hf⟩) (fun hf => by rw [hb] at hf; cases hf) (fun hf => by rw [hb] at hf; cases hf) (fun hf => by rw [hb] at hf; cases hf) ⟨h5, fun t => by rw [e1, h6, htm]⟩, ?_⟩
        · exact (show K (if ops.length = i then tm else tms ops.length) _ = some r from by rw [if_neg (by omega)]; exact e4)
        · intro p hpp m hm he
          by_cases em : m = i
          · subst em; rw [heffat, hne] at he; cases he
          · exact e6 p hpp m (by omega) he
    simp only [evD] at hk
    split at hk
    · rename_i hg
      exact run tm true (fun _ => rfl) rfl (by rw [hg]) hk
    · rename_i j want hg
      split at hk
      · cases hk
      · rename_i d hdst
        split at hk
        · rename_i b hb
          have hs := set_same hb
          cases b with
          | true =>
            simp only [cond_true] at hk
            cases want with
            | true => exact run _ true hs rfl (by rw [hg]; exact ⟨d, _, hdst, hb, rfl⟩) hk
            | false => exact skip _ false hs rfl (by rw [hg]; exact ⟨d, _, hdst, hb, rfl⟩) hk
          | false =>
            simp only [cond_false] at hk
            cases want with
            | true => exact skip _ false hs rfl (by rw [hg]; exact ⟨d, _, hdst, hb, rfl⟩) hk
            | false => exact run _ true hs rfl (by rw [hg]; exact ⟨d, _, hdst, hb, rfl⟩) hk
        · rename_i vs hb
          exact skip _ false (fun _ => rfl) rfl (by rw [hg]; exact ⟨d, _, hdst, hb, rfl⟩) hk
        · cases hk
end
end Go.Lg
