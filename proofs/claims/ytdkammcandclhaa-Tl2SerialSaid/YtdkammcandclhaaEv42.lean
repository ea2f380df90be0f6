/- A map from whole numbers to truth values, over the abstract memory. -/
import Derived.Test.YtdkammcandclhaaEv37
import Derived.Test.YtdkammcandclhaaEv38
namespace Go.Lg
namespace Mb
open Go
set_option linter.unusedVariables false
set_option linter.unusedSimpArgs false
def encV (v : Int) : Value := .bool (decide (v = 1))
def valM : Option Int → Value
  | none => .bool false
  | some v => encV v
def encPr (p : Int × Int) : Value × Value := (.int .i64 p.1, encV p.2)
structure MI (h : AH) (r : Nat) (l : List (Int × Int)) : Prop where
  ex : ∃ es clk, h.get r = some (.map es clk) ∧ es.map prI = l.map encPr ∧ (∀ e ∈ es, e.born < clk) ∧ (es.map (·.born)).Nodup
  nk : Nk l
  lt : r < h.n
theorem MI.same {h h' : AH} {r : Nat} {l : List (Int × Int)} (hm : MI h r l) (hg : h'.get r = h.get r) (hn : h.n ≤ h'.n) : MI h' r l := by
  obtain ⟨es, clk, h1, h2⟩ := hm.ex
  exact ⟨⟨es, clk, by rw [hg]; exact h1, h2⟩, hm.nk, Nat.lt_of_lt_of_le hm.lt hn⟩
theorem MI.new (h : AH) : MI (h.push (.map [] 0)) h.n [] := ⟨⟨[], 0, AH.get_push_eq _ _, rfl, fun e he => by simp at he, by simp⟩, by simp [Nk], by show h.n < h.n + 1; omega⟩
theorem ent_keys : ∀ {es : List MapEntry} {l : List (Int × Int)}, es.map prI = l.map encPr → keysOk (.int .i64) es = true
  | [], _, _ => rfl
  | e :: es, [], h => by simp at h
  | e :: es, p :: l, h => by
    simp only [List.map_cons, List.cons.injEq, prI, encPr, Prod.mk.injEq] at h
    simp only [keysOk, List.all_cons, h.1.1, keyOk, Bool.and_eq_true]
    exact ⟨rfl, ent_keys h.2⟩
theorem ent_len {es : List MapEntry} {l : List (Int × Int)} (h : es.map prI = l.map encPr) : es.length = l.length := by
  have := congrArg List.length h
  simpa using this
theorem afind_look (i : Int) : ∀ {es : List MapEntry} {l : List (Int × Int)} (k : Nat), es.map prI = l.map encPr → (afind (.int .i64 i) es k).map (·.2) = (alook l i).map encV
  | [], [], k, _ => rfl
  | [], p :: l, k, h => by simp at h
  | e :: es, [], k, h => by simp at h
  | e :: es, p :: l, k, h => by
    simp only [List.map_cons, List.cons.injEq, prI, encPr, Prod.mk.injEq] at h
    obtain ⟨⟨h1, h2⟩, h3⟩ := h
    simp only [afind, alook, h1, keqB]
    by_cases hc : p.1 = i
    · have : (IntKind.i64 == IntKind.i64 && decide (i = p.1)) = true := by rw [hc]; simp
      rw [this, cond_true, if_pos hc, h2]; rfl
    · have : (IntKind.i64 == IntKind.i64 && decide (i = p.1)) = false := by simp [Ne.symm hc]
      rw [this, cond_false, if_neg hc]
      exact afind_look i (k + 1) h3
theorem MI.map {h : AH} {r : Nat} {l : List (Int × Int)} (hm : MI h r l) : ∃ es, mapOf h (.map (some r)) = some es ∧ es.length = l.length ∧ es.map prI = l.map encPr := by
  obtain ⟨es, clk, h1, h2, _⟩ := hm.ex
  exact ⟨es, by simp only [mapOf, h1], ent_len h2, h2⟩
theorem look_eq {P : Program} {e : TypeId} (hz : zeroOf P e = some (.bool false)) {es : List MapEntry} {l : List (Int × Int)} (h : es.map prI = l.map encPr) (i : Int) : lookE P (.int .i64) e (.int .i64 i) es = some (valM (alook l i), aok (alook l i)) := by
  have hk : (keyOk (.int .i64) (.int .i64 i) && keysOk (.int .i64) es) = true := by rw [ent_keys h]; rfl
  have hf := afind_look i 0 h
  simp only [lookE, hk, cond_true]
  cases ha : afind (.int .i64 i) es 0 with
  | none =>
    rw [ha] at hf
    cases hl : alook l i with
    | none => simp [hz, valM, aok]
    | some v => rw [hl] at hf; simp at hf
  | some p =>
    rw [ha] at hf
    cases hl : alook l i with
    | none => rw [hl] at hf; simp at hf
    | some v =>
      rw [hl] at hf
      simp at hf
      simp [hf, valM, aok]
theorem putE_eq (i v : Int) (clk : Nat) {es : List MapEntry} {l : List (Int × Int)} (h : es.map prI = l.map encPr) : (putE (.int .i64 i) (encV v) es clk).1.map prI = (aputL l i v).map encPr ∧
    ((∀ e ∈ es, e.born < clk) → (es.map (·.born)).Nodup → (∀ e ∈ (putE (.int .i64 i) (encV v) es clk).1, e.born < (putE (.int .i64 i) (encV v) es clk).2) ∧ ((putE (.int .i64 i) (encV v) es clk).1.map (·.born)).Nodup) := by
  have key : ∀ (es : List MapEntry) (l : List (Int × Int)) (k : Nat), es.map prI = l.map encPr → match afind (.int .i64 i) es k with
      | some p => k ≤ p.1 ∧ (es.modify (p.1 - k) (fun e => { e with key := .int .i64 i, val := encV v })).map prI = (aputL l i v).map encPr
      | none => es.map prI ++ [(.int .i64 i, encV v)] = (aputL l i v).map encPr := by
    intro es
    induction es with
    | nil =>
      intro l k h
      cases l with
      | nil => simp [afind, aputL, encPr]
      | cons p l => simp at h
    | cons e es ih =>
      intro l k h
      cases l with
      | nil => simp at h
      | cons p l =>
        simp only [List.map_cons, List.cons.injEq, prI, encPr, Prod.mk.injEq] at h
        obtain ⟨⟨h1, h2⟩, h3⟩ := h
        simp only [afind, h1, keqB]
        by_cases hc : p.1 = i
        · have hb : (IntKind.i64 == IntKind.i64 && decide (i = p.1)) = true := by rw [hc]; simp
          rw [hb, cond_true]
          unfold aputL
          rw [if_pos hc]
          refine ⟨Nat.le_refl _, ?_⟩
          simp [prI, encPr, h3]
        · have hb : (IntKind.i64 == IntKind.i64 && decide (i = p.1)) = false := by simp [Ne.symm hc]
          rw [hb, cond_false]
          have := ih l (k + 1) h3
          unfold aputL
          rw [if_neg hc]
          split at this
          · rename_i q hq
            obtain ⟨t1, t2⟩ := this
            refine ⟨by omega, ?_⟩
            have e1 : q.1 - k = (q.1 - (k + 1)) + 1 := by omega
            rw [e1, List.modify_succ_cons, List.map_cons, List.map_cons, t2]
            simp [prI, encPr, h1, h2]
          · simp only [List.map_cons, List.cons_append]
            rw [this]
            simp [prI, encPr, h1, h2]
  have := key es l 0 h
  unfold putE
  cases ha : afind (.int .i64 i) es 0 with
  | none =>
    rw [ha] at this
    simp only at this ⊢
    refine ⟨by rw [List.map_append]; exact this, fun hb hn => ⟨fun e he => ?_, ?_⟩⟩
    · rcases List.mem_append.mp he with he | he
      · have := hb e he; omega
      · simp at he; subst he; simp
    · rw [List.map_append, List.nodup_append]
      refine ⟨hn, by simp, fun a ha b hb' e => ?_⟩
      obtain ⟨x, hx, rfl⟩ := List.mem_map.mp ha
      simp at hb'
      have := hb x hx
      omega
  | some p =>
    rw [ha] at this
    simp only at this ⊢
    refine ⟨by simpa using this.2, fun hb hn => ?_⟩
    have hborn : (es.modify p.1 (fun e => { e with key := .int .i64 i, val := encV v })).map (·.born) = es.map (·.born) := by
      apply List.ext_getElem?
      intro k
      rw [List.getElem?_map, List.getElem?_modify, List.getElem?_map]
      cases es[k]? with
      | none => simp
      | some x => by_cases e : p.1 = k <;> simp [e]
    refine ⟨fun e he => ?_, by rw [hborn]; exact hn⟩
    have : e.born ∈ (es.modify p.1 (fun e => { e with key := .int .i64 i, val := encV v })).map (·.born) := List.mem_map.mpr ⟨e, he, rfl⟩
    rw [hborn] at this
    obtain ⟨x, hx, e2⟩ := List.mem_map.mp this
    have := hb x hx
    omega
theorem MI.put {h : AH} {r : Nat} {l : List (Int × Int)} (hm : MI h r l) (i v : Int) : ∃ h', aput (.int .i64) (.map (some r)) (.int .i64 i) (encV v) h = some h' ∧ MI h' r (aputL l i v) ∧ h'.n = h.n ∧ ∀ b, b ≠ r → h'.get b = h.get b := by
  obtain ⟨es, clk, h1, h2, h3, h4⟩ := hm.ex
  obtain ⟨q1, q2⟩ := putE_eq i v clk h2
  obtain ⟨q3, q4⟩ := q2 h3 h4
  have hk : (keyOk (.int .i64) (.int .i64 i) && keysOk (.int .i64) es) = true := by rw [ent_keys h2]; rfl
  refine ⟨_, by simp only [aput, h1, hk, cond_true], ⟨⟨_, _, AH.get_set_eq _ _ _, q1, q3, q4⟩, hm.nk.put i v, hm.lt⟩, rfl, fun b hb => AH.get_set_ne _ hb⟩
end Mb
end Go.Lg
