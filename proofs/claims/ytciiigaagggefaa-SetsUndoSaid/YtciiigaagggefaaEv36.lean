/- Maps from whole numbers to whole numbers, over the abstract memory. -/
import Derived.Test.YtciiigaagggefaaEv29
import Derived.Test.YtciiigaagggefaaEv32
import Derived.Test.YtciiigaagggefaaEv34
namespace Go.Lg
open Go
set_option linter.unusedVariables false
set_option linter.unusedSimpArgs false
/-! as lists of pairs -/
def alook (l : List (Int × Int)) (i : Int) : Option Int := match l with
  | [] => none
  | p :: l => if p.1 = i then some p.2 else alook l i
def aputL (l : List (Int × Int)) (i v : Int) : List (Int × Int) := match l with
  | [] => [(i, v)]
  | p :: l => if p.1 = i then (i, v) :: l else p :: aputL l i v
def adelL (l : List (Int × Int)) (i : Int) : List (Int × Int) := match l with
  | [] => []
  | p :: l => if p.1 = i then l else p :: adelL l i
def aok (v : Option Int) : Bool := v.isSome
def aval (v : Option Int) : Int := v.getD 0
theorem alook_put (i v : Int) : ∀ (l : List (Int × Int)) (j : Int), alook (aputL l i v) j = if i = j then some v else alook l j
  | [], j => by simp [aputL, alook]
  | p :: l, j => by
    unfold aputL
    by_cases h : p.1 = i
    · rw [if_pos h]
      by_cases h2 : i = j
      · simp [alook, h2]
      · have : ¬ p.1 = j := fun e => h2 (h.symm.trans e)
        simp [alook, h2, this]
    · rw [if_neg h]
      by_cases h2 : p.1 = j
      · have : ¬ i = j := fun e => h (h2.trans e.symm)
        simp [alook, h2, this]
      · simp only [alook, if_neg h2]; exact alook_put i v l j
def Nk (l : List (Int × Int)) : Prop := (l.map Prod.fst).Nodup
theorem alook_none {l : List (Int × Int)} {i : Int} (h : i ∉ l.map Prod.fst) : alook l i = none := by
  induction l with
  | nil => rfl
  | cons p l ih =>
    simp only [List.map_cons, List.mem_cons, not_or] at h
    unfold alook
    rw [if_neg (fun e => h.1 e.symm)]; exact ih h.2
theorem alook_mem {l : List (Int × Int)} {i : Int} : (∃ v, alook l i = some v) ↔ i ∈ l.map Prod.fst := by
  induction l with
  | nil => simp [alook]
  | cons p l ih =>
    unfold alook
    by_cases h : p.1 = i
    · simp [h]
    · rw [if_neg h, ih]
      simp [Ne.symm h]
theorem keys_put (i v : Int) : ∀ l : List (Int × Int), (aputL l i v).map Prod.fst = if i ∈ l.map Prod.fst then l.map Prod.fst else l.map Prod.fst ++ [i]
  | [] => by simp [aputL]
  | p :: l => by
    unfold aputL
    by_cases h : p.1 = i
    · subst h; simp
    · rw [if_neg h, List.map_cons, keys_put i v l, List.map_cons]
      by_cases h2 : i ∈ l.map Prod.fst
      · rw [if_pos h2, if_pos (List.mem_cons_of_mem _ h2)]
      · rw [if_neg h2, if_neg (fun e => by rcases List.mem_cons.mp e with e | e; exact h e.symm; exact h2 e)]; rfl
theorem Nk.put {l : List (Int × Int)} (h : Nk l) (i v : Int) : Nk (aputL l i v) := by
  unfold Nk at *
  rw [keys_put]
  split
  · exact h
  · rename_i hn
    rw [List.nodup_append]
    exact ⟨h, by simp, fun a ha b hb e => by simp at hb; subst hb; subst e; exact hn ha⟩
theorem len_put (l : List (Int × Int)) (i v : Int) : (aputL l i v).length = if aok (alook l i) then l.length else l.length + 1 := by
  have h1 := congrArg List.length (keys_put i v l)
  rw [List.length_map] at h1
  by_cases h : i ∈ l.map Prod.fst
  · obtain ⟨w, hw⟩ := alook_mem.mpr h
    rw [if_pos h, List.length_map] at h1
    rw [h1, hw]; rfl
  · rw [if_neg h] at h1
    rw [alook_none h, h1]; simp [aok]
theorem keys_del (i : Int) : ∀ l : List (Int × Int), (adelL l i).map Prod.fst = (l.map Prod.fst).erase i
  | [] => rfl
  | p :: l => by
    unfold adelL
    by_cases h : p.1 = i
    · rw [if_pos h, List.map_cons, h, List.erase_cons_head]
    · rw [if_neg h, List.map_cons, List.map_cons, List.erase_cons_tail (by simpa using h), keys_del i l]
theorem Nk.del {l : List (Int × Int)} (h : Nk l) (i : Int) : Nk (adelL l i) := by
  unfold Nk at *
  rw [keys_del]
  exact h.erase i
theorem alook_del {l : List (Int × Int)} (h : Nk l) (i j : Int) : alook (adelL l i) j = if i = j then none else alook l j := by
  induction l with
  | nil => simp [adelL, alook]
  | cons p l ih =>
    unfold Nk at h
    rw [List.map_cons, List.nodup_cons] at h
    unfold adelL
    by_cases h1 : p.1 = i
    · rw [if_pos h1]
      by_cases h2 : i = j
      · rw [if_pos h2]
        exact alook_none (by rw [← h2, ← h1]; exact h.1)
      · rw [if_neg h2]
        have : ¬ p.1 = j := fun e => h2 (h1.symm.trans e)
        simp [alook, this]
    · rw [if_neg h1]
      by_cases h2 : p.1 = j
      · have : ¬ i = j := fun e => h1 (h2.trans e.symm)
        simp [alook, h2, this]
      · simp only [alook, if_neg h2]; exact ih h.2
/-! in memory -/
def prI (e : MapEntry) : Value × Value := (e.key, e.val)
def encPr (p : Int × Int) : Value × Value := (.int .i64 p.1, .int .i64 p.2)
structure MI (h : AH) (r : Nat) (l : List (Int × Int)) : Prop where
  ex : ∃ es clk, h.get r = some (.map es clk) ∧ es.map prI = l.map encPr ∧ (∀ e ∈ es, e.born < clk) ∧ (es.map (·.born)).Nodup
  nk : Nk l
  lt : r < h.n
theorem MI.same {h h' : AH} {r : Nat} {l : List (Int × Int)} (hm : MI h r l) (hg : h'.get r = h.get r) (hn : h.n ≤ h'.n) : MI h' r l := by
  obtain ⟨es, clk, h1, h2⟩ := hm.ex
  exact ⟨⟨es, clk, by rw [hg]; exact h1, h2⟩, hm.nk, Nat.lt_of_lt_of_le hm.lt hn⟩
theorem MI.new (h : AH) : MI (h.push (.map [] 0)) h.n [] := ⟨⟨[], 0, AH.get_push_eq _ _, rfl, fun e he => by simp at he, by simp⟩, by simp [Nk], by show h.n < h.n + 1; omega⟩
theorem ent_keys : ∀ {es : List MapEntry} {l : List (Int × Int)}, es.map prI = l.map encPr → keysOk (.int .i64) es = true
  | [], _, _ => rfl
  | e :: es, [], h => by simp at h
  | e :: es, p :: l, h => by
    simp only [List.map_cons, List.cons.injEq, prI, encPr, Prod.mk.injEq] at h
    simp only [keysOk, List.all_cons, h.1.1, keyOk, Bool.and_eq_true]
    exact ⟨rfl, ent_keys h.2⟩
theorem ent_len {es : List MapEntry} {l : List (Int × Int)} (h : es.map prI = l.map encPr) : es.length = l.length := by
  have := congrArg List.length h
  simpa using this
theorem afind_look (i : Int) : ∀ {es : List MapEntry} {l : List (Int × Int)} (k : Nat), es.map prI = l.map encPr → (afind (.int .i64 i) es k).map (·.2) = (alook l i).map (Value.int .i64)
  | [], [], k, _ => rfl
  | [], p :: l, k, h => by simp at h
  | e :: es, [], k, h => by simp at h
  | e :: es, p :: l, k, h => by
    simp only [List.map_cons, List.cons.injEq, prI, encPr, Prod.mk.injEq] at h
    obtain ⟨⟨h1, h2⟩, h3⟩ := h
    simp only [afind, alook, h1, keqB]
    by_cases hc : p.1 = i
    · have : (IntKind.i64 == IntKind.i64 && decide (i = p.1)) = true := by rw [hc]; simp
      rw [this, cond_true, if_pos hc, h2]; rfl
    · have : (IntKind.i64 == IntKind.i64 && decide (i = p.1)) = false := by simp [Ne.symm hc]
      rw [this, cond_false, if_neg hc]
      exact afind_look i (k + 1) h3
theorem MI.map {h : AH} {r : Nat} {l : List (Int × Int)} (hm : MI h r l) : ∃ es, mapOf h (.map (some r)) = some es ∧ es.length = l.length ∧ es.map prI = l.map encPr := by
  obtain ⟨es, clk, h1, h2, _⟩ := hm.ex
  exact ⟨es, by simp only [mapOf, h1], ent_len h2, h2⟩
theorem look_eq {P : Program} {e : TypeId} (hz : zeroOf P e = some (.int .i64 0)) {es : List MapEntry} {l : List (Int × Int)} (h : es.map prI = l.map encPr) (i : Int) : lookE P (.int .i64) e (.int .i64 i) es = some (.int .i64 (aval (alook l i)), aok (alook l i)) := by
  have hk : (keyOk (.int .i64) (.int .i64 i) && keysOk (.int .i64) es) = true := by rw [ent_keys h]; rfl
  have hf := afind_look i 0 h
  simp only [lookE, hk, cond_true]
  cases ha : afind (.int .i64 i) es 0 with
  | none =>
    rw [ha] at hf
    cases hl : alook l i with
    | none => simp [hz, aval, aok]
    | some v => rw [hl] at hf; simp at hf
  | some p =>
    rw [ha] at hf
    cases hl : alook l i with
    | none => rw [hl] at hf; simp at hf
    | some v =>
      rw [hl] at hf
      simp at hf
      simp [hf, aval, aok]
theorem putE_eq (i v : Int) (clk : Nat) {es : List MapEntry} {l : List (Int × Int)} (h : es.map prI = l.map encPr) : (putE (.int .i64 i) (.int .i64 v) es clk).1.map prI = (aputL l i v).map encPr ∧
    ((∀ e ∈ es, e.born < clk) → (es.map (·.born)).Nodup → (∀ e ∈ (putE (.int .i64 i) (.int .i64 v) es clk).1, e.born < (putE (.int .i64 i) (.int .i64 v) es clk).2) ∧ ((putE (.int .i64 i) (.int .i64 v) es clk).1.map (·.born)).Nodup) := by
  have key : ∀ (es : List MapEntry) (l : List (Int × Int)) (k : Nat), es.map prI = l.map encPr → match afind (.int .i64 i) es k with
      | some p => k ≤ p.1 ∧ (es.modify (p.1 - k) (fun e => { e with key := .int .i64 i, val := .int .i64 v })).map prI = (aputL l i v).map encPr
      | none => es.map prI ++ [(.int .i64 i, .int .i64 v)] = (aputL l i v).map encPr := by
    intro es
    induction es with
    | nil =>
      intro l k h
      cases l with
      | nil => simp [afind, aputL, encPr]
      | cons p l => simp at h
    | cons e es ih =>
      intro l k h
      cases l with
      | nil => simp at h
      | cons p l =>
        simp only [List.map_cons, List.cons.injEq, prI, encPr, Prod.mk.injEq] at h
        obtain ⟨⟨h1, h2⟩, h3⟩ := h
        simp only [afind, h1, keqB]
        by_cases hc : p.1 = i
        · have hb : (IntKind.i64 == IntKind.i64 && decide (i = p.1)) = true := by rw [hc]; simp
          rw [hb, cond_true]
          unfold aputL
          rw [if_pos hc]
          refine ⟨Nat.le_refl _, ?_⟩
          simp [prI, encPr, h3]
        · have hb : (IntKind.i64 == IntKind.i64 && decide (i = p.1)) = false := by simp [Ne.symm hc]
          rw [hb, cond_false]
          have := ih l (k + 1) h3
          unfold aputL
          rw [if_neg hc]
          split at this
          · rename_i q hq
            obtain ⟨t1, t2⟩ := this
            refine ⟨by omega, ?_⟩
            have e1 : q.1 - k = (q.1 - (k + 1)) + 1 := by omega
            rw [e1, List.modify_succ_cons, List.map_cons, List.map_cons, t2]
            simp [prI, encPr, h1, h2]
          · simp only [List.map_cons, List.cons_append]
            rw [this]
            simp [prI, encPr, h1, h2]
  have := key es l 0 h
  unfold putE
  cases ha : afind (.int .i64 i) es 0 with
  | none =>
    rw [ha] at this
    simp only at this ⊢
    refine ⟨by rw [List.map_append]; exact this, fun hb hn => ⟨fun e he => ?_, ?_⟩⟩
    · rcases List.mem_append.mp he with he | he
      · have := hb e he; omega
      · simp at he; subst he; simp
    · rw [List.map_append, List.nodup_append]
      refine ⟨hn, by simp, fun a ha b hb' e => ?_⟩
      obtain ⟨x, hx, rfl⟩ := List.mem_map.mp ha
      simp at hb'
      have := hb x hx
      omega
  | some p =>
    rw [ha] at this
    simp only at this ⊢
    refine ⟨by simpa using this.2, fun hb hn => ?_⟩
    have hborn : (es.modify p.1 (fun e => { e with key := .int .i64 i, val := .int .i64 v })).map (·.born) = es.map (·.born) := by
      apply List.ext_getElem?
      intro k
      rw [List.getElem?_map, List.getElem?_modify, List.getElem?_map]
      cases es[k]? with
      | none => simp
      | some x => by_cases e : p.1 = k <;> simp [e]
    refine ⟨fun e he => ?_, by rw [hborn]; exact hn⟩
    have : e.born ∈ (es.modify p.1 (fun e => { e with key := .int .i64 i, val := .int .i64 v })).map (·.born) := List.mem_map.mpr ⟨e, he, rfl⟩
    rw [hborn] at this
    obtain ⟨x, hx, e2⟩ := List.mem_map.mp this
    have := hb x hx
    omega
theorem MI.put {h : AH} {r : Nat} {l : List (Int × Int)} (hm : MI h r l) (i v : Int) : ∃ h', aput (.int .i64) (.map (some r)) (.int .i64 i) (.int .i64 v) h = some h' ∧ MI h' r (aputL l i v) ∧ h'.n = h.n ∧ ∀ b, b ≠ r → h'.get b = h.get b := by
  obtain ⟨es, clk, h1, h2, h3, h4⟩ := hm.ex
  obtain ⟨q1, q2⟩ := putE_eq i v clk h2
  obtain ⟨q3, q4⟩ := q2 h3 h4
  have hk : (keyOk (.int .i64) (.int .i64 i) && keysOk (.int .i64) es) = true := by rw [ent_keys h2]; rfl
  refine ⟨_, by simp only [aput, h1, hk, cond_true], ⟨⟨_, _, AH.get_set_eq _ _ _, q1, q3, q4⟩, hm.nk.put i v, hm.lt⟩, rfl, fun b hb => AH.get_set_ne _ hb⟩
theorem delE_eq (i : Int) : ∀ {es : List MapEntry} {l : List (Int × Int)}, es.map prI = l.map encPr → (delE (.int .i64 i) es).map prI = (adelL l i).map encPr ∧ (delE (.int .i64 i) es).Sublist es := by
  have key : ∀ (es : List MapEntry) (l : List (Int × Int)) (k : Nat), es.map prI = l.map encPr → match afind (.int .i64 i) es k with
      | some p => k ≤ p.1 ∧ (es.eraseIdx (p.1 - k)).map prI = (adelL l i).map encPr
      | none => es.map prI = (adelL l i).map encPr := by
    intro es
    induction es with
    | nil =>
      intro l k h
      cases l with
      | nil => simp [afind, adelL]
      | cons p l => simp at h
    | cons e es ih =>
      intro l k h
      cases l with
      | nil => simp at h
      | cons p l =>
        simp only [List.map_cons, List.cons.injEq, prI, encPr, Prod.mk.injEq] at h
        obtain ⟨⟨h1, h2⟩, h3⟩ := h
        simp only [afind, h1, keqB]
        by_cases hc : p.1 = i
        · have hb : (IntKind.i64 == IntKind.i64 && decide (i = p.1)) = true := by rw [hc]; simp
          rw [hb, cond_true]
          unfold adelL
          rw [if_pos hc]
          exact ⟨Nat.le_refl _, by simpa [prI, encPr] using h3⟩
        · have hb : (IntKind.i64 == IntKind.i64 && decide (i = p.1)) = false := by simp [Ne.symm hc]
          rw [hb, cond_false]
          have := ih l (k + 1) h3
          unfold adelL
          rw [if_neg hc]
          split at this
          · rename_i q hq
            obtain ⟨t1, t2⟩ := this
            refine ⟨by omega, ?_⟩
            have e1 : q.1 - k = (q.1 - (k + 1)) + 1 := by omega
            rw [e1, List.eraseIdx_cons_succ, List.map_cons, List.map_cons, t2]
            simp [prI, encPr, h1, h2]
          · simp only [List.map_cons]
            rw [this]
            simp [prI, encPr, h1, h2]
  intro es l h
  have := key es l 0 h
  unfold delE
  cases ha : afind (.int .i64 i) es 0 with
  | none => rw [ha] at this; exact ⟨this, List.Sublist.refl _⟩
  | some p => rw [ha] at this; exact ⟨by simpa using this.2, List.eraseIdx_sublist _ _⟩
theorem MI.del {h : AH} {r : Nat} {l : List (Int × Int)} (hm : MI h r l) (i : Int) : ∃ h', adel (.int .i64) (.map (some r)) (.int .i64 i) h = some h' ∧ MI h' r (adelL l i) ∧ h'.n = h.n ∧ ∀ b, b ≠ r → h'.get b = h.get b := by
  obtain ⟨es, clk, h1, h2, h3, h4⟩ := hm.ex
  obtain ⟨q1, q2⟩ := delE_eq i h2
  have hk : (keyOk (.int .i64) (.int .i64 i) && keysOk (.int .i64) es) = true := by rw [ent_keys h2]; rfl
  exact ⟨_, by simp only [adel, h1, hk, cond_true], ⟨⟨_, _, AH.get_set_eq _ _ _, q1, fun e he => h3 e (q2.subset he), h4.sublist (q2.map _)⟩, hm.nk.del i, hm.lt⟩, rfl, fun b hb => AH.get_set_ne _ hb⟩
end Go.Lg
