/- A region that draws its order: whatever the order, the same. -/
import Derived.Test.YtciiigaagggefaaEv18
namespace Go.Lg
open Go

def curN (dst : Nat → Option Tmp) (res : Nat → Option Value) (L : Nat → Bool) (t : Nat) (x0 : Option Value) : Nat → Option Value
  | 0 => x0
  | m + 1 => if L m = true ∧ dst m = some t then res m else curN dst res L t x0 m

section
variable {dst : Nat → Option Tmp} {res : Nat → Option Value} {L L' : Nat → Bool} {t : Nat} {x0 : Option Value}
theorem curN_congr : ∀ {n : Nat}, (∀ k, k < n → dst k = some t → L k = L' k) → curN dst res L t x0 n = curN dst res L' t x0 n
  | 0, _ => rfl
  | n + 1, h => by
    simp only [curN]
    rw [curN_congr (n := n) fun k hk => h k (by omega)]
    by_cases hd : dst n = some t
    · rw [h n (by omega) hd]
    · simp [hd]
theorem curN_tail {m : Nat} : ∀ {n : Nat}, m ≤ n → (∀ k, m ≤ k → k < n → dst k = some t → L k = false) → curN dst res L t x0 n = curN dst res L t x0 m
  | 0, h, _ => by have : m = 0 := by omega
                  subst this; rfl
  | n + 1, h, hp => by
    by_cases e : m = n + 1
    · rw [e]
    · simp only [curN]
      rw [curN_tail (n := n) (by omega) fun k h1 h2 => hp k h1 (by omega)]
      rw [if_neg]
      rintro ⟨h1, h2⟩
      rw [hp n (by omega) (by omega) h2] at h1
      cases h1
end

theorem scrub_get_mem (tm : T Value) : ∀ (ks : List Nat) (t : Nat), t ∈ ks → (scrub tm ks).get t = tm.get t
  | k :: ks, t, h => by
    simp only [scrub, T.get_set]
    by_cases e : t = k
    · subst e; simp
    · rw [if_neg e]
      rcases List.mem_cons.1 h with h | h
      · exact absurd h e
      · exact scrub_get_mem tm ks t h
theorem scrub_mem (tm : T Value) : ∀ (ks : List Nat) (t : Nat) (v : Value), (scrub tm ks).get t = some v → t ∈ ks ∧ tm.get t = some v
  | [], t, v, h => by simp [scrub, T.get_nil] at h
  | k :: ks, t, v, h => by
    simp only [scrub, T.get_set] at h
    by_cases e : t = k
    · subst e; rw [if_pos rfl] at h; exact ⟨by simp, h⟩
    · rw [if_neg e] at h
      obtain ⟨h1, h2⟩ := scrub_mem tm ks t v h
      exact ⟨by simp [h1], h2⟩

section
variable {P : Program} {O : Orc} {nt : Nat} {ops : Array Oper}

def dstAt (ops : Array Oper) (k : Nat) : Option Tmp := (ops[k]?).bind (·.dst)
def Lof (listed : Array Bool) (k : Nat) : Bool := listed.getD k false

theorem mem_edges {o : Oper} {e : Edge} (he : e ∈ o.after) (hb : Region.binds .any e = true) : e.on ∈ edgesOf o :=
  List.mem_map.2 ⟨e, List.mem_filter.2 ⟨by simpa using he, hb⟩, rfl⟩
theorem edges_mem {o : Oper} {x : Nat} (h : x ∈ edgesOf o) : ∃ e ∈ o.after, Region.binds .any e = true ∧ e.on = x := by
  obtain ⟨e, he, rfl⟩ := List.mem_map.1 h
  obtain ⟨h1, h2⟩ := List.mem_filter.1 he
  exact ⟨e, by simpa using h1, h2, rfl⟩

/-- what is ahead of a thing that is done, is done -/
def Closed (ops : Array Oper) (listed : Array Bool) : Prop := ∀ (k : Nat) (o : Oper), Lof listed k = true → ops[k]? = some o → ∀ e ∈ edgesOf o, Lof listed e = true

structure Stat (ops : Array Oper) (bits : List Nat) : Prop where
  isBits : ∀ (i : Nat) (o : Oper), ops[i]? = some o → bits.getD i 0 = bitsOf bits (edgesOf o)
  edges : ∀ (i : Nat) (o : Oper), ops[i]? = some o → ∀ e ∈ edgesOf o, e < i
  guard : ∀ (i : Nat) (o : Oper) (g : Nat) (b : Bool), ops[i]? = some o → o.guard = some (g, b) → g < i
  pair : ∀ (i j : Nat), i < ops.size → j < i → pairOK ops.toList bits i j = true
  late : ∀ (i j k : Nat), i < ops.size → j < i → k < j → lateAt ops.toList j = true → (bits.getD i 0).testBit j = true → effAt ops.toList k = true → (bits.getD i 0).testBit k = true

theorem stat_of {ops : Array Oper} (h : statOK ops.toList (befL ops.toList []) = true) : Stat ops (befL ops.toList []) := by
  have hall := allBelow_spec h
  obtain ⟨_, _, _, hsp⟩ := befL_spec ops.toList []
  have hget : ∀ i o, ops[i]? = some o → ops.toList[i]? = some o := fun i o ho => by rw [Array.getElem?_toList]; exact ho
  have hlt : ∀ i o, ops[i]? = some o → i < ops.toList.length := fun i o ho => by
    have := (Array.getElem?_eq_some_iff.1 ho).1; simpa using this
  have hedge : ∀ (i : Nat) (o : Oper), ops[i]? = some o → ∀ e ∈ edgesOf o, e < i := by
    intro i o ho e he
    have := hall i (hlt i o ho)
    rw [hget i o ho] at this
    simp only [Bool.and_eq_true, List.all_eq_true] at this
    exact Nat.le_of_ble_eq_true (this.1.1.1 e he)
  refine ⟨fun i o ho => ?_, hedge, fun i o g b ho hg => ?_, fun i j hi hj => ?_, fun i j k hi hj hkj hl hb hke => ?_⟩
  · have := hsp i o (hget i o ho) (fun e he => by simpa using hedge i o ho e he)
    simpa using this
  · have := hall i (hlt i o ho)
    rw [hget i o ho] at this
    simp only [Bool.and_eq_true, hg] at this
    exact Nat.le_of_ble_eq_true this.1.1.2.1
  · have hi' : i < ops.toList.length := by simpa using hi
    have := hall i hi'
    rw [List.getElem?_eq_getElem hi'] at this
    simp only [Bool.and_eq_true] at this
    exact allBelow_spec this.1.2 j hj
  · have hi' : i < ops.toList.length := by simpa using hi
    have := hall i hi'
    rw [List.getElem?_eq_getElem hi'] at this
    simp only [Bool.and_eq_true] at this
    have h1 := allBelow_spec this.2 j hj
    simp only [hl, hb, Bool.and_self, cond_true] at h1
    have h2 := allBelow_spec h1 k hkj
    simp only [hke, cond_true] at h2
    exact h2

theorem bits_closed {bits : List Nat} (hs : Stat ops bits) {listed : Array Bool} (hc : Closed ops listed) : ∀ (i : Nat) (o : Oper), ops[i]? = some o → (∀ e ∈ edgesOf o, Lof listed e = true) → ∀ j, (bits.getD i 0).testBit j = true → Lof listed j = true := by
  intro i
  induction i using Nat.strongRecOn with
  | _ i ih =>
    intro o ho he j hj
    rw [hs.isBits i o ho] at hj
    obtain ⟨e, hem, h⟩ := testBit_bitsOf hj
    rcases h with rfl | h
    · exact he e hem
    · have hlt := hs.edges i o ho e hem
      have hle := he e hem
      have hsz : i < ops.size := (Array.getElem?_eq_some_iff.1 ho).1
      obtain ⟨o', ho'⟩ : ∃ o', ops[e]? = some o' := ⟨ops[e], Array.getElem?_eq_getElem (by omega)⟩
      exact ih e hlt o' ho' (hc e o' hle ho') j h

theorem looks_mem {o : Oper} {t : Nat} (h : Operand.tmp t ∈ o.op.operands) : t ∈ looks ops.toList o := by
  unfold looks
  exact List.mem_append_right _ (tmpsIn_mem (by simpa using h))
theorem looks_guard {o : Oper} {g d : Nat} {b : Bool} (hg : o.guard = some (g, b)) (hd : (ops.toList[g]?).bind (·.dst) = some d) : d ∈ looks ops.toList o := by
  unfold looks
  rw [hg]
  refine List.mem_append_left _ ?_
  show d ∈ ((ops.toList[g]?).bind (·.dst)).toList
  rw [hd]
  simp

theorem effAt_eq {i : Nat} {o : Oper} (ho : ops[i]? = some o) : effAt ops.toList i = isEff o := by
  unfold effAt
  rw [Array.getElem?_toList, ho]

/-- what is done and counted: a new block that was made early is counted when all that is ahead of it is -/
structure Cnt (ops : Array Oper) (listed : Array Bool) (C : Nat → Bool) : Prop where
  sub : ∀ k, C k = true → Lof listed k = true
  pend : ∀ k, k < ops.size → Lof listed k = true → C k = false → lateAt ops.toList k = true ∧ ∃ j, j < k ∧ effAt ops.toList j = true ∧ C j = false
  late : ∀ k j, C k = true → lateAt ops.toList k = true → j < k → effAt ops.toList j = true → C j = true
theorem late_eff {o : Oper} (h : isLate o = true) : isEff o = true := by
  unfold isLate at h
  split at h
  · rename_i e h1 h2; simp [isEff, h1, isPure, isRead]
  · cases h
theorem lateAt_eff {ops : List Oper} {k : Nat} (h : lateAt ops k = true) : effAt ops k = true := by
  unfold lateAt at h
  unfold effAt
  split at h
  · exact late_eff h
  · cases h
/-- who may come now, or has come, has all ahead of it counted -/
theorem cnt_closed {bits : List Nat} (hs : Stat ops bits) {listed : Array Bool} {C : Nat → Bool} (hc : Closed ops listed) (hC : Cnt ops listed C) {i : Nat} {o : Oper} (ho : ops[i]? = some o) (he : ∀ e ∈ edgesOf o, Lof listed e = true) : ∀ j, j < i → (bits.getD i 0).testBit j = true → C j = true := by
  have hi : i < ops.size := (Array.getElem?_eq_some_iff.1 ho).1
  have hbit := bits_closed hs hc i o ho he
  intro j
  induction j using Nat.strongRecOn with
  | _ j ih =>
    intro hji hj
    cases hCj : C j with
    | true => rfl
    | false =>
      obtain ⟨hl, k, hkj, hke, hkC⟩ := hC.pend j (by omega) (hbit j hj) hCj
      have := ih k hkj (by omega) (hs.late i j k hi hji hkj hl hj hke)
      rw [hkC] at this; cases this
/-- who is in order with the next operation -/
structure Next (ops : Array Oper) (C : Nat → Bool) (i : Nat) (o : Oper) : Prop where
  writers : ∀ k t, k < ops.size → dstAt ops k = some t → (t ∈ looks ops.toList o ∨ o.dst = some t) → k ≠ i → C k = decide (k < i)
  effs : isEff o = true → (isLate o = true → ∀ k, k < i → effAt ops.toList k = true → C k = true) → ∀ k, k < ops.size → effAt ops.toList k = true → k ≠ i → C k = decide (k < i)

theorem bits_lt {bits : List Nat} (hs : Stat ops bits) : ∀ (i : Nat) (o : Oper), ops[i]? = some o → ∀ j, (bits.getD i 0).testBit j = true → j < i := by
  intro i
  induction i using Nat.strongRecOn with
  | _ i ih =>
    intro o ho j hj
    rw [hs.isBits i o ho] at hj
    obtain ⟨e, hem, h⟩ := testBit_bitsOf hj
    have hlt := hs.edges i o ho e hem
    rcases h with rfl | h
    · exact hlt
    · have hsz : i < ops.size := (Array.getElem?_eq_some_iff.1 ho).1
      have := ih e hlt ops[e] (Array.getElem?_eq_getElem (by omega)) j h
      omega

theorem next_of {bits : List Nat} (hs : Stat ops bits) {listed : Array Bool} {C : Nat → Bool} (hc : Closed ops listed) (hC : Cnt ops listed C) {i : Nat} {o : Oper} (ho : ops[i]? = some o) (hun : Lof listed i = false) (hready : ∀ e ∈ edgesOf o, Lof listed e = true) : Next ops C i o := by
  have hi : i < ops.size := (Array.getElem?_eq_some_iff.1 ho).1
  have hbit : ∀ j, (bits.getD i 0).testBit j = true → C j = true := fun j hj => cnt_closed hs hc hC ho hready j (bits_lt hs i o ho j hj) hj
  have later : ∀ k, i < k → k < ops.size → (bits.getD k 0).testBit i = true → C k = false := by
    intro k hik hk hb
    cases hL : C k with
    | false => rfl
    | true =>
      have hL' := hC.sub k hL
      have := bits_closed hs hc k ops[k] (Array.getElem?_eq_getElem hk) (hc k _ hL' (Array.getElem?_eq_getElem hk)) i hb
      rw [hun] at this; cases this
  have gi : ops.toList[i]? = some o := by rw [Array.getElem?_toList]; exact ho
  refine ⟨fun k t hk hd ht hne => ?_, fun he hlate k hk hek hne => ?_⟩
  · have gk : ops.toList[k]? = some ops[k] := by rw [Array.getElem?_toList]; exact Array.getElem?_eq_getElem hk
    have hdk : ops[k].dst = some t := by simpa [dstAt, Array.getElem?_eq_getElem hk] using hd
    rcases Nat.lt_or_ge k i with h | h
    · have hp := hs.pair i k hi h
      unfold pairOK at hp
      rw [gi, gk] at hp
      have : dstIn ops[k].dst (o.dst.toList ++ looks ops.toList o) = true := by
        simp only [dstIn, hdk, memN_iff, List.mem_append, Option.mem_toList]
        exact ht.elim .inr .inl
      simp only [this, Bool.true_or, cond_true] at hp
      rw [hbit k hp]; simp [h]
    · have hik : i < k := by omega
      have hp := hs.pair k i hk hik
      unfold pairOK at hp
      rw [gi, gk] at hp
      have : (dstIn o.dst (ops[k].dst.toList ++ looks ops.toList ops[k]) || dstIn ops[k].dst (looks ops.toList o)) = true := by
        rcases ht with ht | ht
        · simp only [dstIn, hdk, memN_iff.2 ht, Bool.or_true]
        · have : dstIn o.dst (ops[k].dst.toList ++ looks ops.toList ops[k]) = true := by
            simp only [dstIn, ht, memN_iff, List.mem_append, Option.mem_toList, hdk]
            exact .inl trivial
          rw [this]; rfl
      simp only [this, Bool.true_or, cond_true] at hp
      rw [later k hik hk hp]; simp; omega
  · have gk : ops.toList[k]? = some ops[k] := by rw [Array.getElem?_toList]; exact Array.getElem?_eq_getElem hk
    have hek' : isEff ops[k] = true := by rw [← effAt_eq (Array.getElem?_eq_getElem hk)]; exact hek
    rcases Nat.lt_or_ge k i with h | h
    · cases hl : isLate o with
      | true => rw [hlate hl k h hek]; simp [h]
      | false =>
        have hp := hs.pair i k hi h
        unfold pairOK at hp
        rw [gi, gk] at hp
        simp only [he, hek', hl, Bool.not_false, Bool.and_self, Bool.or_true, cond_true] at hp
        rw [hbit k hp]; simp [h]
    · have hik : i < k := by omega
      cases hl : isLate ops[k] with
      | true =>
        cases hCk : C k with
        | false => simp; omega
        | true =>
          have hlk : lateAt ops.toList k = true := by unfold lateAt; rw [gk]; exact hl
          have := hC.late k i hCk hlk hik (by rw [effAt_eq ho]; exact he)
          have := hC.sub i this
          rw [hun] at this; cases this
      | false =>
        have hp := hs.pair k i hk hik
        unfold pairOK at hp
        rw [gi, gk] at hp
        simp only [he, hek', hl, Bool.not_false, Bool.and_self, Bool.or_true, cond_true] at hp
        rw [later k hik hk hp]; simp; omega
end
end Go.Lg
