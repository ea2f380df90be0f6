/- A region that draws its order: the trace of the text's order. -/
import Derived.Test.YtciiigaagggefaaEv16
namespace Go.Lg
open Go

theorem cN_le {p q : Nat → Bool} : ∀ {n : Nat}, (∀ k, k < n → p k = true → q k = true) → cN p n ≤ cN q n
  | 0, _ => Nat.le_refl _
  | n + 1, h => by
    have h1 := cN_le (n := n) fun k hk => h k (by omega)
    simp only [cN]
    cases hp : p n with
    | false => simp only [cond_false]; omega
    | true => rw [h n (by omega) hp]; simp only [cond_true]; omega
theorem cN_congr {p q : Nat → Bool} : ∀ {n : Nat}, (∀ k, k < n → p k = q k) → cN p n = cN q n
  | 0, _ => rfl
  | n + 1, h => by simp only [cN]; rw [cN_congr (n := n) fun k hk => h k (by omega), h n (by omega)]
theorem cN_tail {p : Nat → Bool} {m : Nat} : ∀ {n : Nat}, m ≤ n → (∀ k, m ≤ k → k < n → p k = false) → cN p n = cN p m
  | 0, h, _ => by have : m = 0 := by omega
                  subst this; rfl
  | n + 1, h, hp => by
    by_cases e : m = n + 1
    · rw [e]
    · simp only [cN]
      rw [hp n (by omega) (by omega), cN_tail (n := n) (by omega) fun k h1 h2 => hp k h1 (by omega)]
      rfl

theorem testBit_bitsOf {acc : List Nat} : ∀ {es : List Nat} {j : Nat}, (bitsOf acc es).testBit j = true → ∃ e ∈ es, e = j ∨ (acc.getD e 0).testBit j = true
  | [], j, h => by simp [bitsOf] at h
  | e :: es, j, h => by
    simp only [bitsOf, Nat.testBit_or, Bool.or_eq_true] at h
    rcases h with (h | h) | h
    · obtain ⟨x, hx, h'⟩ := testBit_bitsOf h
      exact ⟨x, by simp [hx], h'⟩
    · rw [Nat.testBit_two_pow] at h
      exact ⟨e, by simp, .inl (of_decide_eq_true h)⟩
    · exact ⟨e, by simp, .inr h⟩

theorem befL_spec : ∀ (l : List Oper) (acc : List Nat), ∃ ext, befL l acc = acc ++ ext ∧ ext.length = l.length ∧
    ∀ i o, l[i]? = some o → (∀ e ∈ edgesOf o, e < acc.length + i) → (befL l acc).getD (acc.length + i) 0 = bitsOf (befL l acc) (edgesOf o)
  | [], acc => ⟨[], by simp [befL], rfl, fun i o h => by simp at h⟩
  | o :: rest, acc => by
    obtain ⟨ext, h1, h2, h3⟩ := befL_spec rest (acc ++ [bitsOf acc (edgesOf o)])
    simp only [befL]
    have hcongr : ∀ (es : List Nat) (a b : List Nat), (∀ e ∈ es, a.getD e 0 = b.getD e 0) → bitsOf a es = bitsOf b es := by
      intro es a b
      induction es with
      | nil => intro _; rfl
      | cons e es ih => intro h; simp only [bitsOf]; rw [ih fun x hx => h x (by simp [hx]), h e (by simp)]
    refine ⟨bitsOf acc (edgesOf o) :: ext, by rw [h1]; simp, by simp [h2], fun i o' hi he => ?_⟩
    cases i with
    | zero =>
      simp only [List.getElem?_cons_zero, Option.some.injEq] at hi
      subst hi
      have : (befL rest (acc ++ [bitsOf acc (edgesOf o)])).getD (acc.length + 0) 0 = bitsOf acc (edgesOf o) := by
        rw [h1]; simp
      rw [this]
      refine hcongr _ _ _ fun e hx => ?_
      have := he e hx
      rw [h1]
      simp only [List.getD_eq_getElem?_getD]
      rw [List.append_assoc, List.getElem?_append_left (by omega)]
    | succ i =>
      have := h3 i o' (by simpa using hi) (fun e hx => by have := he e hx; simp; omega)
      simp only [List.length_append, List.length_cons, List.length_nil] at this
      rw [← this]
      congr 1
      omega

theorem allBelow_spec {p : Nat → Bool} : ∀ {n : Nat}, allBelow p n = true → ∀ k, k < n → p k = true
  | 0, _, k, h => by omega
  | n + 1, h, k, hk => by
    simp only [allBelow, Bool.and_eq_true] at h
    by_cases e : k = n
    · subst e; exact h.1
    · exact allBelow_spec h.2 k (by omega)
theorem memN_iff {t : Nat} : ∀ {l : List Nat}, memN t l = true ↔ t ∈ l
  | [] => by simp [memN]
  | x :: xs => by
    simp only [memN]
    cases hb : Nat.beq t x with
    | true => simp [Nat.eq_of_beq_eq_true hb]
    | false =>
      have : t ≠ x := fun e => by subst e; rw [Nat.beq_refl] at hb; cases hb
      simp [this, memN_iff]
theorem tmpsIn_mem {t : Nat} : ∀ {xs : List Operand}, Operand.tmp t ∈ xs → t ∈ tmpsIn xs
  | [], h => by simp at h
  | x :: xs, h => by
    rcases List.mem_cons.1 h with rfl | h
    · simp [tmpsIn]
    · have := tmpsIn_mem h
      cases x <;> simp [tmpsIn, this]

section
variable {P : Program} {O : Orc} {nt : Nat} {ops : List Oper}

/-- the trace of the text's order from the i-th operation on -/
structure Trace (P : Program) (O : Orc) (nt : Nat) (ops : List Oper) (bits : List Nat) (i : Nat) (tms : Nat → T Value) (res : Nat → Option Value) (wn : Nat → Bool) (hE : Nat → AH) : Prop where
  guard : ∀ k o, i ≤ k → ops[k]? = some o → match o.guard with
    | none => wn k = true
    | some (j, want) => ∃ d v, (ops[j]?).bind (·.dst) = some d ∧ (tms k).get d = some v ∧ wantV v want = some (wn k)
  skip : ∀ k o, i ≤ k → ops[k]? = some o → wn k = false → res k = some skipV ∧ (isEff o = true → hE (cN (effAt ops) k + 1) = hE (cN (effAt ops) k))
  pure : ∀ k o, i ≤ k → ops[k]? = some o → wn k = true → isPure o.op = true → Runs P O (tms k) o.op (hE (cN (effAt ops) k)) (res k) (hE (cN (effAt ops) k))
  eff : ∀ k o, i ≤ k → ops[k]? = some o → wn k = true → isEff o = true → Runs P O (tms k) o.op (hE (cN (effAt ops) k)) (res k) (hE (cN (effAt ops) k + 1))
  read : ∀ k o, i ≤ k → ops[k]? = some o → wn k = true → isPure o.op = false → isRead o.op = true →
    (∀ q, cN (fun j => effAt ops j && (bits.getD k 0).testBit j) k ≤ q → q ≤ cN (effAt ops) k → Runs P O (tms k) o.op (hE q) (res k) (hE q)) ∧
    (∀ m, k < m → effAt ops m = true → (bits.getD m 0).testBit k = false → Runs P O (tms k) o.op (hE (cN (effAt ops) m + 1)) (res k) (hE (cN (effAt ops) m + 1)))
  put : ∀ k o, i ≤ k → ops[k]? = some o → (∀ d, o.dst = some d → d < nt) ∧ ∀ t, (tms (k + 1)).get t = if o.dst = some t then res k else (tms k).get t

theorem put_trace {tm : T Value} {dst : Option Tmp} {v : Option Value} {K : T Value → Res} {r : Value × AH} (h : put nt tm dst v K = some r) : ∃ tm', K tm' = some r ∧ (∀ d, dst = some d → d < nt) ∧ ∀ t, tm'.get t = if dst = some t then v else tm.get t := by
  unfold put at h
  cases dst with
  | none => exact ⟨tm, h, by simp, by simp⟩
  | some d =>
    simp only at h
    cases hb : Nat.blt d nt with
    | false => rw [hb, cond_false] at h; cases h
    | true =>
      rw [hb, cond_true] at h
      refine ⟨_, h, fun e he => by obtain rfl := Option.some.inj he; exact Nat.le_of_ble_eq_true hb, fun t => ?_⟩
      rw [T.get_set]
      by_cases e : t = d
      · subst e; simp
      · have : ¬ (some d = some t) := fun h => e (Option.some.inj h).symm
        rw [if_neg e, if_neg this]

theorem reck_inv {tm : T Value} {op : Op} {v : Option Value} (hrd : isRead op = true) : ∀ {hs : List AH} {k : Res} {r : Value × AH}, reck P O tm op v hs k = some r → k = some r ∧ ∀ h ∈ hs, Runs P O tm op h v h
  | [], k, r, hk => ⟨hk, by simp⟩
  | h :: hs, k, r, hk => by
    simp only [reck] at hk
    obtain ⟨v', h', h1, h2⟩ := (nat_op P O tm op h).out hk
    cases hb : veqO v v' with
    | false => rw [hb, cond_false] at h1; cases h1
    | true =>
      rw [hb, cond_true] at h1
      obtain rfl := veqO_true hb
      obtain ⟨h3, h4⟩ := reck_inv hrd h1
      have h2' : Runs P O tm op h v h' := h2
      obtain rfl := Runs.read hrd h2'
      refine ⟨h3, fun x hx => ?_⟩
      rcases List.mem_cons.1 hx with rfl | hx
      · exact h2'
      · exact h4 x hx
theorem recheck_inv {bit : Nat} {h : AH} : ∀ {ps : List Pend} {k : Res} {r : Value × AH}, (∀ p ∈ ps, isRead p.op = true) → recheck P O bit h ps k = some r → k = some r ∧ ∀ p ∈ ps, bit.testBit p.j = false → Runs P O p.tm p.op h p.v h
  | [], k, r, _, hk => ⟨hk, by simp⟩
  | p :: ps, k, r, hrd, hk => by
    simp only [recheck] at hk
    cases hbit : bit.testBit p.j with
    | true =>
      rw [hbit, cond_true] at hk
      obtain ⟨h3, h4⟩ := recheck_inv (fun q hq => hrd q (by simp [hq])) hk
      refine ⟨h3, fun x hx hb => ?_⟩
      rcases List.mem_cons.1 hx with rfl | hx
      · rw [hbit] at hb; cases hb
      · exact h4 x hx hb
    | false =>
      rw [hbit, cond_false] at hk
      obtain ⟨v', h', h1, h2⟩ := (nat_op P O p.tm p.op h).out hk
      cases hb : veqO p.v v' with
      | false => rw [hb, cond_false] at h1; cases h1
      | true =>
        rw [hb, cond_true] at h1
        have hv := veqO_true hb
        subst hv
        obtain ⟨h3, h4⟩ := recheck_inv (fun q hq => hrd q (by simp [hq])) h1
        have h2' : Runs P O p.tm p.op h p.v h' := h2
        obtain rfl := Runs.read (hrd p (by simp)) h2'
        refine ⟨h3, fun x hx hb => ?_⟩
        rcases List.mem_cons.1 hx with rfl | hx
        · exact h2'
        · exact h4 x hx hb
end
end Go.Lg
