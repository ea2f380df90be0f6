/- A region that draws its order: the evaluator. -/
import Derived.Test.YtciiigaagggefaaGreatEv15
set_option linter.unusedVariables false
set_option linter.unusedSimpArgs false
namespace Go.Lg
open Go

def edgesOf (o : Oper) : List Nat := (o.after.toList.filter (Region.binds .any)).map (·.on)
def bitsOf (acc : List Nat) : List Nat → Nat
  | [] => 0
  | e :: es => (bitsOf acc es ||| 2 ^ e) ||| acc.getD e 0
def befL : List Oper → List Nat → List Nat
  | [], acc => acc
  | o :: rest, acc => befL rest (acc ++ [bitsOf acc (edgesOf o)])

def tmpsIn : List Operand → List Nat
  | [] => []
  | .tmp t :: xs => t :: tmpsIn xs
  | _ :: xs => tmpsIn xs
def looks (ops : List Oper) (o : Oper) : List Nat := (match o.guard with
  | some (g, _) => ((ops[g]?).bind (·.dst)).toList
  | none => []) ++ tmpsIn o.op.operands.toList
def memN (t : Nat) : List Nat → Bool
  | [] => false
  | x :: xs => cond (Nat.beq t x) true (memN t xs)
def dstIn (d : Option Tmp) (l : List Nat) : Bool := match d with
  | none => false
  | some t => memN t l
def isEff (o : Oper) : Bool := !(isPure o.op || isRead o.op)
def effAt (ops : List Oper) (i : Nat) : Bool := match ops[i]? with
  | some o => isEff o
  | none => false
def noSel (o : Oper) : Bool := match o.op with
  | .select _ _ => false
  | _ => true

/-- a new block that nothing is told of ahead of it: it may be made at any time -/
def isLate (o : Oper) : Bool := match o.op, o.guard with
  | .alloc _, none => true
  | _, _ => false
def lateAt (ops : List Oper) (i : Nat) : Bool := match ops[i]? with
  | some o => isLate o
  | none => false
def pairOK (ops : List Oper) (bits : List Nat) (i j : Nat) : Bool := match ops[i]?, ops[j]? with
  | some oi, some oj =>
    cond (dstIn oj.dst (oi.dst.toList ++ looks ops oi) || dstIn oi.dst (looks ops oj) || (isEff oi && isEff oj && !isLate oi)) ((bits.getD i 0).testBit j) true
  | _, _ => true
def allBelow (p : Nat → Bool) : Nat → Bool
  | 0 => true
  | n + 1 => p n && allBelow p n
/-- who comes behind such a block, comes behind all that is ahead of it -/
def lateOK (ops : List Oper) (bit i : Nat) : Bool := allBelow (fun j => cond (lateAt ops j && bit.testBit j) (allBelow (fun k => cond (effAt ops k) (bit.testBit k) true) j) true) i
def statOK (ops : List Oper) (bits : List Nat) : Bool :=
  allBelow (fun i => match ops[i]? with
    | some o => (edgesOf o).all (fun e => Nat.blt e i) && (match o.guard with | some (g, _) => Nat.blt g i && memN g (edgesOf o) | none => true) && allBelow (fun j => pairOK ops bits i j) i && lateOK ops (bits.getD i 0) i
    | none => true) ops.length

structure Pend where
  j : Nat
  op : Op
  tm : T Value
  v : Option Value

/-- the operation comes to the same over these memories -/
def reck (P : Program) (O : Orc) (tm : T Value) (op : Op) (v : Option Value) : List AH → Res → Res
  | [], k => k
  | h :: hs, k => evOp P O tm op h fun v' _ => cond (veqO v v') (reck P O tm op v hs k) none
def recheck (P : Program) (O : Orc) (bit : Nat) (h : AH) : List Pend → Res → Res
  | [], k => k
  | p :: ps, k => cond (bit.testBit p.j) (recheck P O bit h ps k) (evOp P O p.tm p.op h fun v' _ => cond (veqO p.v v') (recheck P O bit h ps k) none)

def cN (p : Nat → Bool) : Nat → Nat
  | 0 => 0
  | n + 1 => cN p n + cond (p n) 1 0

def evD (P : Program) (O : Orc) (nt : Nat) (ops : List Oper) (bits : List Nat) : List Oper → Nat → T Value → AH → List AH → List Pend → (T Value → AH → Res) → Res
  | [], _, tm, h, _, _, K => K tm h
  | o :: rest, i, tm, h, past, pend, K =>
    let run : T Value → Res := fun tm =>
      cond (isPure o.op) (evOpX P O tm o.type o.op h fun v _ => put nt tm o.dst v fun tm => evD P O nt ops bits rest (i + 1) tm h past pend K)
      (cond (isRead o.op)
        (evOp P O tm o.op h fun v _ => reck P O tm o.op v (past.take (past.length - cN (fun k => effAt ops k && (bits.getD i 0).testBit k) i))
          (put nt tm o.dst v fun tm' => evD P O nt ops bits rest (i + 1) tm' h past (⟨i, o.op, tm, v⟩ :: pend) K))
        (evOpX P O tm o.type o.op h fun v h' => recheck P O (bits.getD i 0) h' pend (put nt tm o.dst v fun tm => evD P O nt ops bits rest (i + 1) tm h' (h :: past) pend K)))
    let skip : T Value → Res := fun tm =>
      cond (isEff o) (recheck P O (bits.getD i 0) h pend (put nt tm o.dst (some skipV) fun tm => evD P O nt ops bits rest (i + 1) tm h (h :: past) pend K))
        (put nt tm o.dst (some skipV) fun tm => evD P O nt ops bits rest (i + 1) tm h past pend K)
    match o.guard with
    | none => run tm
    | some (j, want) => match (ops[j]?).bind (·.dst) with
      | none => none
      | some d => match tm.get d with
        | some (.bool b) => cond b
            (cond want (run (tm.set d (some (.bool true)))) (skip (tm.set d (some (.bool true)))))
            (cond want (skip (tm.set d (some (.bool false)))) (run (tm.set d (some (.bool false)))))
        | some (.tuple _) => skip tm
        | _ => none

/-- the evaluator of regions that draw their order -/
def drawEv (P : Program) : DrawEv := fun O nt ops tm h K =>
  cond (P.follows .mixedOrders && statOK ops.toList (befL ops.toList []) && ops.toList.all noSel)
    (cond (ops.toList.all fun o => !isEff o) (evOps P O nt ops.toList ops.toList tm h K) (evD P O nt ops.toList (befL ops.toList []) ops.toList 0 tm h [] [] K)) none
end Go.Lg

namespace Go.Lg
open Go

theorem cN_le {p q : Nat → Bool} : ∀ {n : Nat}, (∀ k, k < n → p k = true → q k = true) → cN p n ≤ cN q n
  | 0, _ => Nat.le_refl _
  | n + 1, h => by
    have h1 := cN_le (n := n) fun k hk => h k (by omega)
    simp only [cN]
    cases hp : p n with
    | false => simp only [cond_false]; omega
    | true => rw [h n (by omega) hp]; simp only [cond_true]; omega
theorem cN_congr {p q : Nat → Bool} : ∀ {n : Nat}, (∀ k, k < n → p k = q k) → cN p n = cN q n
  | 0, _ => rfl
  | n + 1, h => by simp only [cN]; rw [cN_congr (n := n) fun k hk => h k (by omega), h n (by omega)]
theorem cN_tail {p : Nat → Bool} {m : Nat} : ∀ {n : Nat}, m ≤ n → (∀ k, m ≤ k → k < n → p k = false) → cN p n = cN p m
  | 0, h, _ => by have : m = 0 := by omega
                  subst this; rfl
  | n + 1, h, hp => by
    by_cases e : m = n + 1
    · rw [e]
    · simp only [cN]
      rw [hp n (by omega) (by omega), cN_tail (n := n) (by omega) fun k h1 h2 => hp k h1 (by omega)]
      rfl

theorem testBit_bitsOf {acc : List Nat} : ∀ {es : List Nat} {j : Nat}, (bitsOf acc es).testBit j = true → ∃ e ∈ es, e = j ∨ (acc.getD e 0).testBit j = true
  | [], j, h => by simp [bitsOf] at h
  | e :: es, j, h => by
    simp only [bitsOf, Nat.testBit_or, Bool.or_eq_true] at h
    rcases h with (h | h) | h
    · obtain ⟨x, hx, h'⟩ := testBit_bitsOf h
      exact ⟨x, by simp [hx], h'⟩
    · rw [Nat.testBit_two_pow] at h
      exact ⟨e, by simp, .inl (of_decide_eq_true h)⟩
    · exact ⟨e, by simp, .inr h⟩

theorem befL_spec : ∀ (l : List Oper) (acc : List Nat), ∃ ext, befL l acc = acc ++ ext ∧ ext.length = l.length ∧
    ∀ i o, l[i]? = some o → (∀ e ∈ edgesOf o, e < acc.length + i) → (befL l acc).getD (acc.length + i) 0 = bitsOf (befL l acc) (edgesOf o)
  | [], acc => ⟨[], by simp [befL], rfl, fun i o h => by simp at h⟩
  | o :: rest, acc => by
    obtain ⟨ext, h1, h2, h3⟩ := befL_spec rest (acc ++ [bitsOf acc (edgesOf o)])
    simp only [befL]
    have hcongr : ∀ (es : List Nat) (a b : List Nat), (∀ e ∈ es, a.getD e 0 = b.getD e 0) → bitsOf a es = bitsOf b es := by
      intro es a b
      induction es with
      | nil => intro _; rfl
      | cons e es ih => intro h; simp only [bitsOf]; rw [ih fun x hx => h x (by simp [hx]), h e (by simp)]
    refine ⟨bitsOf acc (edgesOf o) :: ext, by rw [h1]; simp, by simp [h2], fun i o' hi he => ?_⟩
    cases i with
    | zero =>
      simp only [List.getElem?_cons_zero, Option.some.injEq] at hi
      subst hi
      have : (befL rest (acc ++ [bitsOf acc (edgesOf o)])).getD (acc.length + 0) 0 = bitsOf acc (edgesOf o) := by
        rw [h1]; simp
      rw [this]
      refine hcongr _ _ _ fun e hx => ?_
      have := he e hx
      rw [h1]
      simp only [List.getD_eq_getElem?_getD]
      rw [List.append_assoc, List.getElem?_append_left (by omega)]
    | succ i =>
      have := h3 i o' (by simpa using hi) (fun e hx => by have := he e hx; simp; omega)
      simp only [List.length_append, List.length_cons, List.length_nil] at this
      rw [← this]
      congr 1
      omega

theorem allBelow_spec {p : Nat → Bool} : ∀ {n : Nat}, allBelow p n = true → ∀ k, k < n → p k = true
  | 0, _, k, h => by omega
  | n + 1, h, k, hk => by
    simp only [allBelow, Bool.and_eq_true] at h
    by_cases e : k = n
    · subst e; exact h.1
    · exact allBelow_spec h.2 k (by omega)
theorem memN_iff {t : Nat} : ∀ {l : List Nat}, memN t l = true ↔ t ∈ l
  | [] => by simp [memN]
  | x :: xs => by
    simp only [memN]
    cases hb : Nat.beq t x with
    | true => simp [Nat.eq_of_beq_eq_true hb]
    | false =>
      have : t ≠ x := fun e => by subst e; rw [Nat.beq_refl] at hb; cases hb
      simp [this, memN_iff]
theorem tmpsIn_mem {t : Nat} : ∀ {xs : List Operand}, Operand.tmp t ∈ xs → t ∈ tmpsIn xs
  | [], h => by simp at h
  | x :: xs, h => by
    rcases List.mem_cons.1 h with rfl | h
    · simp [tmpsIn]
    · have := tmpsIn_mem h
      cases x <;> simp [tmpsIn, this]

section
variable {P : Program} {O : Orc} {nt : Nat} {ops : List Oper}

/-- the trace of the text's order from the i-th operation on -/
structure Trace (P : Program) (O : Orc) (nt : Nat) (ops : List Oper) (bits : List Nat) (i : Nat) (tms : Nat → T Value) (res : Nat → Option Value) (wn : Nat → Bool) (hE : Nat → AH) : Prop where
  guard : ∀ k o, i ≤ k → ops[k]? = some o → match o.guard with
    | none => wn k = true
    | some (j, want) => ∃ d v, (ops[j]?).bind (·.dst) = some d ∧ (tms k).get d = some v ∧ wantV v want = some (wn k)
  skip : ∀ k o, i ≤ k → ops[k]? = some o → wn k = false → res k = some skipV ∧ (isEff o = true → hE (cN (effAt ops) k + 1) = hE (cN (effAt ops) k))
  pure : ∀ k o, i ≤ k → ops[k]? = some o → wn k = true → isPure o.op = true → Runs P O (tms k) o.op (hE (cN (effAt ops) k)) (res k) (hE (cN (effAt ops) k))
  eff : ∀ k o, i ≤ k → ops[k]? = some o → wn k = true → isEff o = true → Runs P O (tms k) o.op (hE (cN (effAt ops) k)) (res k) (hE (cN (effAt ops) k + 1))
  read : ∀ k o, i ≤ k → ops[k]? = some o → wn k = true → isPure o.op = false → isRead o.op = true →
    (∀ q, cN (fun j => effAt ops j && (bits.getD k 0).testBit j) k ≤ q → q ≤ cN (effAt ops) k → Runs P O (tms k) o.op (hE q) (res k) (hE q)) ∧
    (∀ m, k < m → effAt ops m = true → (bits.getD m 0).testBit k = false → Runs P O (tms k) o.op (hE (cN (effAt ops) m + 1)) (res k) (hE (cN (effAt ops) m + 1)))
  put : ∀ k o, i ≤ k → ops[k]? = some o → (∀ d, o.dst = some d → d < nt) ∧ ∀ t, (tms (k + 1)).get t = if o.dst = some t then res k else (tms k).get t

theorem put_trace {tm : T Value} {dst : Option Tmp} {v : Option Value} {K : T Value → Res} {r : Value × AH} (h : put nt tm dst v K = some r) : ∃ tm', K tm' = some r ∧ (∀ d, dst = some d → d < nt) ∧ ∀ t, tm'.get t = if dst = some t then v else tm.get t := by
  unfold put at h
  cases dst with
  | none => exact ⟨tm, h, by simp, by simp⟩
  | some d =>
    simp only at h
    cases hb : Nat.blt d nt with
    | false => rw [hb, cond_false] at h; cases h
    | true =>
      rw [hb, cond_true] at h
      refine ⟨_, h, fun e he => by obtain rfl := Option.some.inj he; exact Nat.le_of_ble_eq_true hb, fun t => ?_⟩
      rw [T.get_set]
      by_cases e : t = d
      · subst e; simp
      · have : ¬ (some d = some t) := fun h => e (Option.some.inj h).symm
        rw [if_neg e, if_neg this]

theorem reck_inv {tm : T Value} {op : Op} {v : Option Value} (hrd : isRead op = true) : ∀ {hs : List AH} {k : Res} {r : Value × AH}, reck P O tm op v hs k = some r → k = some r ∧ ∀ h ∈ hs, Runs P O tm op h v h
  | [], k, r, hk => ⟨hk, by simp⟩
  | h :: hs, k, r, hk => by
    simp only [reck] at hk
    obtain ⟨v', h', h1, h2⟩ := (nat_op P O tm op h).out hk
    cases hb : veqO v v' with
    | false => rw [hb, cond_false] at h1; cases h1
    | true =>
      rw [hb, cond_true] at h1
      obtain rfl := veqO_true hb
      obtain ⟨h3, h4⟩ := reck_inv hrd h1
      have h2' : Runs P O tm op h v h' := h2
      obtain rfl := Runs.read hrd h2'
      refine ⟨h3, fun x hx => ?_⟩
      rcases List.mem_cons.1 hx with rfl | hx
      · exact h2'
      · exact h4 x hx
theorem recheck_inv {bit : Nat} {h : AH} : ∀ {ps : List Pend} {k : Res} {r : Value × AH}, (∀ p ∈ ps, isRead p.op = true) → recheck P O bit h ps k = some r → k = some r ∧ ∀ p ∈ ps, bit.testBit p.j = false → Runs P O p.tm p.op h p.v h
  | [], k, r, _, hk => ⟨hk, by simp⟩
  | p :: ps, k, r, hrd, hk => by
    simp only [recheck] at hk
    cases hbit : bit.testBit p.j with
    | true =>
      rw [hbit, cond_true] at hk
      obtain ⟨h3, h4⟩ := recheck_inv (fun q hq => hrd q (by simp [hq])) hk
      refine ⟨h3, fun x hx hb => ?_⟩
      rcases List.mem_cons.1 hx with rfl | hx
      · rw [hbit] at hb; cases hb
      · exact h4 x hx hb
    | false =>
      rw [hbit, cond_false] at hk
      obtain ⟨v', h', h1, h2⟩ := (nat_op P O p.tm p.op h).out hk
      cases hb : veqO p.v v' with
      | false => rw [hb, cond_false] at h1; cases h1
      | true =>
        rw [hb, cond_true] at h1
        have hv := veqO_true hb
        subst hv
        obtain ⟨h3, h4⟩ := recheck_inv (fun q hq => hrd q (by simp [hq])) h1
        have h2' : Runs P O p.tm p.op h p.v h' := h2
        obtain rfl := Runs.read (hrd p (by simp)) h2'
        refine ⟨h3, fun x hx hb => ?_⟩
        rcases List.mem_cons.1 hx with rfl | hx
        · exact h2'
        · exact h4 x hx hb
end
end Go.Lg

namespace Go.Lg
open Go

section
variable {P : Program} {O : Orc} {nt : Nat} {ops : List Oper} {bits : List Nat}

theorem opv_same {tm tm' : T Value} (h : ∀ t, tm.get t = tm'.get t) (x : Operand) : opv tm x = opv tm' x := by
  cases x <;> simp [opv, h]
theorem Runs.same {tm tm' : T Value} {op : Op} {h h' : AH} {v : Option Value} (he : ∀ t, tm.get t = tm'.get t) (hr : Runs P O tm op h v h') : Runs P O tm' op h v h' := fun K => by
  rw [← hr K]; exact (evOp_congr op (fun x _ => opv_same he x) h K).symm
theorem set_same {tm : T Value} {d : Nat} {v : Value} (h : tm.get d = some v) (t : Nat) : (tm.set d (some v)).get t = tm.get t := by
  rw [T.get_set]; split
  · rename_i e; subst e; exact h.symm
  · rfl

theorem Trace.cons {i : Nat} {o : Oper} {tm : T Value} {v : Option Value} {b : Bool} {tms : Nat → T Value} {res : Nat → Option Value} {wn : Nat → Bool} {hE : Nat → AH} (ht : Trace P O nt ops bits (i + 1) tms res wn hE) (ho : ops[i]? = some o)
    (hguard : match o.guard with
      | none => b = true
      | some (j, want) => ∃ d c, (ops[j]?).bind (·.dst) = some d ∧ tm.get d = some c ∧ wantV c want = some b)
    (hskip : b = false → v = some skipV ∧ (isEff o = true → hE (cN (effAt ops) i + 1) = hE (cN (effAt ops) i)))
    (hpure : b = true → isPure o.op = true → Runs P O tm o.op (hE (cN (effAt ops) i)) v (hE (cN (effAt ops) i)))
    (heff : b = true → isEff o = true → Runs P O tm o.op (hE (cN (effAt ops) i)) v (hE (cN (effAt ops) i + 1)))
    (hread : b = true → isPure o.op = false → isRead o.op = true → (∀ q, cN (fun j => effAt ops j && (bits.getD i 0).testBit j) i ≤ q → q ≤ cN (effAt ops) i → Runs P O tm o.op (hE q) v (hE q)) ∧
      (∀ m, i < m → effAt ops m = true → (bits.getD m 0).testBit i = false → Runs P O tm o.op (hE (cN (effAt ops) m + 1)) v (hE (cN (effAt ops) m + 1))))
    (hput : (∀ d, o.dst = some d → d < nt) ∧ ∀ t, (tms (i + 1)).get t = if o.dst = some t then v else tm.get t) :
    Trace P O nt ops bits i (fun k => if k = i then tm else tms k) (fun k => if k = i then v else res k) (fun k => if k = i then b else wn k) hE := by
  refine ⟨fun k o' hk ho' => ?_, fun k o' hk ho' => ?_, fun k o' hk ho' => ?_, fun k o' hk ho' => ?_, fun k o' hk ho' => ?_, fun k o' hk ho' => ?_⟩
  all_goals
    by_cases e : k = i
    · subst e
      rw [ho] at ho'
      obtain rfl := Option.some.inj ho'
      simp only [if_true]
      first
        | exact hguard
        | exact hskip
        | exact hpure
        | exact heff
        | exact hread
        | (rw [if_neg (by omega)]; exact hput)
    · simp only [if_neg e]
      first
        | exact ht.guard k o' (by omega) ho'
        | exact ht.skip k o' (by omega) ho'
        | exact ht.pure k o' (by omega) ho'
        | exact ht.eff k o' (by omega) ho'
        | exact ht.read k o' (by omega) ho'
        | (rw [if_neg (by omega)]; exact ht.put k o' (by omega) ho')

theorem evD_trace : ∀ (l : List Oper) (i : Nat) (tm : T Value) (h : AH) (past : List AH) (pend : List Pend) (K : T Value → AH → Res) (r : Value × AH),
    evD P O nt ops bits l i tm h past pend K = some r → ops.drop i = l → past.length = cN (effAt ops) i → (∀ p ∈ pend, isRead p.op = true) →
    ∃ tms res wn hE, tms i = tm ∧ hE (cN (effAt ops) i) = h ∧ (∀ q, q < past.length → past.reverse[q]? = some (hE q)) ∧ K (tms ops.length) (hE (cN (effAt ops) ops.length)) = some r ∧
      Trace P O nt ops bits i tms res wn hE ∧
      (∀ p ∈ pend, ∀ m, i ≤ m → effAt ops m = true → (bits.getD m 0).testBit p.j = false → Runs P O p.tm p.op (hE (cN (effAt ops) m + 1)) p.v (hE (cN (effAt ops) m + 1)))
  | [], i, tm, h, past, pend, K, r, hk, hd, hl, hrd => by
    have hn : ops.length ≤ i := List.drop_eq_nil_iff.1 hd
    have hc : cN (effAt ops) i = cN (effAt ops) ops.length := cN_tail hn fun k h1 _ => by unfold effAt; rw [List.getElem?_eq_none h1]
    have hnone : ∀ k o, i ≤ k → ops[k]? = some o → False := fun k o hk ho => by rw [List.getElem?_eq_none (by omega)] at ho; cases ho
    refine ⟨fun _ => tm, fun _ => none, fun _ => true, fun q => if q < past.length then past.reverse.getD q h else h, rfl, ?_, ?_, ?_, ?_, ?_⟩
    · simp only; rw [if_neg (by omega)]
    · intro q hq
      simp only; rw [if_pos hq]
      rw [List.getD_eq_getElem?_getD, List.getElem?_eq_getElem (by simpa using hq)]; rfl
    · simp only; rw [if_neg (by omega)]; exact hk
    · exact ⟨fun k o h1 h2 => (hnone k o h1 h2).elim, fun k o h1 h2 => (hnone k o h1 h2).elim, fun k o h1 h2 => (hnone k o h1 h2).elim, fun k o h1 h2 => (hnone k o h1 h2).elim, fun k o h1 h2 => (hnone k o h1 h2).elim, fun k o h1 h2 => (hnone k o h1 h2).elim⟩
    · intro p _ m hm he
      unfold effAt at he
      rw [List.getElem?_eq_none (by omega)] at he
      cases he
  | o :: rest, i, tm, h, past, pend, K, r, hk, hd, hl, hrd => by
    have ho : ops[i]? = some o := by
      have := congrArg (fun l => l[0]?) hd
      simpa using this
    have hd' : ops.drop (i + 1) = rest := by
      rw [← List.drop_drop, hd]; rfl
    have hcs : cN (effAt ops) (i + 1) = cN (effAt ops) i + cond (isEff o) 1 0 := by simp only [cN, effAt, ho]
    have heffat : effAt ops i = isEff o := by simp only [effAt, ho]
    -- an operation that runs
    have run : ∀ (tm' : T Value) (b : Bool), (∀ t, tm'.get t = tm.get t) → b = true →
        (match o.guard with
          | none => b = true
          | some (j, want) => ∃ d c, (ops[j]?).bind (·.dst) = some d ∧ tm.get d = some c ∧ wantV c want = some b) →
        (cond (isPure o.op) (evOpX P O tm' o.type o.op h fun v _ => put nt tm' o.dst v fun tm => evD P O nt ops bits rest (i + 1) tm h past pend K)
          (cond (isRead o.op)
            (evOp P O tm' o.op h fun v _ => reck P O tm' o.op v (past.take (past.length - cN (fun k => effAt ops k && (bits.getD i 0).testBit k) i))
              (put nt tm' o.dst v fun tm2 => evD P O nt ops bits rest (i + 1) tm2 h past (⟨i, o.op, tm', v⟩ :: pend) K))
            (evOpX P O tm' o.type o.op h fun v h' => recheck P O (bits.getD i 0) h' pend (put nt tm' o.dst v fun tm => evD P O nt ops bits rest (i + 1) tm h' (h :: past) pend K)))) = some r →
        ∃ tms res wn hE, tms i = tm ∧ hE (cN (effAt ops) i) = h ∧ (∀ q, q < past.length → past.reverse[q]? = some (hE q)) ∧ K (tms ops.length) (hE (cN (effAt ops) ops.length)) = some r ∧
          Trace P O nt ops bits i tms res wn hE ∧
          (∀ p ∈ pend, ∀ m, i ≤ m → effAt ops m = true → (bits.getD m 0).testBit p.j = false → Runs P O p.tm p.op (hE (cN (effAt ops) m + 1)) p.v (hE (cN (effAt ops) m + 1))) := by
      intro tm' b htm hb hg hk
      have hlen : i < ops.length := (List.getElem?_eq_some_iff.1 ho).1
      cases hp : isPure o.op with
      | true =>
        rw [hp, cond_true] at hk
        have hne : isEff o = false := by simp [isEff, hp]
        replace hcs : cN (effAt ops) (i + 1) = cN (effAt ops) i := by rw [hcs, hne]; rfl
        obtain ⟨v, h', h1, h2⟩ := opX_out hk
        have hrun : Runs P O tm' o.op h v h' := h2
        obtain ⟨rfl, hany⟩ := Runs.pure hp hrun
        obtain ⟨tm2, h3, h4, h5⟩ := put_trace h1
        obtain ⟨tms, res, wn, hE, e1, e2, e3, e4, e5, e6⟩ := evD_trace rest (i + 1) tm2 h' past pend K r h3 hd' (by rw [hcs]; exact hl) hrd
        rw [hcs] at e2
        refine ⟨_, _, _, hE, by simp, e2, e3, ?_, e5.cons ho (tm := tm) (v := v) (b := b) hg (fun hf => by rw [hb] at hf; cases hf) (fun _ _ => (hany _).same htm) (fun _ hf => by rw [hne] at hf; cases hf) (fun _ hf => by rw [hp] at hf; cases hf) ⟨h4, fun t => by rw [e1, h5, htm]⟩, ?_⟩
        · exact (show K (if ops.length = i then tm else tms ops.length) _ = some r from by rw [if_neg (by omega)]; exact e4)
        · intro p hpp m hm he
          by_cases em : m = i
          · subst em; rw [heffat, hne] at he; cases he
          · exact e6 p hpp m (by omega) he
      | false =>
        rw [hp, cond_false] at hk
        cases hrd' : isRead o.op with
        | true =>
          rw [hrd', cond_true] at hk
          have hne : isEff o = false := by simp [isEff, hrd']
          replace hcs : cN (effAt ops) (i + 1) = cN (effAt ops) i := by rw [hcs, hne]; rfl
          obtain ⟨v, h', h1, h2⟩ := (nat_op P O tm' o.op h).out hk
          have hrun : Runs P O tm' o.op h v h' := h2
          obtain rfl := Runs.read hrd' hrun
          obtain ⟨h3, hpast⟩ := reck_inv hrd' h1
          obtain ⟨tm2, h4, h5, h6⟩ := put_trace h3
          obtain ⟨tms, res, wn, hE, e1, e2, e3, e4, e5, e6⟩ := evD_trace rest (i + 1) tm2 h' past (⟨i, o.op, tm', v⟩ :: pend) K r h4 hd' (by rw [hcs]; exact hl) (fun p hpp => by
            rcases List.mem_cons.1 hpp with rfl | hpp
            · exact hrd'
            · exact hrd p hpp)
          rw [hcs] at e2
          refine ⟨_, _, _, hE, by simp, e2, e3, ?_, e5.cons ho (tm := tm) (v := v) (b := b) hg (fun hf => by rw [hb] at hf; cases hf) (fun _ hf => by rw [hp] at hf; cases hf) (fun _ hf => by rw [hne] at hf; cases hf) (fun _ _ _ => ⟨fun q hq1 hq2 => ?_, fun m hm he hbit => ?_⟩) ⟨h5, fun t => by rw [e1, h6, htm]⟩, ?_⟩
          · exact (show K (if ops.length = i then tm else tms ops.length) _ = some r from by rw [if_neg (by omega)]; exact e4)
          · by_cases eq : q = cN (effAt ops) i
            · subst eq; rw [e2]; exact hrun.same htm
            · have hq : q < past.length := by omega
              have hh := e3 q hq
              rw [List.getElem?_reverse hq] at hh
              refine (hpast _ (List.mem_of_getElem? (i := past.length - 1 - q) ?_)).same htm
              rw [List.getElem?_take, if_pos (by omega)]
              exact hh
          · exact (e6 ⟨i, o.op, tm', v⟩ (by simp) m (by omega) he hbit).same htm
          · intro p hpp m hm he
            by_cases em : m = i
            · subst em; rw [heffat, hne] at he; cases he
            · exact e6 p (by simp [hpp]) m (by omega) he
        | false =>
          rw [hrd', cond_false] at hk
          have hne : isEff o = true := by simp [isEff, hp, hrd']
          rw [hne, cond_true] at hcs
          obtain ⟨v, h', h1, h2⟩ := opX_out hk
          have hrun : Runs P O tm' o.op h v h' := h2
          obtain ⟨h3, hpend⟩ := recheck_inv hrd h1
          obtain ⟨tm2, h4, h5, h6⟩ := put_trace h3
          obtain ⟨tms, res, wn, hE, e1, e2, e3, e4, e5, e6⟩ := evD_trace rest (i + 1) tm2 h' (h :: past) pend K r h4 hd' (by rw [hcs]; simp [hl]) hrd
          rw [hcs] at e2
          have eh : hE (cN (effAt ops) i) = h := by
            have := e3 past.length (by simp)
            simp only [List.reverse_cons] at this
            rw [List.getElem?_append_right (by simp)] at this
            simp at this
            rw [← hl]; exact this.symm
          refine ⟨_, _, _, hE, by simp, eh, fun q hq => ?_, ?_, e5.cons ho (tm := tm) (v := v) (b := b) hg (fun hf => by rw [hb] at hf; cases hf) (fun _ hf => by rw [hp] at hf; cases hf) (fun _ _ => by rw [eh, e2]; exact hrun.same htm) (fun _ _ hf => by rw [hrd'] at hf; cases hf) ⟨h5, fun t => by rw [e1, h6, htm]⟩, ?_⟩
          · have := e3 q (by simp; omega)
            simp only [List.reverse_cons] at this
            rw [List.getElem?_append_left (by simpa using hq)] at this
            exact this
          · exact (show K (if ops.length = i then tm else tms ops.length) _ = some r from by rw [if_neg (by omega)]; exact e4)
          · intro p hpp m hm he hbit
            by_cases em : m = i
            · subst em; rw [e2]; exact hpend p hpp hbit
            · exact e6 p hpp m (by omega) he hbit
    have skip : ∀ (tm' : T Value) (b : Bool), (∀ t, tm'.get t = tm.get t) → b = false →
        (match o.guard with
          | none => b = true
          | some (j, want) => ∃ d c, (ops[j]?).bind (·.dst) = some d ∧ tm.get d = some c ∧ wantV c want = some b) →
        (cond (isEff o) (recheck P O (bits.getD i 0) h pend (put nt tm' o.dst (some skipV) fun tm => evD P O nt ops bits rest (i + 1) tm h (h :: past) pend K))
          (put nt tm' o.dst (some skipV) fun tm => evD P O nt ops bits rest (i + 1) tm h past pend K)) = some r →
        ∃ tms res wn hE, tms i = tm ∧ hE (cN (effAt ops) i) = h ∧ (∀ q, q < past.length → past.reverse[q]? = some (hE q)) ∧ K (tms ops.length) (hE (cN (effAt ops) ops.length)) = some r ∧
          Trace P O nt ops bits i tms res wn hE ∧
          (∀ p ∈ pend, ∀ m, i ≤ m → effAt ops m = true → (bits.getD m 0).testBit p.j = false → Runs P O p.tm p.op (hE (cN (effAt ops) m + 1)) p.v (hE (cN (effAt ops) m + 1))) := by
      intro tm' b htm hb hg hk
      have hlen : i < ops.length := (List.getElem?_eq_some_iff.1 ho).1
      cases hne : isEff o with
      | true =>
        rw [hne, cond_true] at hk hcs
        obtain ⟨h3, hpend⟩ := recheck_inv hrd hk
        obtain ⟨tm2, h4, h5, h6⟩ := put_trace h3
        obtain ⟨tms, res, wn, hE, e1, e2, e3, e4, e5, e6⟩ := evD_trace rest (i + 1) tm2 h (h :: past) pend K r h4 hd' (by rw [hcs]; simp [hl]) hrd
        rw [hcs] at e2
        have eh : hE (cN (effAt ops) i) = h := by
          have := e3 past.length (by simp)
          simp only [List.reverse_cons] at this
          rw [List.getElem?_append_right (by simp)] at this
          simp at this
          rw [← hl]; exact this.symm
        refine ⟨_, _, _, hE, by simp, eh, fun q hq => ?_, ?_, e5.cons ho (tm := tm) (v := some skipV) (b := b) hg (fun _ => ⟨rfl, fun _ => by rw [eh, e2]⟩) (fun hf => by rw [hb] at hf; cases hf) (fun hf => by rw [hb] at hf; cases hf) (fun hf => by rw [hb] at hf; cases hf) ⟨h5, fun t => by rw [e1, h6, htm]⟩, ?_⟩
        · have := e3 q (by simp; omega)
          simp only [List.reverse_cons] at this
          rw [List.getElem?_append_left (by simpa using hq)] at this
          exact this
        · exact (show K (if ops.length = i then tm else tms ops.length) _ = some r from by rw [if_neg (by omega)]; exact e4)
        · intro p hpp m hm he hbit
          by_cases em : m = i
          · subst em; rw [e2]; exact hpend p hpp hbit
          · exact e6 p hpp m (by omega) he hbit
      | false =>
        rw [hne, cond_false] at hk
        replace hcs : cN (effAt ops) (i + 1) = cN (effAt ops) i := by rw [hcs, hne]; rfl
        obtain ⟨tm2, h4, h5, h6⟩ := put_trace hk
        obtain ⟨tms, res, wn, hE, e1, e2, e3, e4, e5, e6⟩ := evD_trace rest (i + 1) tm2 h past pend K r h4 hd' (by rw [hcs]; exact hl) hrd
        rw [hcs] at e2
        refine ⟨_, _, _, hE, by simp, e2, e3, ?_, e5.cons ho (tm := tm) (v := some skipV) (b := b) hg (fun _ => ⟨rfl, fun hf => by rw [hne] at hf; cases hf⟩) (fun hf => by rw [hb] at hf; cases hf) (fun hf => by rw [hb] at hf; cases hf) (fun hf => by rw [hb] at hf; cases hf) ⟨h5, fun t => by rw [e1, h6, htm]⟩, ?_⟩
        · exact (show K (if ops.length = i then tm else tms ops.length) _ = some r from by rw [if_neg (by omega)]; exact e4)
        · intro p hpp m hm he
          by_cases em : m = i
          · subst em; rw [heffat, hne] at he; cases he
          · exact e6 p hpp m (by omega) he
    simp only [evD] at hk
    split at hk
    · rename_i hg
      exact run tm true (fun _ => rfl) rfl (by rw [hg]) hk
    · rename_i j want hg
      split at hk
      · cases hk
      · rename_i d hdst
        split at hk
        · rename_i b hb
          have hs := set_same hb
          cases b with
          | true =>
            simp only [cond_true] at hk
            cases want with
            | true => exact run _ true hs rfl (by rw [hg]; exact ⟨d, _, hdst, hb, rfl⟩) hk
            | false => exact skip _ false hs rfl (by rw [hg]; exact ⟨d, _, hdst, hb, rfl⟩) hk
          | false =>
            simp only [cond_false] at hk
            cases want with
            | true => exact skip _ false hs rfl (by rw [hg]; exact ⟨d, _, hdst, hb, rfl⟩) hk
            | false => exact run _ true hs rfl (by rw [hg]; exact ⟨d, _, hdst, hb, rfl⟩) hk
        · rename_i vs hb
          exact skip _ false (fun _ => rfl) rfl (by rw [hg]; exact ⟨d, _, hdst, hb, rfl⟩) hk
        · cases hk
end
end Go.Lg

namespace Go.Lg
open Go

def curN (dst : Nat → Option Tmp) (res : Nat → Option Value) (L : Nat → Bool) (t : Nat) (x0 : Option Value) : Nat → Option Value
  | 0 => x0
  | m + 1 => if L m = true ∧ dst m = some t then res m else curN dst res L t x0 m

section
variable {dst : Nat → Option Tmp} {res : Nat → Option Value} {L L' : Nat → Bool} {t : Nat} {x0 : Option Value}
theorem curN_congr : ∀ {n : Nat}, (∀ k, k < n → dst k = some t → L k = L' k) → curN dst res L t x0 n = curN dst res L' t x0 n
  | 0, _ => rfl
  | n + 1, h => by
    simp only [curN]
    rw [curN_congr (n := n) fun k hk => h k (by omega)]
    by_cases hd : dst n = some t
    · rw [h n (by omega) hd]
    · simp [hd]
theorem curN_tail {m : Nat} : ∀ {n : Nat}, m ≤ n → (∀ k, m ≤ k → k < n → dst k = some t → L k = false) → curN dst res L t x0 n = curN dst res L t x0 m
  | 0, h, _ => by have : m = 0 := by omega
                  subst this; rfl
  | n + 1, h, hp => by
    by_cases e : m = n + 1
    · rw [e]
    · simp only [curN]
      rw [curN_tail (n := n) (by omega) fun k h1 h2 => hp k h1 (by omega)]
      rw [if_neg]
      rintro ⟨h1, h2⟩
      rw [hp n (by omega) (by omega) h2] at h1
      cases h1
end

theorem scrub_get_mem (tm : T Value) : ∀ (ks : List Nat) (t : Nat), t ∈ ks → (scrub tm ks).get t = tm.get t
  | k :: ks, t, h => by
    simp only [scrub, T.get_set]
    by_cases e : t = k
    · subst e; simp
    · rw [if_neg e]
      rcases List.mem_cons.1 h with h | h
      · exact absurd h e
      · exact scrub_get_mem tm ks t h
theorem scrub_mem (tm : T Value) : ∀ (ks : List Nat) (t : Nat) (v : Value), (scrub tm ks).get t = some v → t ∈ ks ∧ tm.get t = some v
  | [], t, v, h => by simp [scrub, T.get_nil] at h
  | k :: ks, t, v, h => by
    simp only [scrub, T.get_set] at h
    by_cases e : t = k
    · subst e; rw [if_pos rfl] at h; exact ⟨by simp, h⟩
    · rw [if_neg e] at h
      obtain ⟨h1, h2⟩ := scrub_mem tm ks t v h
      exact ⟨by simp [h1], h2⟩

section
variable {P : Program} {O : Orc} {nt : Nat} {ops : Array Oper}

def dstAt (ops : Array Oper) (k : Nat) : Option Tmp := (ops[k]?).bind (·.dst)
def Lof (listed : Array Bool) (k : Nat) : Bool := listed.getD k false

theorem mem_edges {o : Oper} {e : Edge} (he : e ∈ o.after) (hb : Region.binds .any e = true) : e.on ∈ edgesOf o :=
  List.mem_map.2 ⟨e, List.mem_filter.2 ⟨by simpa using he, hb⟩, rfl⟩
theorem edges_mem {o : Oper} {x : Nat} (h : x ∈ edgesOf o) : ∃ e ∈ o.after, Region.binds .any e = true ∧ e.on = x := by
  obtain ⟨e, he, rfl⟩ := List.mem_map.1 h
  obtain ⟨h1, h2⟩ := List.mem_filter.1 he
  exact ⟨e, by simpa using h1, h2, rfl⟩

/-- what is ahead of a thing that is done, is done -/
def Closed (ops : Array Oper) (listed : Array Bool) : Prop := ∀ (k : Nat) (o : Oper), Lof listed k = true → ops[k]? = some o → ∀ e ∈ edgesOf o, Lof listed e = true

structure Stat (ops : Array Oper) (bits : List Nat) : Prop where
  isBits : ∀ (i : Nat) (o : Oper), ops[i]? = some o → bits.getD i 0 = bitsOf bits (edgesOf o)
  edges : ∀ (i : Nat) (o : Oper), ops[i]? = some o → ∀ e ∈ edgesOf o, e < i
  guard : ∀ (i : Nat) (o : Oper) (g : Nat) (b : Bool), ops[i]? = some o → o.guard = some (g, b) → g < i
  pair : ∀ (i j : Nat), i < ops.size → j < i → pairOK ops.toList bits i j = true
  late : ∀ (i j k : Nat), i < ops.size → j < i → k < j → lateAt ops.toList j = true → (bits.getD i 0).testBit j = true → effAt ops.toList k = true → (bits.getD i 0).testBit k = true

theorem stat_of {ops : Array Oper} (h : statOK ops.toList (befL ops.toList []) = true) : Stat ops (befL ops.toList []) := by
  have hall := allBelow_spec h
  obtain ⟨_, _, _, hsp⟩ := befL_spec ops.toList []
  have hget : ∀ i o, ops[i]? = some o → ops.toList[i]? = some o := fun i o ho => by rw [Array.getElem?_toList]; exact ho
  have hlt : ∀ i o, ops[i]? = some o → i < ops.toList.length := fun i o ho => by
    have := (Array.getElem?_eq_some_iff.1 ho).1; simpa using this
  have hedge : ∀ (i : Nat) (o : Oper), ops[i]? = some o → ∀ e ∈ edgesOf o, e < i := by
    intro i o ho e he
    have := hall i (hlt i o ho)
    rw [hget i o ho] at this
    simp only [Bool.and_eq_true, List.all_eq_true] at this
    exact Nat.le_of_ble_eq_true (this.1.1.1 e he)
  refine ⟨fun i o ho => ?_, hedge, fun i o g b ho hg => ?_, fun i j hi hj => ?_, fun i j k hi hj hkj hl hb hke => ?_⟩
  · have := hsp i o (hget i o ho) (fun e he => by simpa using hedge i o ho e he)
    simpa using this
  · have := hall i (hlt i o ho)
    rw [hget i o ho] at this
    simp only [Bool.and_eq_true, hg] at this
    exact Nat.le_of_ble_eq_true this.1.1.2.1
  · have hi' : i < ops.toList.length := by simpa using hi
    have := hall i hi'
    rw [List.getElem?_eq_getElem hi'] at this
    simp only [Bool.and_eq_true] at this
    exact allBelow_spec this.1.2 j hj
  · have hi' : i < ops.toList.length := by simpa using hi
    have := hall i hi'
    rw [List.getElem?_eq_getElem hi'] at this
    simp only [Bool.and_eq_true] at this
    have h1 := allBelow_spec this.2 j hj
    simp only [hl, hb, Bool.and_self, cond_true] at h1
    have h2 := allBelow_spec h1 k hkj
    simp only [hke, cond_true] at h2
    exact h2

theorem bits_closed {bits : List Nat} (hs : Stat ops bits) {listed : Array Bool} (hc : Closed ops listed) : ∀ (i : Nat) (o : Oper), ops[i]? = some o → (∀ e ∈ edgesOf o, Lof listed e = true) → ∀ j, (bits.getD i 0).testBit j = true → Lof listed j = true := by
  intro i
  induction i using Nat.strongRecOn with
  | _ i ih =>
    intro o ho he j hj
    rw [hs.isBits i o ho] at hj
    obtain ⟨e, hem, h⟩ := testBit_bitsOf hj
    rcases h with rfl | h
    · exact he e hem
    · have hlt := hs.edges i o ho e hem
      have hle := he e hem
      have hsz : i < ops.size := (Array.getElem?_eq_some_iff.1 ho).1
      obtain ⟨o', ho'⟩ : ∃ o', ops[e]? = some o' := ⟨ops[e], Array.getElem?_eq_getElem (by omega)⟩
      exact ih e hlt o' ho' (hc e o' hle ho') j h

theorem looks_mem {o : Oper} {t : Nat} (h : Operand.tmp t ∈ o.op.operands) : t ∈ looks ops.toList o := by
  unfold looks
  exact List.mem_append_right _ (tmpsIn_mem (by simpa using h))
theorem looks_guard {o : Oper} {g d : Nat} {b : Bool} (hg : o.guard = some (g, b)) (hd : (ops.toList[g]?).bind (·.dst) = some d) : d ∈ looks ops.toList o := by
  unfold looks
  rw [hg]
  refine List.mem_append_left _ ?_
  show d ∈ ((ops.toList[g]?).bind (·.dst)).toList
  rw [hd]
  simp

theorem effAt_eq {i : Nat} {o : Oper} (ho : ops[i]? = some o) : effAt ops.toList i = isEff o := by
  unfold effAt
  rw [Array.getElem?_toList, ho]

/-- what is done and counted: a new block that was made early is counted when all that is ahead of it is -/
structure Cnt (ops : Array Oper) (listed : Array Bool) (C : Nat → Bool) : Prop where
  sub : ∀ k, C k = true → Lof listed k = true
  pend : ∀ k, k < ops.size → Lof listed k = true → C k = false → lateAt ops.toList k = true ∧ ∃ j, j < k ∧ effAt ops.toList j = true ∧ C j = false
  late : ∀ k j, C k = true → lateAt ops.toList k = true → j < k → effAt ops.toList j = true → C j = true
theorem late_eff {o : Oper} (h : isLate o = true) : isEff o = true := by
  unfold isLate at h
  split at h
  · rename_i e h1 h2; simp [isEff, h1, isPure, isRead]
  · cases h
theorem lateAt_eff {ops : List Oper} {k : Nat} (h : lateAt ops k = true) : effAt ops k = true := by
  unfold lateAt at h
  unfold effAt
  split at h
  · exact late_eff h
  · cases h
/-- who may come now, or has come, has all ahead of it counted -/
theorem cnt_closed {bits : List Nat} (hs : Stat ops bits) {listed : Array Bool} {C : Nat → Bool} (hc : Closed ops listed) (hC : Cnt ops listed C) {i : Nat} {o : Oper} (ho : ops[i]? = some o) (he : ∀ e ∈ edgesOf o, Lof listed e = true) : ∀ j, j < i → (bits.getD i 0).testBit j = true → C j = true := by
  have hi : i < ops.size := (Array.getElem?_eq_some_iff.1 ho).1
  have hbit := bits_closed hs hc i o ho he
  intro j
  induction j using Nat.strongRecOn with
  | _ j ih =>
    intro hji hj
    cases hCj : C j with
    | true => rfl
    | false =>
      obtain ⟨hl, k, hkj, hke, hkC⟩ := hC.pend j (by omega) (hbit j hj) hCj
      have := ih k hkj (by omega) (hs.late i j k hi hji hkj hl hj hke)
      rw [hkC] at this; cases this
/-- who is in order with the next operation -/
structure Next (ops : Array Oper) (C : Nat → Bool) (i : Nat) (o : Oper) : Prop where
  writers : ∀ k t, k < ops.size → dstAt ops k = some t → (t ∈ looks ops.toList o ∨ o.dst = some t) → k ≠ i → C k = decide (k < i)
  effs : isEff o = true → (isLate o = true → ∀ k, k < i → effAt ops.toList k = true → C k = true) → ∀ k, k < ops.size → effAt ops.toList k = true → k ≠ i → C k = decide (k < i)

theorem bits_lt {bits : List Nat} (hs : Stat ops bits) : ∀ (i : Nat) (o : Oper), ops[i]? = some o → ∀ j, (bits.getD i 0).testBit j = true → j < i := by
  intro i
  induction i using Nat.strongRecOn with
  | _ i ih =>
    intro o ho j hj
    rw [hs.isBits i o ho] at hj
    obtain ⟨e, hem, h⟩ := testBit_bitsOf hj
    have hlt := hs.edges i o ho e hem
    rcases h with rfl | h
    · exact hlt
    · have hsz : i < ops.size := (Array.getElem?_eq_some_iff.1 ho).1
      have := ih e hlt ops[e] (Array.getElem?_eq_getElem (by omega)) j h
      omega

theorem next_of {bits : List Nat} (hs : Stat ops bits) {listed : Array Bool} {C : Nat → Bool} (hc : Closed ops listed) (hC : Cnt ops listed C) {i : Nat} {o : Oper} (ho : ops[i]? = some o) (hun : Lof listed i = false) (hready : ∀ e ∈ edgesOf o, Lof listed e = true) : Next ops C i o := by
  have hi : i < ops.size := (Array.getElem?_eq_some_iff.1 ho).1
  have hbit : ∀ j, (bits.getD i 0).testBit j = true → C j = true := fun j hj => cnt_closed hs hc hC ho hready j (bits_lt hs i o ho j hj) hj
  have later : ∀ k, i < k → k < ops.size → (bits.getD k 0).testBit i = true → C k = false := by
    intro k hik hk hb
    cases hL : C k with
    | false => rfl
    | true =>
      have hL' := hC.sub k hL
      have := bits_closed hs hc k ops[k] (Array.getElem?_eq_getElem hk) (hc k _ hL' (Array.getElem?_eq_getElem hk)) i hb
      rw [hun] at this; cases this
  have gi : ops.toList[i]? = some o := by rw [Array.getElem?_toList]; exact ho
  refine ⟨fun k t hk hd ht hne => ?_, fun he hlate k hk hek hne => ?_⟩
  · have gk : ops.toList[k]? = some ops[k] := by rw [Array.getElem?_toList]; exact Array.getElem?_eq_getElem hk
    have hdk : ops[k].dst = some t := by simpa [dstAt, Array.getElem?_eq_getElem hk] using hd
    rcases Nat.lt_or_ge k i with h | h
    · have hp := hs.pair i k hi h
      unfold pairOK at hp
      rw [gi, gk] at hp
      have : dstIn ops[k].dst (o.dst.toList ++ looks ops.toList o) = true := by
        simp only [dstIn, hdk, memN_iff, List.mem_append, Option.mem_toList]
        exact ht.elim .inr .inl
      simp only [this, Bool.true_or, cond_true] at hp
      rw [hbit k hp]; simp [h]
    · have hik : i < k := by omega
      have hp := hs.pair k i hk hik
      unfold pairOK at hp
      rw [gi, gk] at hp
      have : (dstIn o.dst (ops[k].dst.toList ++ looks ops.toList ops[k]) || dstIn ops[k].dst (looks ops.toList o)) = true := by
        rcases ht with ht | ht
        · simp only [dstIn, hdk, memN_iff.2 ht, Bool.or_true]
        · have : dstIn o.dst (ops[k].dst.toList ++ looks ops.toList ops[k]) = true := by
            simp only [dstIn, ht, memN_iff, List.mem_append, Option.mem_toList, hdk]
            exact .inl trivial
          rw [this]; rfl
      simp only [this, Bool.true_or, cond_true] at hp
      rw [later k hik hk hp]; simp; omega
  · have gk : ops.toList[k]? = some ops[k] := by rw [Array.getElem?_toList]; exact Array.getElem?_eq_getElem hk
    have hek' : isEff ops[k] = true := by rw [← effAt_eq (Array.getElem?_eq_getElem hk)]; exact hek
    rcases Nat.lt_or_ge k i with h | h
    · cases hl : isLate o with
      | true => rw [hlate hl k h hek]; simp [h]
      | false =>
        have hp := hs.pair i k hi h
        unfold pairOK at hp
        rw [gi, gk] at hp
        simp only [he, hek', hl, Bool.not_false, Bool.and_self, Bool.or_true, cond_true] at hp
        rw [hbit k hp]; simp [h]
    · have hik : i < k := by omega
      cases hl : isLate ops[k] with
      | true =>
        cases hCk : C k with
        | false => simp; omega
        | true =>
          have hlk : lateAt ops.toList k = true := by unfold lateAt; rw [gk]; exact hl
          have := hC.late k i hCk hlk hik (by rw [effAt_eq ho]; exact he)
          have := hC.sub i this
          rw [hun] at this; cases this
      | false =>
        have hp := hs.pair k i hk hik
        unfold pairOK at hp
        rw [gi, gk] at hp
        simp only [he, hek', hl, Bool.not_false, Bool.and_self, Bool.or_true, cond_true] at hp
        rw [later k hik hk hp]; simp; omega
end
end Go.Lg

namespace Go.Lg
open Go

theorem evD_evOps {P : Program} {O : Orc} {nt : Nat} {ops : List Oper} {bits : List Nat} : ∀ (l : List Oper) (i : Nat) (tm : T Value) (h : AH) (pend : List Pend) (K : T Value → AH → Res), (∀ o ∈ l, isEff o = false) →
    evD P O nt ops bits l i tm h [] pend K = evOps P O nt ops l tm h K
  | [], _, _, _, _, _, _ => rfl
  | o :: rest, i, tm, h, pend, K, hn => by
    have ho := hn o (by simp)
    have ih := fun i tm h pend => evD_evOps (P := P) (O := O) (nt := nt) (ops := ops) (bits := bits) rest i tm h pend K fun x hx => hn x (by simp [hx])
    have run : ∀ tm, (cond (isPure o.op) (evOpX P O tm o.type o.op h fun v _ => put nt tm o.dst v fun tm => evD P O nt ops bits rest (i + 1) tm h [] pend K)
      (cond (isRead o.op)
        (evOp P O tm o.op h fun v _ => reck P O tm o.op v (([] : List AH).take (([] : List AH).length - cN (fun k => effAt ops k && (bits.getD i 0).testBit k) i))
          (put nt tm o.dst v fun tm' => evD P O nt ops bits rest (i + 1) tm' h [] (⟨i, o.op, tm, v⟩ :: pend) K))
        (evOpX P O tm o.type o.op h fun v h' => recheck P O (bits.getD i 0) h' pend (put nt tm o.dst v fun tm => evD P O nt ops bits rest (i + 1) tm h' (h :: []) pend K)))) =
        evOpX P O tm o.type o.op h fun v h => put nt tm o.dst v fun tm => evOps P O nt ops rest tm h K := by
      intro tm
      cases hp : isPure o.op with
      | true =>
        rw [cond_true, opX_pure hp h h (fun v h => put nt tm o.dst v fun tm => evOps P O nt ops rest tm h K)]
        simp only [ih]
      | false =>
        cases hr : isRead o.op with
        | true =>
          rw [cond_false, cond_true, opX_read hr, read_shift hr h (fun v h => put nt tm o.dst v fun tm => evOps P O nt ops rest tm h K)]
          simp only [List.take_nil, reck, ih]
        | false => simp [isEff, hp, hr] at ho
    have skip : ∀ tm, (cond (isEff o) (recheck P O (bits.getD i 0) h pend (put nt tm o.dst (some skipV) fun tm => evD P O nt ops bits rest (i + 1) tm h (h :: []) pend K))
        (put nt tm o.dst (some skipV) fun tm => evD P O nt ops bits rest (i + 1) tm h [] pend K)) = put nt tm o.dst (some skipV) fun tm => evOps P O nt ops rest tm h K := by
      intro tm
      rw [ho, cond_false]
      simp only [ih]
    simp only [evD, evOps, run, skip]
    cases o.guard with
    | none => rfl
    | some p =>
      obtain ⟨j, want⟩ := p
      simp only
      cases (ops[j]?).bind (·.dst) with
      | none => rfl
      | some d =>
        simp only
        cases tm.get d with
        | none => rfl
        | some v => cases v <;> rfl

section
variable {P : Program} {O : Orc} {nt : Nat} {ops : Array Oper}

theorem Lof_set {listed : Array Bool} {i k : Nat} (hi : i < listed.size) : Lof (listed.setIfInBounds i true) k = (Lof listed k || decide (k = i)) := by
  unfold Lof
  by_cases e : k = i
  · subst e; simp [hi]
  · simp [Array.getElem?_setIfInBounds_ne (Ne.symm e), e]

theorem cN_set {p q : Nat → Bool} {i : Nat} : ∀ {n : Nat}, i < n → p i = false → q i = true → (∀ k, k < n → k ≠ i → q k = p k) → cN q n = cN p n + 1
  | 0, h, _, _, _ => by omega
  | n + 1, h, hp, hq, he => by
    simp only [cN]
    by_cases e : i = n
    · subst e
      rw [cN_congr (p := q) (q := p) (n := i) fun k hk => he k (by omega) (by omega), hp, hq]
      rfl
    · rw [cN_set (n := n) (by omega) hp hq fun k hk => he k (by omega), he n (by omega) (Ne.symm e)]
      omega

structure LInv (P : Program) (O : Orc) (nt : Nat) (ops : Array Oper) (bits : List Nat) (φ0 : Emb) (w0 : World) (a0 : Act) (tms : Nat → T Value) (res : Nat → Option Value) (hE : Nat → AH) (listed : Array Bool) (C : Nat → Bool) (Bf : Nat → Nat) (φ : Emb) (a : Act) (w : World) : Prop where
  size : listed.size = ops.size
  closed : Closed ops listed
  sub : ∀ k, C k = true → Lof listed k = true
  late : ∀ k j, C k = true → lateAt ops.toList k = true → j < k → effAt ops.toList j = true → C j = true
  cl : ∀ k, C k = true → ∀ j, (bits.getD k 0).testBit j = true → C j = true
  good : Good φ0 w0 (hE (cN (fun k => effAt ops.toList k && C k) ops.size)) w φ
  tsize : a.tmps.size = nt
  temps : ∀ t v, (∀ k, k < ops.size → Lof listed k = true → C k = false → dstAt ops k ≠ some t) → curN (dstAt ops) res C t ((tms 0).get t) ops.size = some v → ∃ c, a.tmps[t]? = some c ∧ VR φ v c
  defers : a.defers = a0.defers
  pend : ∀ k, k < ops.size → Lof listed k = true → C k = false → lateAt ops.toList k = true ∧ (∀ j, (bits.getD k 0).testBit j = true → C j = true) ∧ (∀ t, dstAt ops k = some t → a.tmps[t]? = some (.pointer (some ⟨Bf k, 0, none⟩))) ∧
    (∃ o e z, ops[k]? = some o ∧ o.op = .alloc e ∧ zeroCellsOf P e = some z ∧ w.heap[Bf k]? = some (.cells z.toArray e (0, 0))) ∧ (∀ b t, φ b = some t → t.blk ≠ Bf k) ∧ w0.heap.size ≤ Bf k
  dist : ∀ k k', k < ops.size → k' < ops.size → Lof listed k = true → C k = false → Lof listed k' = true → C k' = false → k ≠ k' → Bf k ≠ Bf k'

def Sat (ops : Array Oper) (listed : Array Bool) (C : Nat → Bool) : Prop := ∀ k, k < ops.size → Lof listed k = true → C k = false → ∃ j, j < k ∧ effAt ops.toList j = true ∧ C j = false

theorem LInv.cnt {bits : List Nat} {φ0 : Emb} {w0 : World} {a0 : Act} {tms : Nat → T Value} {res : Nat → Option Value} {hE : Nat → AH} {listed : Array Bool} {C : Nat → Bool} {Bf : Nat → Nat} {φ : Emb} {a : Act} {w : World}
    (hi : LInv P O nt ops bits φ0 w0 a0 tms res hE listed C Bf φ a w) (hsat : Sat ops listed C) : Cnt ops listed C :=
  ⟨hi.sub, fun k hk h1 h2 => ⟨(hi.pend k hk h1 h2).1, hsat k hk h1 h2⟩, hi.late⟩

/-- what is in memory already, comes into sight -/
theorem absorb_rel {φ : Emb} {h : AH} {w : World} (hr : HRel φ h w) {B : Nat} {el : TypeId} {c : List Value} {esz : Nat} (hB : w.heap[B]? = some (.cells c.toArray el (0, 0))) (hne : ∀ b t, φ b = some t → t.blk ≠ B) (hfl : c.all flat1 = true) :
    HRel (grow φ h.n ⟨B, 0, c.length, esz, false⟩) (h.push (.cells c false false esz)) w := by
  have hsub := grow_sub hr ⟨B, 0, c.length, esz, false⟩
  have hBl : B < w.heap.size := (Array.getElem?_eq_some_iff.mp hB).1
  have hok := all_flat1_cellOk hfl
  have hv : VRs φ c c := flats_VRs hfl
  refine ⟨?_, ?_, ?_, ?_, ?_, ?_, ?_, ?_⟩
  · intro b t hb
    simp only [grow] at hb
    split at hb
    · rename_i e; simp [AH.push, e]
    · have := hr.lt b t hb; simp [AH.push]; omega
  · intro b t hb'
    simp only [grow] at hb'
    split at hb'
    · obtain rfl := Option.some.inj hb'; exact hBl
    · exact hr.blkLt b t hb'
  · intro b c' op' ro' esz' hb'
    rw [AH.get_push] at hb'
    by_cases e : b = h.n
    · subst e
      rw [if_pos rfl] at hb'
      simp only [Option.some.injEq, Blk.cells.injEq] at hb'
      obtain ⟨rfl, rfl, rfl, rfl⟩ := hb'
      refine ⟨_, grow_new φ h.n _, rfl, rfl, by simp, fun _ => ⟨_, el, hB, by simp⟩, fun k v hk => ?_⟩
      rw [cell_of_row _ B _ _ el (0, 0) hB]
      obtain ⟨v', h1, h2⟩ := hv.get k v hk
      refine ⟨by rw [List.all_eq_true] at hok; exact hok _ (List.mem_of_getElem? hk), v', ?_, h2.mono hsub⟩
      simpa using h1
    · rw [if_neg e] at hb'
      obtain ⟨t', g1, g2, g3, g4, g5, g6⟩ := hr.cells b c' op' ro' esz' hb'
      refine ⟨t', hsub _ _ g1, g2, g3, g4, g5, fun k v hk => ?_⟩
      obtain ⟨hc, v', h9, h10⟩ := g6 k v hk
      exact ⟨hc, v', h9, h10.mono hsub⟩
  · intro b es clk hb'
    rw [AH.get_push] at hb'
    by_cases e : b = h.n
    · subst e; rw [if_pos rfl] at hb'; cases hb'
    · rw [if_neg e] at hb'
      obtain ⟨t', es', g1, g2, g3, g4⟩ := hr.maps b es clk hb'
      exact ⟨t', es', hsub _ _ g1, g2, g3, g4.len, fun i e e' h1 h2 => let ⟨a, b, c, d⟩ := g4.at_ i e e' h1 h2; ⟨a, b, c, d.mono hsub⟩⟩
  · intro b1 b2 x x' t1 t2 hx hx' h1 h2 he
    rw [AH.get_push] at hx hx'
    simp only [grow] at h1 h2
    by_cases e1 : b1 = h.n
    · by_cases e2 : b2 = h.n
      · exact .inl (e1.trans e2.symm)
      · rw [if_pos e1] at h1
        rw [if_neg e2] at h2
        obtain rfl := Option.some.inj h1
        exact absurd he.symm (hne b2 t2 h2)
    · rw [if_neg e1] at h1 hx
      by_cases e2 : b2 = h.n
      · rw [if_pos e2] at h2
        obtain rfl := Option.some.inj h2
        exact absurd he (hne b1 t1 h1)
      · rw [if_neg e2] at h2 hx'
        exact hr.inj b1 b2 _ _ t1 t2 hx hx' h1 h2 he
  · intro b x hx
    rw [AH.get_push] at hx
    by_cases e : b = h.n
    · simp [AH.push, e]
    · rw [if_neg e] at hx
      have := hr.gets b x hx
      simp [AH.push]; omega
  · intro b c' esz' t' hx ht'
    rw [AH.get_push] at hx
    simp only [grow] at ht'
    by_cases e : b = h.n
    · rw [if_pos e] at ht'
      obtain rfl := Option.some.inj ht'
      rfl
    · rw [if_neg e] at hx ht'
      exact hr.sh0 _ _ _ _ hx ht'
  · intro b m since seen last hb
    rw [AH.get_push] at hb
    by_cases e : b = h.n
    · rw [if_pos e] at hb; cases hb
    · rw [if_neg e] at hb
      obtain ⟨t', cm, g1, g2, g3, g4, g5⟩ := hr.iters b m since seen last hb
      exact ⟨t', cm, hsub _ _ g1, g2, g3, g4, g5.mono hsub⟩

theorem HRel.heap_same' {φ : Emb} {h : AH} {w w' : World} (hr : HRel φ h w) (hs : w.heap.size ≤ w'.heap.size) (hh : ∀ B, B < w.heap.size → w'.heap[B]? = w.heap[B]?) : HRel φ h w' := by
  refine ⟨hr.lt, fun b t hb => Nat.lt_of_lt_of_le (hr.blkLt b t hb) hs, fun b c op ro esz hg => ?_, fun b es clk hg => ?_, hr.inj, hr.gets, hr.sh0, fun b m s l k hg => ?_⟩
  · obtain ⟨t, h1, h2, h3, h4, h5, h6⟩ := hr.cells b c op ro esz hg
    refine ⟨t, h1, h2, h3, h4, fun h0 => ?_, fun k v hk => ?_⟩
    · rw [hh _ (hr.blkLt b t h1)]; exact h5 h0
    · obtain ⟨a, v', b', c'⟩ := h6 k v hk
      refine ⟨a, v', ?_, c'⟩
      rw [← b']
      simp only [World.cell?]
      rw [hh _ (hr.blkLt b t h1)]
  · obtain ⟨t, es', h1, h2, h3, h4⟩ := hr.maps b es clk hg
    exact ⟨t, es', h1, h2, by rw [hh _ (hr.blkLt b t h1)]; exact h3, h4⟩
  · obtain ⟨t, cm, h1, h2, h3, h4, h5⟩ := hr.iters b m s l k hg
    exact ⟨t, cm, h1, h2, h3, by rw [hh _ (hr.blkLt b t h1)]; exact h4, h5⟩

/-- a new block, by itself -/
theorem alloc_wp {o : Oper} {e : TypeId} {z : List Value} (ho : o.op = .alloc e) (hz : zeroCellsOf P e = some z) {a : Act} {w : World} {next : Act → World → Prop} {Q : Exit → Act → World → Prop}
    (hnext : next (a.put o.dst (.pointer (some ⟨w.heap.size, 0, none⟩))) (w.alloc (.cells z.toArray e))) : o.wp P a w next Q := by
  obtain ⟨i, zv, hi, hz0, rfl, hsz, hfl⟩ := zeroCellsOf_inv hz
  obtain ⟨dst, op, ty, pos, after, guard⟩ := o
  subst ho
  rw [Array.toArray_toList] at hnext
  have hrun : (execOp a.eval ⟨dst, .alloc e, ty, pos, after, guard⟩).run P w = .ok (.value (.pointer (some ⟨w.heap.size, 0, none⟩))) (w.alloc (.cells zv.cells e)) := by
    refine run_v ?_
    simp [Instr.alloc, run_zeroValue' hi hz0, run_newVar]
  unfold Oper.wp
  rw [hrun]
  exact hnext

theorem zero_flat {e : TypeId} {z : List Value} (hz : zeroCellsOf P e = some z) : z.all flat1 = true := by
  obtain ⟨i, zv, hi, hz, rfl, hsz, hfl⟩ := zeroCellsOf_inv hz
  exact hfl
theorem runs_alloc {tm : T Value} {e : TypeId} {z : List Value} (hz : zeroCellsOf P e = some z) {h h' : AH} {v : Option Value} (hr : Runs P O tm (.alloc e) h v h') : v = some (.pointer (some ⟨h.n, 0, none⟩)) ∧ h' = h.push (.cells z false false z.length) := by
  classical
  have := hr fun v2 h2 => if v2 = some (.pointer (some ⟨h.n, 0, none⟩)) ∧ h2 = h.push (.cells z false false z.length) then some (.nilFunc, h) else none
  simp only [evOp, hz, Option.bind_some, and_self, if_true] at this
  by_cases hc : v = some (.pointer (some ⟨h.n, 0, none⟩)) ∧ h' = h.push (.cells z false false z.length)
  · exact hc
  · rw [if_neg hc] at this; cases this

theorem canon {bits : List Nat} {tms : Nat → T Value} {res : Nat → Option Value} {wn : Nat → Bool} {hE : Nat → AH} (ht : Trace P O nt ops.toList bits 0 tms res wn hE) (t : Nat) : ∀ i, i ≤ ops.size → (tms i).get t = curN (dstAt ops) res (fun _ => true) t ((tms 0).get t) i
  | 0, _ => rfl
  | i + 1, hi => by
    have ho : ops.toList[i]? = some ops[i] := by rw [Array.getElem?_toList]; exact Array.getElem?_eq_getElem (by omega)
    have := (ht.put i ops[i] (Nat.zero_le _) ho).2 t
    have hd : dstAt ops i = ops[i].dst := by simp [dstAt, Array.getElem?_eq_getElem (show i < ops.size by omega)]
    rw [this]
    simp only [curN, true_and, hd]
    rw [canon ht t i (by omega)]

theorem absorb {bits : List Nat} (hs : Stat ops bits) {φ0 : Emb} {w0 : World} {a0 : Act} {tms : Nat → T Value} {res : Nat → Option Value} {wn : Nat → Bool} {hE : Nat → AH} (ht : Trace P O nt ops.toList bits 0 tms res wn hE) {listed : Array Bool} {Bf : Nat → Nat} {a : Act} {w : World} :
    ∀ (m : Nat) (C : Nat → Bool) (φ : Emb), cN (fun k => Lof listed k && !C k) ops.size ≤ m → LInv P O nt ops bits φ0 w0 a0 tms res hE listed C Bf φ a w → ∃ C' φ', LInv P O nt ops bits φ0 w0 a0 tms res hE listed C' Bf φ' a w ∧ Sat ops listed C' := by
  intro m
  induction m with
  | zero =>
    intro C φ hm hi
    refine ⟨C, φ, hi, fun k hk h1 h2 => ?_⟩
    have := cN_set (p := fun _ => false) (q := fun j => decide (j = k)) (i := k) hk rfl (by simp) (fun j _ hj => by simp [hj])
    have hle := cN_le (p := fun j => decide (j = k)) (q := fun j => Lof listed j && !C j) (n := ops.size) fun j _ hj => by
      simp only [decide_eq_true_eq] at hj; subst hj; simp [h1, h2]
    omega
  | succ m ih =>
    intro C φ hm hi
    by_cases hsat : Sat ops listed C
    · exact ⟨C, φ, hi, hsat⟩
    · obtain ⟨k, hk, h1, h2, hall⟩ : ∃ k, k < ops.size ∧ Lof listed k = true ∧ C k = false ∧ ∀ j, j < k → effAt ops.toList j = true → C j = true := by
        simp only [Sat, Classical.not_forall, not_exists, not_and, Bool.not_eq_false] at hsat
        obtain ⟨k, hk, h1, h2, h3⟩ := hsat
        exact ⟨k, hk, h1, h2, h3⟩
      obtain ⟨p1, p2, p3, ⟨o, e, z, q1, q2, q3, q4⟩, p5, p6⟩ := hi.pend k hk h1 h2
      have gk : ops.toList[k]? = some o := by rw [Array.getElem?_toList]; exact q1
      have hlo : isLate o = true := by unfold lateAt at p1; rw [gk] at p1; exact p1
      have heo : isEff o = true := late_eff hlo
      have hek : effAt ops.toList k = true := lateAt_eff p1
      have behind : ∀ j, k < j → j < ops.size → effAt ops.toList j = true → C j = false := by
        intro j hkj hj hje
        cases hCj : C j with
        | false => rfl
        | true =>
          exfalso
          cases hlj : lateAt ops.toList j with
          | true =>
            have := hi.late j k hCj hlj hkj hek
            rw [h2] at this; cases this
          | false =>
            have hp := hs.pair j k hj hkj
            have gj : ops.toList[j]? = some ops[j] := by rw [Array.getElem?_toList]; exact Array.getElem?_eq_getElem hj
            unfold pairOK at hp
            rw [gj, gk] at hp
            have e1 : isEff ops[j] = true := by rw [← effAt_eq (Array.getElem?_eq_getElem hj)]; exact hje
            have e2 : isLate ops[j] = false := by unfold lateAt at hlj; rw [gj] at hlj; exact hlj
            simp only [e1, heo, e2, Bool.not_false, Bool.and_self, Bool.or_true, cond_true] at hp
            have := hi.cl j hCj k hp
            rw [h2] at this; cases this
      have hcnt : cN (fun j => effAt ops.toList j && C j) ops.size = cN (effAt ops.toList) k := by
        rw [cN_tail (m := k) (by omega) fun j hj1 hj2 => by
          by_cases e : j = k
          · subst e; simp [h2]
          · cases he : effAt ops.toList j with
            | false => rfl
            | true => rw [behind j (by omega) hj2 he]; rfl]
        refine cN_congr fun j hj => ?_
        cases he : effAt ops.toList j with
        | false => rfl
        | true => rw [hall j hj he]; rfl
      have hcnt' : cN (fun j => effAt ops.toList j && (C j || decide (j = k))) ops.size = cN (effAt ops.toList) k + 1 := by
        rw [cN_set (p := fun j => effAt ops.toList j && C j) (i := k) hk (by simp [h2]) (by simp [hek]) fun j _ hj => by simp [hj], hcnt]
      have hwn : wn k = true := by
        have := ht.guard k o (Nat.zero_le _) gk
        have hg : o.guard = none := by
          unfold isLate at hlo
          split at hlo
          · assumption
          · cases hlo
        rw [hg] at this; exact this
      have hrun := ht.eff k o (Nat.zero_le _) gk hwn heo
      rw [q2] at hrun
      obtain ⟨r1, r2⟩ := runs_alloc q3 hrun
      have hgd := hi.good
      rw [hcnt] at hgd
      have hrel := absorb_rel (esz := z.length) hgd.rel q4 p5 (zero_flat q3)
      have hsub := grow_sub hgd.rel ⟨Bf k, 0, z.length, z.length, false⟩
      have hput := ht.put k o (Nat.zero_le _) gk
      have hdk : dstAt ops k = o.dst := by simp [dstAt, q1]
      refine ih (fun j => C j || decide (j = k)) (grow φ (hE (cN (effAt ops.toList) k)).n ⟨Bf k, 0, z.length, z.length, false⟩) ?_ ⟨hi.size, hi.closed, fun j hj => ?_, fun j j' hj hl hjj he => ?_, fun j hj j' hb => ?_, ?_, hi.tsize, fun t v hnp hcur => ?_, hi.defers, fun j hj hL hC => ?_, fun j j' hj hj' l1 c1 l2 c2 hne => ?_⟩
      · have := cN_set (p := fun j => Lof listed j && !(C j || decide (j = k))) (q := fun j => Lof listed j && !C j) (i := k) (n := ops.size) hk (by simp) (by simp [h1, h2]) fun j _ hj => by simp [hj]
        omega
      · simp only [Bool.or_eq_true, decide_eq_true_eq] at hj
        rcases hj with hj | rfl
        · exact hi.sub j hj
        · exact h1
      · simp only [Bool.or_eq_true, decide_eq_true_eq] at hj ⊢
        rcases hj with hj | rfl
        · exact .inl (hi.late j j' hj hl hjj he)
        · exact .inl (hall j' hjj he)
      · simp only [Bool.or_eq_true, decide_eq_true_eq] at hj ⊢
        rcases hj with hj | rfl
        · exact .inl (hi.cl j hj j' hb)
        · exact .inl (p2 j' hb)
      · rw [hcnt', r2]
        refine ⟨⟨hgd.ext.1.trans hsub, fun b t hb => ?_⟩, hgd.fr, hrel⟩
        simp only [grow] at hb
        split at hb
        · obtain rfl := Option.some.inj hb; exact .inr (.inl p6)
        · exact hgd.ext.2 b t hb
      · by_cases hdt : dstAt ops k = some t
        · have hcur' : curN (dstAt ops) res (fun j => C j || decide (j = k)) t ((tms 0).get t) ops.size = res k := by
            rw [curN_tail (m := k + 1) (n := ops.size) (by omega) fun j g1 g2 g3 => by
              have hne : ¬ j = k := by omega
              simp only [hne, decide_false, Bool.or_false]
              cases hCj : C j with
              | false => rfl
              | true =>
                exfalso
                have hp := hs.pair j k g2 (by omega)
                have gj : ops.toList[j]? = some ops[j] := by rw [Array.getElem?_toList]; exact Array.getElem?_eq_getElem g2
                have hdj : ops[j].dst = some t := by simpa [dstAt, Array.getElem?_eq_getElem g2] using g3
                unfold pairOK at hp
                rw [gj, gk] at hp
                have : dstIn o.dst (ops[j].dst.toList ++ looks ops.toList ops[j]) = true := by
                  rw [hdk] at hdt
                  simp only [dstIn, hdt, memN_iff, List.mem_append, Option.mem_toList, hdj]
                  exact .inl trivial
                simp only [this, Bool.true_or, cond_true] at hp
                have := hi.cl j hCj k hp
                rw [h2] at this; cases this]
            simp only [curN]
            rw [if_pos ⟨by simp, hdt⟩]
          rw [hcur', r1] at hcur
          obtain rfl := Option.some.inj hcur
          refine ⟨_, p3 t hdt, ?_⟩
          have := @VR.ptr (grow φ (hE (cN (effAt ops.toList) k)).n ⟨Bf k, 0, z.length, z.length, false⟩) (hE (cN (effAt ops.toList) k)).n 0 _ (grow_new φ _ _)
          simpa using this
        · have hcur' : curN (dstAt ops) res (fun j => C j || decide (j = k)) t ((tms 0).get t) ops.size = curN (dstAt ops) res C t ((tms 0).get t) ops.size :=
            curN_congr fun j hj hd => by
              by_cases e : j = k
              · subst e; exact absurd hd hdt
              · simp [e]
          rw [hcur'] at hcur
          obtain ⟨c, g1, g2⟩ := hi.temps t v (fun j hj hL hC => by
            by_cases e : j = k
            · subst e; exact hdt
            · exact hnp j hj hL (by simp [hC, e])) hcur
          exact ⟨c, g1, g2.mono hsub⟩
      · simp only [Bool.or_eq_false_iff, decide_eq_false_iff_not] at hC
        obtain ⟨g1, g2, g3, g4, g5, g6⟩ := hi.pend j hj hL hC.1
        refine ⟨g1, fun j' hb => by simp [g2 j' hb], g3, g4, fun b t hb => ?_, g6⟩
        simp only [grow] at hb
        split at hb
        · obtain rfl := Option.some.inj hb
          exact hi.dist k j hk hj h1 h2 hL hC.1 (Ne.symm hC.2)
        · exact g5 b t hb
      · simp only [Bool.or_eq_false_iff, decide_eq_false_iff_not] at c1 c2
        exact hi.dist j j' hj hj' l1 c1.1 l2 c2.1 hne

theorem lin {bits : List Nat} (hs : Stat ops bits) (hO : CallsOK P O) {φ0 : Emb} {w0 : World} {a0 : Act} {tms : Nat → T Value} {res : Nat → Option Value} {wn : Nat → Bool} {hE : Nat → AH} (ht : Trace P O nt ops.toList bits 0 tms res wn hE) {Q : Exit → Act → World → Prop}
    (hfin : ∀ φ a w, Good φ0 w0 (hE (cN (effAt ops.toList) ops.size)) w φ → TR φ (tms ops.size) nt a.tmps → a.defers = a0.defers → Q .normal a w) :
    ∀ (fuel : Nat) (listed : Array Bool) (C : Nat → Bool) (Bf : Nat → Nat) (φ : Emb) (a : Act) (w : World), LInv P O nt ops bits φ0 w0 a0 tms res hE listed C Bf φ a w → Sat ops listed C → cN (fun k => !Lof listed k) ops.size ≤ fuel → wpAny P .any ops Q fuel listed a w := by
  have hsizeL : ops.toList.length = ops.size := by simp
  -- the end
  have done : ∀ listed C Bf φ a w, LInv P O nt ops bits φ0 w0 a0 tms res hE listed C Bf φ a w → Sat ops listed C → (∀ k, k < ops.size → Lof listed k = true) → Q .normal a w := by
    intro listed C Bf φ a w hi hsat hall0
    have hall : ∀ k, k < ops.size → C k = true := by
      intro k
      induction k using Nat.strongRecOn with
      | _ k ihk =>
        intro hk
        cases hCk : C k with
        | true => rfl
        | false =>
          obtain ⟨j, g1, _, g3⟩ := hsat k hk (hall0 k hk) hCk
          rw [ihk j g1 (by omega)] at g3; cases g3
    refine hfin φ a w ?_ ⟨hi.tsize, fun t v hv => hi.temps t v (fun k hk _ hC => by rw [hall k hk] at hC; cases hC) ?_⟩ hi.defers
    · rw [← cN_congr (p := fun k => effAt ops.toList k && C k) (n := ops.size) fun k hk => by rw [hall k hk, Bool.and_true]]; exact hi.good
    · rw [← hv, canon ht t ops.size (Nat.le_refl _)]
      exact curN_congr fun k hk _ => hall k hk
  have ready_all : ∀ listed, listed.size = ops.size → Closed ops listed → Region.ready .any ops listed = [] → ∀ k, k < ops.size → Lof listed k = true := by
    intro listed hsz hc hr k
    induction k using Nat.strongRecOn with
    | _ k ih =>
      intro hk
      cases hL : Lof listed k with
      | true => rfl
      | false =>
        exfalso
        have : k ∈ Region.ready .any ops listed := by
          rw [mem_ready]
          refine ⟨?_, ops[k], Array.getElem?_eq_getElem hk, fun e he hb => ?_⟩
          · unfold Lof at hL
            have hlt : k < listed.size := by omega
            simp [hlt] at hL ⊢
            exact hL
          · have hed := mem_edges he hb
            exact ih e.on (hs.edges k _ (Array.getElem?_eq_getElem hk) _ hed) (by have := hs.edges k _ (Array.getElem?_eq_getElem hk) _ hed; omega)
        rw [hr] at this
        cases this
  intro fuel
  induction fuel with
  | zero =>
    intro listed C Bf φ a w hi hsat hf
    have hall : ∀ k, k < ops.size → Lof listed k = true := by
      intro k hk
      cases hL : Lof listed k with
      | true => rfl
      | false =>
        exfalso
        have h1 : cN (fun j => !Lof listed j) ops.size ≥ 1 := by
          have := cN_set (p := fun _ => false) (q := fun j => decide (j = k)) (i := k) hk rfl (by simp) (fun j _ hj => by simp [hj])
          have hle := cN_le (p := fun j => decide (j = k)) (q := fun j => !Lof listed j) (n := ops.size) fun j _ hj => by
            simp only [decide_eq_true_eq] at hj; subst hj; simp [hL]
          omega
        omega
    refine ⟨?_, done listed C Bf φ a w hi hsat hall⟩
    cases hr : Region.ready .any ops listed with
    | nil => rfl
    | cons x xs =>
      exfalso
      have hx : x ∈ Region.ready .any ops listed := by rw [hr]; simp
      obtain ⟨h1, o, ho, _⟩ := mem_ready.1 hx
      have hxs : x < ops.size := (Array.getElem?_eq_some_iff.1 ho).1
      have := hall x hxs
      unfold Lof at this
      have hlt : x < listed.size := by rw [hi.size]; exact hxs
      simp [hlt] at h1 this
      rw [h1] at this; cases this
  | succ fuel ih =>
    intro listed C Bf φ a w hi hsat hf
    refine ⟨fun hr => done listed C Bf φ a w hi hsat (ready_all listed hi.size hi.closed hr), fun i hir => ?_⟩
    obtain ⟨hunD, o, ho, hedges⟩ := mem_ready.1 hir
    have hisz : i < ops.size := (Array.getElem?_eq_some_iff.1 ho).1
    have hil : i < listed.size := by rw [hi.size]; exact hisz
    have hun : Lof listed i = false := by
      unfold Lof
      simp [hil] at hunD ⊢
      exact hunD
    have hready : ∀ e ∈ edgesOf o, Lof listed e = true := by
      intro e he
      obtain ⟨ed, h1, h2, rfl⟩ := edges_mem he
      exact hedges ed h1 h2
    have hcnt := hi.cnt hsat
    have hnext := next_of hs hi.closed hcnt ho hun hready
    have hunC : C i = false := by
      cases hC : C i with
      | false => rfl
      | true => rw [hi.sub i hC] at hun; cases hun
    have hbitC : ∀ j, (bits.getD i 0).testBit j = true → C j = true := fun j hj => cnt_closed hs hi.closed hcnt ho hready j (bits_lt hs i o ho j hj) hj
    have gi : ops.toList[i]? = some o := by rw [Array.getElem?_toList]; exact ho
    have hdi : dstAt ops i = o.dst := by simp [dstAt, ho]
    -- nothing that is not counted yet writes what it looks at
    have nopend : ∀ t, (t ∈ looks ops.toList o ∨ o.dst = some t) → ∀ k, k < ops.size → Lof listed k = true → C k = false → dstAt ops k ≠ some t := by
      intro t htl k hk hL hC hd
      have hki : k ≠ i := fun e => by subst e; rw [hun] at hL; cases hL
      have hw := hnext.writers k t hk hd htl hki
      rw [hC] at hw
      have hik : i < k := by have := of_decide_eq_false hw.symm; omega
      have gk : ops.toList[k]? = some ops[k] := by rw [Array.getElem?_toList]; exact Array.getElem?_eq_getElem hk
      have hdk : ops[k].dst = some t := by simpa [dstAt, Array.getElem?_eq_getElem hk] using hd
      have hp := hs.pair k i hk hik
      unfold pairOK at hp
      rw [gi, gk] at hp
      have : (dstIn o.dst (ops[k].dst.toList ++ looks ops.toList ops[k]) || dstIn ops[k].dst (looks ops.toList o)) = true := by
        rcases htl with htl | htl
        · simp only [dstIn, hdk, memN_iff.2 htl, Bool.or_true]
        · have : dstIn o.dst (ops[k].dst.toList ++ looks ops.toList ops[k]) = true := by
            simp only [dstIn, htl, memN_iff, List.mem_append, Option.mem_toList, hdk]
            exact .inl trivial
          rw [this]; rfl
      simp only [this, Bool.true_or, cond_true] at hp
      have := (hi.pend k hk hL hC).2.1 i hp
      rw [hunC] at this; cases this
    -- slots that it looks at are as in the text's order
    have slot : ∀ t, t ∈ looks ops.toList o → (tms i).get t = curN (dstAt ops) res C t ((tms 0).get t) ops.size := by
      intro t htl
      rw [canon ht t i (by omega)]
      have h1 : curN (dstAt ops) res C t ((tms 0).get t) ops.size = curN (dstAt ops) res (fun k => decide (k < i)) t ((tms 0).get t) ops.size :=
        curN_congr fun k hk hd => by
          by_cases e : k = i
          · subst e; rw [hunC]; simp
          · exact hnext.writers k t hk hd (.inl htl) e
      rw [h1, curN_tail (L := fun k => decide (k < i)) (m := i) (n := ops.size) (by omega) fun k h1 _ _ => by simp; omega]
      exact curN_congr fun k hk _ => by simp [hk]
    have htr : TR φ (scrub (tms i) (looks ops.toList o)) nt a.tmps := ⟨hi.tsize, fun t v hv => by
      obtain ⟨h1, h2⟩ := scrub_mem _ _ _ _ hv
      exact hi.temps t v (nopend t (.inl h1)) (by rw [← slot t h1]; exact h2)⟩
    have hopv : ∀ x ∈ o.op.operands, opv (tms i) x = opv (scrub (tms i) (looks ops.toList o)) x := by
      intro x hx
      cases x with
      | tmp t => simp only [opv]; exact (scrub_get_mem _ _ _ (looks_mem hx)).symm
      | _ => rfl
    -- the guard
    have hwant : Region.wanted o (yielded ops a.tmps) = wn i := by
      have := ht.guard i o (Nat.zero_le _) gi
      cases hg : o.guard with
      | none => rw [hg] at this; simp [Region.wanted, hg, this]
      | some gw =>
        obtain ⟨j, want⟩ := gw
        rw [hg] at this
        obtain ⟨d, v, h1, h2, h3⟩ := this
        have hdl : d ∈ looks ops.toList o := looks_guard hg h1
        obtain ⟨c, h4, h5⟩ := hi.temps d v (nopend d (.inl hdl)) (by rw [← slot d hdl]; exact h2)
        have h1' : (ops[j]?).bind (·.dst) = some d := by rw [← h1, Array.getElem?_toList]
        unfold wantV at h3
        split at h3
        · rename_i b
          obtain rfl := vr_bool h5
          have hy : yielded ops a.tmps j = some b := by simp [yielded, h1', h4]
          simp [Region.wanted, hg, hy, Option.some.inj h3]
        · cases h5 with
          | tuple _ _ => simp [Region.wanted, hg, yielded, h1', h4, ← Option.some.inj h3]
        · cases h3
    have hset : ∀ k, Lof (listed.setIfInBounds i true) k = (Lof listed k || decide (k = i)) := fun k => Lof_set hil
    have hput := ht.put i o (Nat.zero_le _) gi
    by_cases hearly : isLate o = true ∧ ∃ j, j < i ∧ effAt ops.toList j = true ∧ C j = false
    · -- a new block, made ahead of its time
      obtain ⟨hlo, j0, hj0, hj0e, hj0C⟩ := hearly
      have hg0 : o.guard = none ∧ ∃ e, o.op = .alloc e := by
        unfold isLate at hlo
        split at hlo
        · rename_i e h1 h2; exact ⟨h2, e, h1⟩
        · cases hlo
      obtain ⟨hg0, e, hop⟩ := hg0
      have hwn : wn i = true := by
        have := ht.guard i o (Nat.zero_le _) gi
        rw [hg0] at this; exact this
      have hrun := ht.eff i o (Nat.zero_le _) gi hwn (late_eff hlo)
      obtain ⟨z, hz⟩ : ∃ z, zeroCellsOf P e = some z := by
        cases hz : zeroCellsOf P e with
        | some z => exact ⟨z, rfl⟩
        | none =>
          have := hrun fun _ _ => some (.nilFunc, hE 0)
          rw [hop] at this
          simp [evOp, hz] at this
      have hlt := fun b t (hb : φ b = some t) => hi.good.rel.blkLt b t hb
      have hold : ∀ B, B < w.heap.size → (w.alloc (.cells z.toArray e)).heap[B]? = w.heap[B]? := fun B hB => heap_alloc_old w _ B hB
      have hg2 : Good φ w (hE (cN (fun k => effAt ops.toList k && C k) ops.size)) (w.alloc (.cells z.toArray e)) φ :=
        ⟨.refl _ _, ⟨rfl, rfl, rfl, by simp, fun B hB _ => hold B hB⟩, hi.good.rel.heap_same' (by simp) hold⟩
      unfold wpOp
      simp only [ho]
      rw [hwant, hwn, if_pos rfl]
      refine .inl ?_
      refine alloc_wp hop hz ?_
      refine ih _ C (fun k => if k = i then w.heap.size else Bf k) φ _ _ ⟨by simp [hi.size], ?_, fun k hk => by rw [hset, hi.sub k hk]; rfl, hi.late, hi.cl, hi.good.trans hg2, ?_, ?_, (put_defers _ _ _).trans hi.defers, ?_, ?_⟩ ?_ ?_
      · intro k o' hk ho' e he
        rw [hset] at hk ⊢
        by_cases ek : k = i
        · subst ek
          rw [ho] at ho'
          obtain rfl := Option.some.inj ho'
          rw [hready e he]; rfl
        · simp only [ek, decide_false, Bool.or_false] at hk
          rw [hi.closed k o' hk ho' e he]; rfl
      · cases o.dst <;> simp [Act.put, hi.tsize]
      · intro t v hnp hcur
        have hdt : o.dst ≠ some t := by
          have := hnp i hisz (by rw [hset]; simp) hunC
          rwa [hdi] at this
        obtain ⟨c', h1, h2⟩ := hi.temps t v (fun k hk hL hC => hnp k hk (by rw [hset, hL]; rfl) hC) hcur
        refine ⟨c', ?_, h2⟩
        cases hd : o.dst with
        | none => simpa [Act.put] using h1
        | some d =>
          have : d ≠ t := fun e => hdt (by rw [hd, e])
          simp only [Act.put]
          rw [Array.getElem?_setIfInBounds_ne this]; exact h1
      · intro k hk hL hC
        by_cases ek : k = i
        · subst ek
          refine ⟨by unfold lateAt; rw [gi]; exact hlo, hbitC, fun t hd => ?_, ⟨o, e, z, ho, hop, hz, by simp only [if_true]; exact heap_alloc_new w _⟩, fun b t hb => by simp only [if_true]; have := hlt b t hb; omega, by simp only [if_true]; exact hi.good.fr.size⟩
          rw [hdi] at hd
          have hlt2 := hput.1 t hd
          simp [Act.put, hd, hi.tsize, hlt2]
        · rw [hset] at hL
          simp only [ek, decide_false, Bool.or_false] at hL
          obtain ⟨g1, g2, g3, ⟨o', e', z', q1, q2, q3, q4⟩, g5, g6⟩ := hi.pend k hk hL hC
          have hBl : Bf k < w.heap.size := (Array.getElem?_eq_some_iff.mp q4).1
          simp only [ek, if_false]
          refine ⟨g1, g2, fun t hd => ?_, ⟨o', e', z', q1, q2, q3, by rw [hold _ hBl]; exact q4⟩, g5, g6⟩
          have hne := fun hd2 => nopend t (.inr hd2) k hk hL hC hd
          cases hd2 : o.dst with
          | none => simpa [Act.put] using g3 t hd
          | some d =>
            have : d ≠ t := fun e => hne (by rw [hd2, e])
            simp only [Act.put]
            rw [Array.getElem?_setIfInBounds_ne this]; exact g3 t hd
      · intro k k' hk hk' l1 c1 l2 c2 hne
        have key : ∀ m, m < ops.size → Lof (listed.setIfInBounds i true) m = true → C m = false → m ≠ i → Bf m < w.heap.size := fun m hm hL hC hmi => by
          rw [hset] at hL
          simp only [hmi, decide_false, Bool.or_false] at hL
          obtain ⟨_, _, _, ⟨_, _, _, _, _, _, q4⟩, _, _⟩ := hi.pend m hm hL hC
          exact (Array.getElem?_eq_some_iff.mp q4).1
        by_cases e1 : k = i
        · have e2 : k' ≠ i := fun e => hne (e1.trans e.symm)
          have := key k' hk' l2 c2 e2
          simp only [e1, e2, if_true, if_false]; omega
        · by_cases e2 : k' = i
          · have := key k hk l1 c1 e1
            simp only [e1, e2, if_true, if_false]; omega
          · simp only [e1, e2, if_false]
            rw [hset] at l1 l2
            simp only [e1, e2, decide_false, Bool.or_false] at l1 l2
            exact hi.dist k k' hk hk' l1 c1 l2 c2 hne
      · intro k hk hL hC
        by_cases ek : k = i
        · subst ek; exact ⟨j0, hj0, hj0e, hj0C⟩
        · rw [hset] at hL
          simp only [ek, decide_false, Bool.or_false] at hL
          exact hsat k hk hL hC
      · have := cN_set (p := fun k => !Lof (listed.setIfInBounds i true) k) (q := fun k => !Lof listed k) (i := i) hisz (by simp [hset]) (by simp [hun]) fun k _ hk => by simp [hset, hk]
        omega
    have hlateC : isLate o = true → ∀ k, k < i → effAt ops.toList k = true → C k = true := fun hl k hk he => by
      cases hCk : C k with
      | true => rfl
      | false => exact absurd ⟨hl, k, hk, he, hCk⟩ hearly
    -- how many memories
    have he1 : isEff o = true → cN (fun k => effAt ops.toList k && C k) ops.size = cN (effAt ops.toList) i := by
      intro he
      have h1 := cN_congr (p := fun k => effAt ops.toList k && C k) (q := fun k => effAt ops.toList k && decide (k < i)) (n := ops.size) fun k hk => by
        by_cases e : k = i
        · subst e; rw [hunC]; simp
        · cases hk2 : effAt ops.toList k with
          | false => rfl
          | true => rw [hnext.effs he hlateC k hk hk2 e]
      rw [h1, cN_tail (m := i) (by omega) fun k h1 _ => by simp; omega]
      exact cN_congr fun k hk => by simp [hk]
    have he2 : cN (fun k => effAt ops.toList k && (C k || decide (k = i))) ops.size = cN (fun k => effAt ops.toList k && C k) ops.size + cond (isEff o) 1 0 := by
      cases he : isEff o with
      | true =>
        exact cN_set (i := i) hisz (by simp [hunC]) (by simp [effAt_eq ho, he]) fun k _ hk => by simp [hk]
      | false =>
        refine cN_congr fun k hk => ?_
        by_cases e : k = i
        · subst e; simp [effAt_eq ho, he]
        · simp [e]
    -- the invariant behind it
    have step : ∀ φ' w' c, Good φ w (hE (cN (fun k => effAt ops.toList k && (C k || decide (k = i))) ops.size)) w' φ' → (∀ x, res i = some x → VR φ' x c) → wpAny P .any ops Q fuel (listed.setIfInBounds i true) (a.put o.dst c) w' := by
      intro φ' w' c hg hv
      have hinv : LInv P O nt ops bits φ0 w0 a0 tms res hE (listed.setIfInBounds i true) (fun k => C k || decide (k = i)) Bf φ' (a.put o.dst c) w' := by
        refine ⟨by simp [hi.size], ?_, ?_, ?_, ?_, hi.good.trans hg, ?_, ?_, (put_defers _ _ _).trans hi.defers, ?_, ?_⟩
        · intro k o' hk ho' e he
          rw [hset] at hk ⊢
          by_cases ek : k = i
          · subst ek
            rw [ho] at ho'
            obtain rfl := Option.some.inj ho'
            rw [hready e he]; rfl
          · simp only [ek, decide_false, Bool.or_false] at hk
            rw [hi.closed k o' hk ho' e he]; rfl
        · intro k hk
          rw [hset]
          simp only [Bool.or_eq_true, decide_eq_true_eq] at hk ⊢
          exact hk.imp (hi.sub k) id
        · intro k j hk hl hjk he
          simp only [Bool.or_eq_true, decide_eq_true_eq] at hk ⊢
          rcases hk with hk | rfl
          · exact .inl (hi.late k j hk hl hjk he)
          · refine .inl (hlateC ?_ j hjk he)
            unfold lateAt at hl; rw [gi] at hl; exact hl
        · intro k hk j hb
          simp only [Bool.or_eq_true, decide_eq_true_eq] at hk ⊢
          rcases hk with hk | rfl
          · exact .inl (hi.cl k hk j hb)
          · exact .inl (hbitC j hb)
        · cases o.dst <;> simp [Act.put, hi.tsize]
        · intro t v hnp hcur
          by_cases edst : o.dst = some t
          · have hcur' : curN (dstAt ops) res (fun k => C k || decide (k = i)) t ((tms 0).get t) ops.size = res i := by
              have h1 : curN (dstAt ops) res (fun k => C k || decide (k = i)) t ((tms 0).get t) ops.size = curN (dstAt ops) res (fun k => decide (k < i + 1)) t ((tms 0).get t) ops.size :=
                curN_congr fun k hk hd => by
                  by_cases e : k = i
                  · subst e; simp
                  · rw [hnext.writers k t hk hd (.inr edst) e]
                    by_cases hki : k < i <;> simp [hki, e] <;> omega
              rw [h1, curN_tail (L := fun k => decide (k < i + 1)) (m := i + 1) (n := ops.size) (by omega) fun k h1 _ _ => by simp; omega]
              simp only [curN]
              rw [if_pos ⟨by simp, by rw [hdi]; exact edst⟩]
            rw [hcur'] at hcur
            have hlt := hput.1 t edst
            refine ⟨c, ?_, hv v hcur⟩
            simp [Act.put, edst, hi.tsize, hlt]
          · have hcur' : curN (dstAt ops) res (fun k => C k || decide (k = i)) t ((tms 0).get t) ops.size = curN (dstAt ops) res C t ((tms 0).get t) ops.size :=
              curN_congr fun k hk hd => by
                by_cases e : k = i
                · subst e; rw [hdi] at hd; exact absurd hd edst
                · simp [e]
            rw [hcur'] at hcur
            obtain ⟨c', h1, h2⟩ := hi.temps t v (fun k hk hL hC => by
              have hki : k ≠ i := fun e => by subst e; rw [hun] at hL; cases hL
              exact hnp k hk (by rw [hset, hL]; rfl) (by simp [hC, hki])) hcur
            refine ⟨c', ?_, h2.mono hg.ext.1⟩
            cases hd : o.dst with
            | none => simpa [Act.put] using h1
            | some d =>
              have : d ≠ t := fun e => edst (by rw [hd, e])
              simp only [Act.put]
              rw [Array.getElem?_setIfInBounds_ne this]; exact h1
        · intro k hk hL hC
          simp only [Bool.or_eq_false_iff, decide_eq_false_iff_not] at hC
          rw [hset] at hL
          simp only [hC.2, decide_false, Bool.or_false] at hL
          obtain ⟨g1, g2, g3, ⟨o', e', z', q1, q2, q3, q4⟩, g5, g6⟩ := hi.pend k hk hL hC.1
          have hBl : Bf k < w.heap.size := (Array.getElem?_eq_some_iff.mp q4).1
          refine ⟨g1, fun j hb => by simp [g2 j hb], fun t hd => ?_, ⟨o', e', z', q1, q2, q3, ?_⟩, fun b t hb => ?_, g6⟩
          · have hne := fun hd2 => nopend t (.inr hd2) k hk hL hC.1 hd
            cases hd2 : o.dst with
            | none => simpa [Act.put] using g3 t hd
            | some d =>
              have : d ≠ t := fun e => hne (by rw [hd2, e])
              simp only [Act.put]
              rw [Array.getElem?_setIfInBounds_ne this]; exact g3 t hd
          · rw [hg.fr.block _ hBl fun b t hb he => absurd he (g5 b t hb)]; exact q4
          · rcases hg.ext.2 b t hb with h1 | h1 | ⟨b0, t0, h1, h2, _⟩
            · exact g5 b t h1
            · omega
            · have := g5 b0 t0 h1; omega
        · intro k k' hk hk' l1 c1 l2 c2 hne
          simp only [Bool.or_eq_false_iff, decide_eq_false_iff_not] at c1 c2
          rw [hset] at l1 l2
          simp only [c1.2, c2.2, decide_false, Bool.or_false] at l1 l2
          exact hi.dist k k' hk hk' l1 c1.1 l2 c2.1 hne
      obtain ⟨C', φ'', hinv', hsat'⟩ := absorb hs ht _ _ _ (Nat.le_refl _) hinv
      refine ih _ C' Bf φ'' _ w' hinv' hsat' ?_
      have := cN_set (p := fun k => !Lof (listed.setIfInBounds i true) k) (q := fun k => !Lof listed k) (i := i) hisz (by simp [hset]) (by simp [hun]) fun k _ hk => by simp [hset, hk]
      omega
    unfold wpOp
    simp only [ho]
    rw [hwant]
    cases hw : wn i with
    | false =>
      rw [if_neg (by simp)]
      obtain ⟨h1, h2⟩ := ht.skip i o (Nat.zero_le _) gi hw
      refine step φ w undef ?_ (fun x hx => by rw [h1] at hx; obtain rfl := Option.some.inj hx; exact .tuple rfl (by simp))
      rw [he2]
      cases he : isEff o with
      | false => exact .refl hi.good.rel
      | true =>
        rw [he1 he, cond_true, h2 he, ← he1 he]
        exact .refl hi.good.rel
    | true =>
      rw [if_pos rfl]
      refine .inl ?_
      -- what it comes to here
      have hruns : Runs P O (tms i) o.op (hE (cN (fun k => effAt ops.toList k && C k) ops.size)) (res i) (hE (cN (fun k => effAt ops.toList k && (C k || decide (k = i))) ops.size)) := by
        rw [he2]
        cases hp : isPure o.op with
        | true =>
          have hne : isEff o = false := by simp [isEff, hp]
          rw [hne, cond_false, Nat.add_zero]
          exact (Runs.pure hp (ht.pure i o (Nat.zero_le _) gi hw hp)).2 _
        | false =>
          cases hrd : isRead o.op with
          | false =>
            have hne : isEff o = true := by simp [isEff, hp, hrd]
            rw [hne, cond_true, he1 hne]
            exact ht.eff i o (Nat.zero_le _) gi hw hne
          | true =>
            have hne : isEff o = false := by simp [isEff, hrd]
            rw [hne, cond_false, Nat.add_zero]
            obtain ⟨r1, r2⟩ := ht.read i o (Nat.zero_le _) gi hw hp hrd
            have hbit := hbitC
            by_cases hlate : ∃ k, k < ops.size ∧ i < k ∧ effAt ops.toList k = true ∧ C k = true
            · -- the last of the later ones
              obtain ⟨k, hk, hmax⟩ : ∃ k, (k < ops.size ∧ i < k ∧ effAt ops.toList k = true ∧ C k = true) ∧ ∀ m, k < m → m < ops.size → effAt ops.toList m = true → C m = false := by
                obtain ⟨k0, hk0⟩ := hlate
                obtain ⟨d, hd, hmin⟩ := exists_min (fun d => ∃ k, k + d = ops.size ∧ (k < ops.size ∧ i < k ∧ effAt ops.toList k = true ∧ C k = true)) ⟨ops.size - k0, k0, by omega, hk0⟩
                obtain ⟨k, hkd, hk⟩ := hd
                refine ⟨k, hk, fun m hm hms hem => ?_⟩
                cases hL : C m with
                | false => rfl
                | true =>
                  have := hmin (ops.size - m) ⟨m, by omega, hms, by omega, hem, hL⟩
                  omega
              obtain ⟨hks, hik, hke, hkL⟩ := hk
              have gk : ops[k]? = some ops[k] := Array.getElem?_eq_getElem hks
              have hnb : (bits.getD k 0).testBit i = false := by
                cases hb : (bits.getD k 0).testBit i with
                | false => rfl
                | true =>
                  have := hi.cl k hkL i hb
                  rw [hunC] at this; cases this
              have hcount : cN (fun j => effAt ops.toList j && C j) ops.size = cN (effAt ops.toList) k + 1 := by
                rw [cN_tail (m := k + 1) (by omega) fun m h1 h2 => by
                  cases he : effAt ops.toList m with
                  | false => rfl
                  | true => rw [hmax m (by omega) h2 he]; rfl]
                simp only [cN, hke, hkL, Bool.and_self, cond_true]
                congr 1
                refine cN_congr fun m hm => ?_
                cases he : effAt ops.toList m with
                | false => rfl
                | true =>
                  have hpair := hs.pair k m hks hm
                  unfold pairOK at hpair
                  have gm : ops.toList[m]? = some ops[m] := by rw [Array.getElem?_toList]; exact Array.getElem?_eq_getElem (by omega)
                  have gk' : ops.toList[k]? = some ops[k] := by rw [Array.getElem?_toList]; exact gk
                  rw [gk', gm] at hpair
                  have e1 : isEff ops[k] = true := by rw [← effAt_eq gk]; exact hke
                  have e2 : isEff ops[m] = true := by rw [← effAt_eq (Array.getElem?_eq_getElem (show m < ops.size by omega))]; exact he
                  cases hlk : isLate ops[k] with
                  | true => rw [hi.late k m hkL (by unfold lateAt; rw [gk']; exact hlk) hm he]; rfl
                  | false =>
                    simp only [e1, e2, hlk, Bool.not_false, Bool.and_self, Bool.or_true, cond_true] at hpair
                    rw [hi.cl k hkL m hpair]; rfl
              rw [hcount]
              exact r2 k hik hke hnb
            · have hnone : ∀ k, i ≤ k → k < ops.size → (effAt ops.toList k && C k) = false := by
                intro k h1 h2
                by_cases e : k = i
                · subst e; simp [hunC]
                · cases he : effAt ops.toList k with
                  | false => rfl
                  | true =>
                    cases hL : C k with
                    | false => rfl
                    | true => exact absurd ⟨k, h2, by omega, he, hL⟩ hlate
              have hcount : cN (fun j => effAt ops.toList j && C j) ops.size = cN (fun j => effAt ops.toList j && C j) i := cN_tail (by omega) hnone
              rw [hcount]
              refine r1 _ ?_ ?_
              · refine cN_le fun k hk hkb => ?_
                simp only [Bool.and_eq_true] at hkb ⊢
                exact ⟨hkb.1, hbit k hkb.2⟩
              · refine cN_le fun k hk hkb => ?_
                simp only [Bool.and_eq_true] at hkb
                exact hkb.1
      classical
      have hk : evOp P O (scrub (tms i) (looks ops.toList o)) o.op (hE (cN (fun k => effAt ops.toList k && C k) ops.size))
          (fun v h' => if v = res i ∧ h' = hE (cN (fun k => effAt ops.toList k && (C k || decide (k = i))) ops.size) then some (.nilFunc, h') else none) =
          some (.nilFunc, hE (cN (fun k => effAt ops.toList k && (C k || decide (k = i))) ops.size)) := by
        rw [← evOp_congr o.op hopv, hruns]
        rw [if_pos ⟨rfl, rfl⟩]
      refine evOp_wp hO o hi.good.rel htr hk fun φ' v h' c w' hg hv hk' => ?_
      by_cases hvh : v = res i ∧ h' = hE (cN (fun k => effAt ops.toList k && (C k || decide (k = i))) ops.size)
      · obtain ⟨rfl, rfl⟩ := hvh
        exact step φ' w' c hg hv
      · rw [if_neg hvh] at hk'; cases hk'

theorem draw_ok (P : Program) : DrawOK P (drawEv P) := by
  intro O hO nt ops tm h K r hk id φ w a hr ht Q _ hQ
  unfold drawEv at hk
  cases hc : (P.follows .mixedOrders && statOK ops.toList (befL ops.toList []) && ops.toList.all noSel) with
  | false => rw [hc, cond_false] at hk; cases hk
  | true =>
    rw [hc, cond_true] at hk
    simp only [Bool.and_eq_true] at hc
    have hk' : evD P O nt ops.toList (befL ops.toList []) ops.toList 0 tm h [] [] K = some r := by
      cases hall : (ops.toList.all fun o => !isEff o) with
      | true =>
        rw [hall, cond_true] at hk
        rw [evD_evOps]
        · exact hk
        · intro o ho
          rw [List.all_eq_true] at hall
          simpa using hall o ho
      | false => rw [hall, cond_false] at hk; exact hk
    obtain ⟨tms, res, wn, hE, e1, e2, _, e4, e5, _⟩ := evD_trace ops.toList 0 tm h [] [] K r hk' rfl rfl (by simp)
    have hs := stat_of hc.1.2
    have hlen : ops.toList.length = ops.size := by simp
    rw [hlen] at e4
    have hz0 : ∀ k, Lof (Array.replicate ops.size false) k = false := by
      intro k
      unfold Lof
      by_cases hk : k < ops.size <;> simp [hk]
    refine wp_region_any hc.1.1 (lin hs hO e5 (φ0 := φ) (w0 := w) (a0 := a) (fun φ' a' w' hg htr hd => ?_) ops.size _ (fun _ => false) (fun _ => 0) φ a _ ?_ (fun k _ hL _ => by rw [hz0] at hL; cases hL) ?_)
    · exact hQ .normal φ' _ _ a' w' hg htr hd e4
    · have hz : ∀ k, Lof (Array.replicate ops.size false) k = false := by
        intro k
        unfold Lof
        by_cases hk : k < ops.size <;> simp [hk]
      refine ⟨by simp, fun k o hk => (by rw [hz] at hk; cases hk), (fun k hk => by cases hk), (fun k j hk => by cases hk), (fun k hk => by cases hk), ?_, ht.size, fun t v _ hv => ?_, rfl, (fun k _ hL => by rw [hz] at hL; cases hL), (fun k k' _ _ hL => by rw [hz] at hL; cases hL)⟩
      · have : cN (fun k => effAt ops.toList k && false) ops.size = 0 := by
          rw [cN_tail (m := 0) (Nat.zero_le _) fun k _ _ => by simp]
          rfl
        rw [this]
        have e2' : hE 0 = h := e2
        rw [e2']
        exact Good.drew hr
      · rw [curN_tail (m := 0) (Nat.zero_le _) fun k _ _ _ => rfl] at hv
        simp only [curN, e1] at hv
        exact ht.val t v hv
    · have := cN_le (p := fun k => !Lof (Array.replicate ops.size false) k) (q := fun _ => true) (n := ops.size) fun _ _ _ => rfl
      have hcn : ∀ n, cN (fun _ => true) n = n := by
        intro n
        induction n with
        | zero => rfl
        | succ n ih => simp only [cN, ih, cond_true]
      rw [hcn] at this
      exact this
end
end Go.Lg
