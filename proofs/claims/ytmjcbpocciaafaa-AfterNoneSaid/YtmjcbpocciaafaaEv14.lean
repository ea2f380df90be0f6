/- A region that draws its order: its evaluator, and what the evaluator's operations owe to each other. -/
import Derived.Test.YtmjcbpocciaafaaEv13
import Derived.Orders
namespace Go.Lg
open Go

def isPure : Op → Bool
  | .move _ | .assign _ | .pick .. | .nilCheck _ | .binOp .. | .unOp .. | .convert .. | .makeInterface .. | .makeFunc .. | .fieldAddr .. | .field .. | .indexAddr .. | .index .. | .extract .. | .build .. => true
  | _ => false
def isRead : Op → Bool
  | .load .. | .slice .. => true
  | .call c => match c.callee with
    | .builtin .len | .builtin .min | .builtin .max => true
    | _ => false
  | _ => false

def veq1 : Value → Value → Bool
  | .bool a, .bool b => a == b
  | .int k a, .int k' b => (k == k') && decide (a = b)
  | .string a, .string b => seqB a b
  | .pointer a, .pointer b => decide (a = b)
  | .slice a n c, .slice b m d => decide (a = b) && Nat.beq n m && Nat.beq c d
  | .map a, .map b => decide (a = b)
  | .nilFunc, .nilFunc => true
  | .nilIface, .nilIface => true
  | _, _ => false
def veqL : List Value → List Value → Bool
  | [], [] => true
  | a :: l, b :: m => veq1 a b && veqL l m
  | _, _ => false
def veq : Value → Value → Bool
  | .agg a, .agg b => veqL a.toList b.toList
  | .iface t a, .iface u b => Nat.beq t u && veq1 a b
  | a, b => veq1 a b
def veqO : Option Value → Option Value → Bool
  | some a, some b => veq a b
  | none, none => true
  | _, _ => false

theorem seqB_true {a b : ByteArray} (h : seqB a b = true) : a = b := by
  apply ByteArray.ext
  apply Array.ext'
  exact beqL_iff.1 h
theorem veq1_true {a b : Value} (h : veq1 a b = true) : a = b := by
  unfold veq1 at h
  split at h
  · rw [eq_of_beq h]
  · simp only [Bool.and_eq_true, decide_eq_true_eq] at h
    rw [eq_of_beq h.1, h.2]
  · rw [seqB_true h]
  · rw [of_decide_eq_true h]
  · simp only [Bool.and_eq_true, decide_eq_true_eq] at h
    rw [h.1.1, Nat.eq_of_beq_eq_true h.1.2, Nat.eq_of_beq_eq_true h.2]
  · rw [of_decide_eq_true h]
  · rfl
  · rfl
  · cases h
theorem veqL_true : ∀ {a b : List Value}, veqL a b = true → a = b
  | [], [], _ => rfl
  | a :: l, b :: m, h => by
    simp only [veqL, Bool.and_eq_true] at h
    rw [veq1_true h.1, veqL_true h.2]
  | [], _ :: _, h => by simp [veqL] at h
  | _ :: _, [], h => by simp [veqL] at h
theorem veq_true {a b : Value} (h : veq a b = true) : a = b := by
  unfold veq at h
  split at h
  · congr 1; apply Array.ext'; exact veqL_true h
  · simp only [Bool.and_eq_true] at h
    rw [Nat.eq_of_beq_eq_true h.1, veq1_true h.2]
  · exact veq1_true h
theorem veqO_true {a b : Option Value} (h : veqO a b = true) : a = b := by
  unfold veqO at h
  split at h
  · rw [veq_true h]
  · rfl
  · cases h

/-- what an operation comes to, whoever asks -/
def Runs (P : Program) (O : Orc) (tm : T Value) (op : Op) (h : AH) (v : Option Value) (h' : AH) : Prop := ∀ K : Option Value → AH → Res, evOp P O tm op h K = K v h'

/-- a computation in the passing style that answers at all answers whoever asks -/
def Nat1 {α : Type} (m : (α → Res) → Res) : Prop := ∀ K r, m K = some r → ∃ x, K x = some r ∧ ∀ K', m K' = K' x
theorem Nat1.pure {α : Type} (x : α) : Nat1 (fun K => K x) := fun _ _ h => ⟨x, h, fun _ => rfl⟩
theorem Nat1.none {α : Type} : Nat1 (fun _ : α → Res => Option.none) := fun _ _ h => by cases h
theorem Nat1.bindO {α β : Type} (o : Option β) (f : β → (α → Res) → Res) (hf : ∀ b, Nat1 (f b)) : Nat1 (fun K => o.bind fun b => f b K) := by
  intro K r h
  cases o with
  | none => cases h
  | some b => exact hf b K r h
theorem Nat1.cond {α : Type} (b : Bool) {m n : (α → Res) → Res} (hm : Nat1 m) (hn : Nat1 n) : Nat1 (fun K => cond b (m K) (n K)) := by
  cases b
  · exact hn
  · exact hm
theorem Nat1.then {α β : Type} {m : (β → Res) → Res} {f : β → (α → Res) → Res} (hm : Nat1 m) (hf : ∀ b, Nat1 (f b)) : Nat1 (fun K => m fun b => f b K) := by
  intro K r h
  obtain ⟨x, h1, h2⟩ := hm _ _ h
  obtain ⟨y, h3, h4⟩ := hf x K r h1
  exact ⟨y, h3, fun K' => (h2 _).trans (h4 K')⟩
theorem Nat1.map {α β : Type} {m : (β → Res) → Res} (hm : Nat1 m) (f : β → α) : Nat1 (fun K => m fun b => K (f b)) := Nat1.then hm fun b => Nat1.pure (f b)

theorem nat_ldCK (h : AH) (c : CK) (b o : Nat) : Nat1 (ldCK h c b o) := by
  cases c <;> (unfold ldCK; exact Nat1.bindO _ _ fun _ => Nat1.pure _)
theorem nat_ldN (h : AH) : ∀ (cs : List CK) (b o : Nat), Nat1 (ldN h cs b o)
  | [], _, _ => Nat1.pure _
  | c :: cs, b, o => by
    show Nat1 (fun K => ldN h (c :: cs) b o K)
    simp only [ldN]
    exact Nat1.then (nat_ldCK h c b o) fun v => Nat1.map (nat_ldN h cs b (o + 1)) (v :: ·)
theorem nat_ldT (P : Program) (h : AH) (t : TypeId) (b o : Nat) : Nat1 (ldT P h t b o) := by
  show Nat1 (fun K => ldT P h t b o K)
  unfold ldT
  split
  · exact Nat1.map (nat_ldN h _ b o) (fun vs => Value.agg vs.toArray)
  · exact nat_ldCK h _ b o
  · exact Nat1.none
theorem nat_addrK {α : Type} (v : Value) {f : Addr → (α → Res) → Res} (hf : ∀ a, Nat1 (f a)) : Nat1 (fun K => addrK v fun a => f a K) := by
  unfold addrK
  cases v <;> first
    | exact Nat1.bindO _ _ hf
    | exact Nat1.none

theorem nat_boundOf (tm : T Value) (x : Option Operand) (d top : Nat) : Nat1 (boundOf tm x d top) := by
  show Nat1 (fun K => boundOf tm x d top K)
  unfold boundOf
  split
  · exact Nat1.pure _
  · split
    · exact Nat1.cond _ (Nat1.pure _) Nat1.none
    · exact Nat1.none

/-- two answers at once -/
abbrev K2 (α : Type) := (α → AH → Res) → Res
def un {α : Type} (m : K2 α) : ((α × AH) → Res) → Res := fun K => m fun a h => K (a, h)
def Nat2 {α : Type} (m : K2 α) : Prop := Nat1 (un m)
theorem Nat2.out {α : Type} {m : K2 α} (hm : Nat2 m) {K : α → AH → Res} {r : Value × AH} (h : m K = some r) : ∃ v h', K v h' = some r ∧ ∀ K', m K' = K' v h' := by
  obtain ⟨⟨v, h'⟩, h1, h2⟩ := hm (fun p => K p.1 p.2) r h
  exact ⟨v, h', h1, fun K' => h2 fun p => K' p.1 p.2⟩

theorem nat_slice (P : Program) (tm : T Value) (t : TypeId) (x : Value) (lo hi mx : Option Operand) (h : AH) : Nat2 (evSlice P tm t x lo hi mx h) := by
  show Nat1 (fun K => evSlice P tm t x lo hi mx h fun a h => K (a, h))
  unfold evSlice
  split
  · split
    · exact Nat1.none
    · exact Nat1.then (nat_boundOf tm hi _ _) (fun _ => Nat1.then (nat_boundOf tm lo _ _) fun _ => Nat1.pure _)
  · refine Nat1.bindO _ _ (fun sz => ?_)
    split
    · refine Nat1.cond _ ?_ Nat1.none
      split
      · exact Nat1.then (nat_boundOf tm hi _ _) (fun _ => Nat1.then (nat_boundOf tm lo _ _) fun _ => Nat1.pure _)
      · exact Nat1.cond _ (Nat1.then (nat_boundOf tm _ _ _) fun _ => Nat1.then (nat_boundOf tm hi _ _) (fun _ => Nat1.then (nat_boundOf tm lo _ _) fun _ => Nat1.pure _)) Nat1.none
    · refine Nat1.cond _ ?_ (Nat1.cond _ Nat1.none ?_)
      · split
        · exact Nat1.then (nat_boundOf tm hi _ _) (fun _ => Nat1.then (nat_boundOf tm lo _ _) fun _ => Nat1.pure _)
        · exact Nat1.cond _ (Nat1.then (nat_boundOf tm _ _ _) fun _ => Nat1.then (nat_boundOf tm hi _ _) (fun _ => Nat1.then (nat_boundOf tm lo _ _) fun _ => Nat1.pure _)) Nat1.none
      · split
        · refine Nat1.cond _ ?_ Nat1.none
          split
          · exact Nat1.then (nat_boundOf tm hi _ _) (fun _ => Nat1.then (nat_boundOf tm lo _ _) fun _ => Nat1.pure _)
          · exact Nat1.cond _ (Nat1.then (nat_boundOf tm _ _ _) fun _ => Nat1.cond _ (Nat1.then (nat_boundOf tm hi _ _) (fun _ => Nat1.then (nat_boundOf tm lo _ _) fun _ => Nat1.pure _)) Nat1.none) Nat1.none
        · exact Nat1.none
  · exact Nat1.none

theorem nat_append (P : Program) (t tx : TypeId) (s x : Value) (h : AH) : Nat2 (aappend P t tx s x h) := by
  show Nat1 (fun K => aappend P t tx s x h fun a h => K (a, h))
  unfold aappend
  split
  · split
    · exact Nat1.none
    · split
      · refine Nat1.cond _ Nat1.none (Nat1.bindO _ _ fun _ => Nat1.bindO _ _ fun nl => Nat1.cond _ ?_ Nat1.none)
        split
        · exact Nat1.cond _ (Nat1.cond _ (Nat1.pure _) (Nat1.pure _)) Nat1.none
        · refine Nat1.cond _ (Nat1.cond _ (Nat1.bindO _ _ fun _ => Nat1.pure _) (Nat1.bindO _ _ fun _ => Nat1.pure _)) ?_
          split
          · exact Nat1.cond _ (Nat1.cond _ (Nat1.bindO _ _ fun _ => Nat1.pure _) (Nat1.cond _ (Nat1.pure _) Nat1.none)) Nat1.none
          · exact Nat1.none
      · exact Nat1.none
  · exact Nat1.none

theorem nat_builtin (P : Program) (tm : T Value) (b : Builtin) (ats : List TypeId) (as : List Operand) (h : AH) : Nat2 (evBuiltin P tm b ats as h) := by
  show Nat1 (fun K => evBuiltin P tm b ats as h fun a h => K (a, h))
  unfold evBuiltin
  split
  · split
    · exact nat_append P _ _ _ _ h
    · exact Nat1.none
  · split
    · exact Nat1.pure _
    · exact Nat1.pure _
    · exact Nat1.pure _
    · split
      · exact Nat1.pure _
      · exact Nat1.none
    · exact Nat1.none
  · split
    · exact Nat1.pure _
    · exact Nat1.none
  · split
    · exact Nat1.pure _
    · exact Nat1.none
  · split
    · split
      · exact Nat1.pure _
      · split
        · exact Nat1.bindO _ _ fun _ => Nat1.bindO _ _ fun _ => Nat1.pure _
        · exact Nat1.none
    · exact Nat1.none
  · exact Nat1.none

set_option maxHeartbeats 1000000 in
theorem nat_op (P : Program) (O : Orc) (tm : T Value) (op : Op) (h : AH) : Nat2 (evOp P O tm op h) := by
  show Nat1 (fun K => evOp P O tm op h fun a h => K (a, h))
  unfold evOp
  split
  case h_1 => exact Nat1.bindO _ _ fun _ => Nat1.pure _
  case h_2 => exact Nat1.bindO _ _ fun _ => Nat1.pure _
  all_goals first
    | exact Nat1.none
    | exact Nat1.bindO _ _ fun _ => Nat1.pure _
    | exact Nat1.bindO _ _ fun _ => Nat1.bindO _ _ fun _ => Nat1.pure _
    | exact Nat1.bindO _ _ fun _ => Nat1.bindO _ _ fun _ => Nat1.bindO _ _ fun _ => Nat1.pure _
    | exact Nat1.bindO _ _ fun _ => Nat1.bindO _ _ fun _ => Nat1.bindO _ _ fun _ => Nat1.bindO _ _ fun _ => Nat1.pure _
    | exact Nat1.bindO _ _ fun _ => Nat1.cond _ (Nat1.pure _) Nat1.none
    | exact Nat1.bindO _ _ fun _ => nat_addrK _ fun _ => Nat1.bindO _ _ fun _ => Nat1.bindO _ _ fun _ => Nat1.cond _ Nat1.none (Nat1.pure _)
    | exact Nat1.bindO _ _ fun _ => nat_addrK _ fun _ => Nat1.bindO _ _ fun _ => Nat1.bindO _ _ fun _ => Nat1.cond _ (Nat1.bindO _ _ fun _ => Nat1.pure _) Nat1.none
    | exact Nat1.bindO _ _ fun _ => nat_addrK _ fun a => Nat1.map (nat_ldT P h _ a.block a.off) (fun v => (some v, h))
    | exact Nat1.bindO _ _ fun _ => Nat1.map (nat_slice P tm _ _ _ _ _ h) (fun p => (some p.1, p.2))
    | (split <;> first
        | exact Nat1.none
        | exact Nat1.pure _
        | exact Nat1.bindO _ _ fun _ => Nat1.pure _
        | exact Nat1.bindO _ _ fun _ => Nat1.bindO _ _ fun _ => Nat1.pure _
        | exact Nat1.cond _ (Nat1.bindO _ _ fun _ => Nat1.pure _) (Nat1.bindO _ _ fun _ => Nat1.pure _)
        | exact Nat1.cond _ (Nat1.bindO _ _ fun _ => Nat1.pure _) Nat1.none
        | exact Nat1.bindO _ _ fun _ => Nat1.bindO _ _ fun _ => Nat1.cond _ (Nat1.pure _) Nat1.none
        | exact Nat1.bindO _ _ fun _ => Nat1.cond _ (Nat1.bindO _ _ fun _ => Nat1.pure _) Nat1.none
        | exact Nat1.bindO _ _ fun _ => Nat1.bindO _ _ fun _ => Nat1.bindO _ _ fun _ => Nat1.cond _ (Nat1.bindO _ _ fun _ => Nat1.cond _ (Nat1.pure _) Nat1.none) Nat1.none
        | (split <;> first | exact Nat1.none | exact Nat1.pure _)
        | exact Nat1.map (nat_builtin P tm _ _ _ h) (fun p => (some p.1, p.2))
        | exact Nat1.bindO _ _ fun _ => Nat1.bindO _ _ fun _ => Nat1.cond _ (Nat1.bindO _ _ fun _ => Nat1.pure _) Nat1.none)
    | (refine Nat1.bindO _ _ fun _ => ?_
       split <;> first
        | exact Nat1.none
        | exact Nat1.bindO _ _ fun _ => Nat1.pure _
        | exact Nat1.bindO _ _ fun _ => Nat1.bindO _ _ fun _ => Nat1.pure _)
end Go.Lg
