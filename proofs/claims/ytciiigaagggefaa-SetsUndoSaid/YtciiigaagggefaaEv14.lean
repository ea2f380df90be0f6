/- A region that draws its order: its evaluator, and what the evaluator's operations owe to each other. -/
import Derived.Test.YtciiigaagggefaaEv13
import Derived.Orders
namespace Go.Lg
open Go

def isPure : Op → Bool
  | .move _ | .assign _ | .pick .. | .nilCheck _ | .binOp .. | .unOp .. | .convert .. | .makeInterface .. | .makeFunc .. | .fieldAddr .. | .field .. | .indexAddr .. | .index .. | .extract .. | .build .. => true
  | _ => false
def isRead : Op → Bool
  | .load .. | .slice .. | .lookup .. => true
  | .call c => match c.callee with
    | .builtin .len | .builtin .min | .builtin .max => true
    | _ => false
  | _ => false

/-- what an operation comes to, whoever asks -/
def Runs (P : Program) (O : Orc) (tm : T Value) (op : Op) (h : AH) (v : Option Value) (h' : AH) : Prop := ∀ K : Option Value → AH → Res, evOp P O tm op h K = K v h'

theorem nat_ldCK (h : AH) (c : CK) (b o : Nat) : Nat1 (ldCK h c b o) := by
  cases c <;> (unfold ldCK; exact Nat1.bindO _ _ fun _ => Nat1.pure _)
theorem nat_ldN (h : AH) : ∀ (cs : List CK) (b o : Nat), Nat1 (ldN h cs b o)
  | [], _, _ => Nat1.pure _
  | c :: cs, b, o => by
    show Nat1 (fun K => ldN h (c :: cs) b o K)
    simp only [ldN]
    exact Nat1.then (nat_ldCK h c b o) fun v => Nat1.map (nat_ldN h cs b (o + 1)) (v :: ·)
theorem nat_ldT (P : Program) (h : AH) (t : TypeId) (b o : Nat) : Nat1 (ldT P h t b o) := by
  show Nat1 (fun K => ldT P h t b o K)
  unfold ldT
  split
  · exact Nat1.map (nat_ldN h _ b o) (fun vs => Value.agg vs.toArray)
  · exact nat_ldCK h _ b o
  · exact Nat1.none
theorem nat_addrK {α : Type} (v : Value) {f : Addr → (α → Res) → Res} (hf : ∀ a, Nat1 (f a)) : Nat1 (fun K => addrK v fun a => f a K) := by
  unfold addrK
  cases v <;> first
    | exact Nat1.bindO _ _ hf
    | exact Nat1.none

theorem nat_castCK (c : CK) (v : Value) : Nat1 (castCK c v) := by
  cases c <;> first
    | exact Nat1.bindO _ _ fun _ => Nat1.pure _
    | exact Nat1.pure v
theorem nat_castN : ∀ (cs : List CK) (l : List Value), Nat1 (castN cs l)
  | [], l => Nat1.cond _ (Nat1.pure _) Nat1.none
  | c :: cs, l => by
    show Nat1 (fun K => castN (c :: cs) l K)
    simp only [castN]
    exact Nat1.bindO _ _ fun p => Nat1.then (nat_castCK c p.1) fun v => Nat1.map (nat_castN cs p.2) (v :: ·)
theorem nat_castT (P : Program) (t : TypeId) (v : Value) : Nat1 (castT P t v) := by
  show Nat1 (fun K => castT P t v K)
  unfold castT
  split
  · exact Nat1.bindO _ _ fun l => Nat1.map (nat_castN _ l) (fun vs => Value.agg vs.toArray)
  · exact nat_castCK _ v
  · exact Nat1.none
theorem nat_castTs (P : Program) : ∀ (ts : List TypeId) (l : List Value), Nat1 (castTs P ts l)
  | [], l => Nat1.cond _ (Nat1.pure _) Nat1.none
  | t :: ts, l => by
    show Nat1 (fun K => castTs P (t :: ts) l K)
    simp only [castTs]
    exact Nat1.bindO _ _ fun p => Nat1.then (nat_castT P t p.1) fun v => Nat1.map (nat_castTs P ts p.2) (v :: ·)
theorem nat_castR (P : Program) (ts : List TypeId) (v : Value) : Nat1 (castR P ts v) := by
  show Nat1 (fun K => castR P ts v K)
  unfold castR
  split
  · exact nat_castT P _ v
  · exact Nat1.bindO _ _ fun l => Nat1.map (nat_castTs P _ l) (fun vs => Value.tuple vs.toArray)

theorem nat_builtin (P : Program) (tm : T Value) (b : Builtin) (ats : List TypeId) (as : List Operand) (h : AH) : Nat2 (evBuiltin P tm b ats as h) := by
  show Nat1 (fun K => evBuiltin P tm b ats as h fun a h => K (a, h))
  unfold evBuiltin
  split
  · split
    · exact Nat1.bindO _ _ fun r => Nat1.map (nat_castCK _ r.1) (fun v => (v, r.2))
    · exact Nat1.none
  · split
    · exact Nat1.pure _
    · exact Nat1.pure _
    · exact Nat1.bindO _ _ fun _ => Nat1.pure _
    · exact Nat1.none
  · split
    · exact Nat1.pure _
    · exact Nat1.none
  · split
    · exact Nat1.pure _
    · exact Nat1.none
  · exact Nat1.bindO _ _ fun _ => Nat1.bindO _ _ fun _ => Nat1.bindO _ _ fun _ => Nat1.bindO _ _ fun _ => Nat1.pure _
  · split
    · exact Nat1.bindO _ _ fun _ => Nat1.bindO _ _ fun _ => Nat1.pure _
    · exact Nat1.none
  · exact Nat1.none

set_option maxHeartbeats 1000000 in
theorem nat_op (P : Program) (O : Orc) (tm : T Value) (op : Op) (h : AH) : Nat2 (evOp P O tm op h) := by
  show Nat1 (fun K => evOp P O tm op h fun a h => K (a, h))
  unfold evOp
  split
  case h_1 => exact Nat1.bindO _ _ fun _ => Nat1.pure _
  case h_2 => exact Nat1.bindO _ _ fun _ => Nat1.pure _
  all_goals first
    | exact Nat1.none
    | exact Nat1.bindO _ _ fun _ => Nat1.pure _
    | exact Nat1.bindO _ _ fun _ => Nat1.bindO _ _ fun _ => Nat1.pure _
    | exact Nat1.bindO _ _ fun _ => Nat1.bindO _ _ fun _ => Nat1.bindO _ _ fun _ => Nat1.pure _
    | exact Nat1.bindO _ _ fun _ => Nat1.bindO _ _ fun _ => Nat1.bindO _ _ fun _ => Nat1.bindO _ _ fun _ => Nat1.pure _
    | exact Nat1.bindO _ _ fun _ => Nat1.cond _ (Nat1.pure _) Nat1.none
    | exact Nat1.bindO _ _ fun _ => Nat1.bindO _ _ fun _ => Nat1.cond _ (Nat1.bindO _ _ fun _ => Nat1.pure _) Nat1.none
    | exact Nat1.bindO _ _ fun _ => Nat1.bindO _ _ fun _ => Nat1.bindO _ _ fun _ => Nat1.bindO _ _ fun _ => Nat1.bindO _ _ fun _ => Nat1.pure _
    | exact Nat1.bindO _ _ fun _ => Nat1.bindO _ _ fun _ => Nat1.bindO _ _ fun ty => Nat1.bindO _ _ fun _ => Nat1.bindO _ _ fun p => Nat1.map (nat_castT P ty.2 p.1) (fun v => (some (cond _ (.tuple #[v, .bool p.2]) v), h))
    | exact Nat1.bindO _ _ fun _ => nat_addrK _ fun _ => Nat1.bindO _ _ fun _ => Nat1.bindO _ _ fun _ => Nat1.cond _ Nat1.none (Nat1.pure _)
    | exact Nat1.bindO _ _ fun _ => nat_addrK _ fun _ => Nat1.bindO _ _ fun _ => Nat1.bindO _ _ fun _ => Nat1.cond _ (Nat1.bindO _ _ fun _ => Nat1.pure _) Nat1.none
    | exact Nat1.bindO _ _ fun _ => nat_addrK _ fun a => Nat1.map (nat_ldT P h _ a.block a.off) (fun v => (some v, h))
    | exact Nat1.bindO _ _ fun _ => Nat1.bindO _ _ fun _ => Nat1.bindO _ _ fun _ => Nat1.bindO _ _ fun _ => Nat1.bindO _ _ fun r => Nat1.map (nat_castCK _ r.1) (fun v => (some v, h))
    | (split <;> first
        | exact Nat1.none
        | exact Nat1.pure _
        | exact Nat1.bindO _ _ fun _ => Nat1.pure _
        | exact Nat1.bindO _ _ fun _ => Nat1.bindO _ _ fun _ => Nat1.pure _
        | exact Nat1.cond _ (Nat1.bindO _ _ fun _ => Nat1.pure _) (Nat1.bindO _ _ fun _ => Nat1.pure _)
        | exact Nat1.cond _ (Nat1.bindO _ _ fun _ => Nat1.pure _) Nat1.none
        | exact Nat1.bindO _ _ fun _ => Nat1.bindO _ _ fun _ => Nat1.cond _ (Nat1.pure _) Nat1.none
        | exact Nat1.bindO _ _ fun _ => Nat1.cond _ (Nat1.bindO _ _ fun _ => Nat1.pure _) Nat1.none
        | exact Nat1.bindO _ _ fun _ => Nat1.bindO _ _ fun _ => Nat1.bindO _ _ fun _ => Nat1.cond _ (Nat1.bindO _ _ fun _ => Nat1.cond _ (Nat1.pure _) Nat1.none) Nat1.none
        | (split <;> first | exact Nat1.none | exact Nat1.pure _)
        | exact Nat1.map (nat_builtin P tm _ _ _ h) (fun p => (some p.1, p.2))
        | exact Nat1.bindO _ _ fun _ => Nat1.bindO _ _ fun _ => Nat1.cond _ (Nat1.bindO _ _ fun r => Nat1.pure (some r.1, r.2)) Nat1.none)
    | (refine Nat1.bindO _ _ fun _ => ?_
       split <;> first
        | exact Nat1.none
        | exact Nat1.bindO _ _ fun _ => Nat1.pure _
        | exact Nat1.bindO _ _ fun _ => Nat1.bindO _ _ fun _ => Nat1.pure _)

theorem nat_binX (P : Program) (op : BinOp) (t : TypeId) (c : Bool) (a b : Value) : Nat1 (binX P op t c a b) := by
  show Nat1 (fun K => binX P op t c a b K)
  unfold binX
  split
  · exact Nat1.bindO _ _ fun _ => Nat1.pure _
  · exact Nat1.cond _ (Nat1.bindO _ _ fun _ => Nat1.pure _) Nat1.none
theorem nat_opX (P : Program) (O : Orc) (tm : T Value) (ty : TypeId) (op : Op) (h : AH) : Nat2 (evOpX P O tm ty op h) := by
  have old : ∀ op, Nat2 (evOp P O tm op h) := fun op => nat_op P O tm op h
  show Nat1 (fun K => evOpX P O tm ty op h fun a h => K (a, h))
  unfold evOpX
  simp only [fillK_eq]
  split
  · exact Nat1.bindO _ _ fun _ => Nat1.cond _ (Nat1.pure _) Nat1.none
  · exact Nat1.bindO _ _ fun _ => Nat1.bindO _ _ fun _ => Nat1.bindO _ _ fun _ => Nat1.bindO _ _ fun _ => Nat1.pure _
  · split
    · exact Nat1.bindO _ _ fun _ => Nat1.bindO _ _ fun _ => Nat1.bindO _ _ fun _ => Nat1.cond _ (Nat1.bindO _ _ fun _ => Nat1.cond _ (Nat1.pure _) Nat1.none) Nat1.none
    · exact Nat1.none
  · exact Nat1.bindO _ _ fun _ => nat_addrK _ fun _ => Nat1.bindO _ _ fun _ => Nat1.bindO _ _ fun _ => Nat1.cond _ (Nat1.bindO _ _ fun _ => Nat1.pure _) Nat1.none
  · exact Nat1.bindO _ _ fun a => Nat1.bindO _ _ fun b => Nat1.map (nat_binX P _ _ _ a b) (fun v => (some v, h))
  · split
    · exact old _
    · exact Nat1.bindO _ _ fun _ => Nat1.bindO _ _ fun _ => Nat1.cond _ (Nat1.bindO _ _ fun r => Nat1.map (nat_castR P _ r.1) (fun v => (some v, r.2))) Nat1.none
  · exact old _
theorem opX_out {P : Program} {O : Orc} {tm : T Value} {ty : TypeId} {op : Op} {h : AH} {K : Option Value → AH → Res} {r : Value × AH} (hk : evOpX P O tm ty op h K = some r) : ∃ v h', K v h' = some r ∧ Runs P O tm op h v h' := by
  classical
  obtain ⟨v, h', h1, h2⟩ := (nat_opX P O tm ty op h).out hk
  have h3 : evOpX P O tm ty op h (fun v2 h2 => if v2 = v ∧ h2 = h' then some r else none) = some r := by rw [h2]; simp
  obtain ⟨v2, h2', h4, h5⟩ := (nat_op P O tm op h).out (evOpX_le h3)
  by_cases hc : v2 = v ∧ h2' = h'
  · obtain ⟨rfl, rfl⟩ := hc
    exact ⟨v2, h2', h1, h5⟩
  · rw [if_neg hc] at h4; cases h4
theorem opX_read {P : Program} {O : Orc} {tm : T Value} {ty : TypeId} {op : Op} (hr : isRead op = true) (h : AH) (K : Option Value → AH → Res) : evOpX P O tm ty op h K = evOp P O tm op h K := by
  cases op with
  | call c =>
    obtain ⟨cl, args, ats⟩ := c
    cases cl with
    | builtin b => rfl
    | _ => simp [isRead] at hr
  | _ => first | rfl | (simp [isRead] at hr)
theorem opX_pure {P : Program} {O : Orc} {tm : T Value} {ty : TypeId} {op : Op} (hp : isPure op = true) (h h2 : AH) (K : Option Value → AH → Res) : evOpX P O tm ty op h K = evOpX P O tm ty op h2 (fun v _ => K v h) := by
  cases op <;> first
    | rfl
    | (simp [isPure] at hp; done)
end Go.Lg
