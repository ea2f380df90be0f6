/- Computations in the passing style that answer at all answers whoever asks; slice expressions leave the memory alone. -/
import Derived.Test.YtciiigaagggefaaEv8
namespace Go.Lg
open Go

/-- a computation in the passing style that answers at all answers whoever asks -/
def Nat1 {α : Type} (m : (α → Res) → Res) : Prop := ∀ K r, m K = some r → ∃ x, K x = some r ∧ ∀ K', m K' = K' x
theorem Nat1.pure {α : Type} (x : α) : Nat1 (fun K => K x) := fun _ _ h => ⟨x, h, fun _ => rfl⟩
theorem Nat1.none {α : Type} : Nat1 (fun _ : α → Res => Option.none) := fun _ _ h => by cases h
theorem Nat1.bindO {α β : Type} (o : Option β) (f : β → (α → Res) → Res) (hf : ∀ b, Nat1 (f b)) : Nat1 (fun K => o.bind fun b => f b K) := by
  intro K r h
  cases o with
  | none => cases h
  | some b => exact hf b K r h
theorem Nat1.cond {α : Type} (b : Bool) {m n : (α → Res) → Res} (hm : Nat1 m) (hn : Nat1 n) : Nat1 (fun K => cond b (m K) (n K)) := by
  cases b
  · exact hn
  · exact hm
theorem Nat1.then {α β : Type} {m : (β → Res) → Res} {f : β → (α → Res) → Res} (hm : Nat1 m) (hf : ∀ b, Nat1 (f b)) : Nat1 (fun K => m fun b => f b K) := by
  intro K r h
  obtain ⟨x, h1, h2⟩ := hm _ _ h
  obtain ⟨y, h3, h4⟩ := hf x K r h1
  exact ⟨y, h3, fun K' => (h2 _).trans (h4 K')⟩
theorem Nat1.map {α β : Type} {m : (β → Res) → Res} (hm : Nat1 m) (f : β → α) : Nat1 (fun K => m fun b => K (f b)) := Nat1.then hm fun b => Nat1.pure (f b)

/-- two answers at once -/
abbrev K2 (α : Type) := (α → AH → Res) → Res
def un {α : Type} (m : K2 α) : ((α × AH) → Res) → Res := fun K => m fun a h => K (a, h)
def Nat2 {α : Type} (m : K2 α) : Prop := Nat1 (un m)
theorem Nat2.out {α : Type} {m : K2 α} (hm : Nat2 m) {K : α → AH → Res} {r : Value × AH} (h : m K = some r) : ∃ v h', K v h' = some r ∧ ∀ K', m K' = K' v h' := by
  obtain ⟨⟨v, h'⟩, h1, h2⟩ := hm (fun p => K p.1 p.2) r h
  exact ⟨v, h', h1, fun K' => h2 fun p => K' p.1 p.2⟩


theorem nat_boundOf (x : Option Value) (d top : Nat) : Nat1 (boundOf x d top) := by
  show Nat1 (fun K => boundOf x d top K)
  unfold boundOf
  split
  · exact Nat1.pure _
  · exact Nat1.cond _ (Nat1.pure _) Nat1.none
  · exact Nat1.none

theorem nat_slice (P : Program) (t : TypeId) (x : Value) (lo hi mx : Option Value) (h : AH) : Nat2 (evSlice P t x lo hi mx h) := by
  show Nat1 (fun K => evSlice P t x lo hi mx h fun a h => K (a, h))
  unfold evSlice
  split
  · split
    · exact Nat1.none
    · exact Nat1.then (nat_boundOf hi _ _) (fun _ => Nat1.then (nat_boundOf lo _ _) fun _ => Nat1.pure _)
  · refine Nat1.bindO _ _ (fun sz => ?_)
    split
    · refine Nat1.cond _ ?_ Nat1.none
      split
      · exact Nat1.then (nat_boundOf hi _ _) (fun _ => Nat1.then (nat_boundOf lo _ _) fun _ => Nat1.pure _)
      · exact Nat1.cond _ (Nat1.then (nat_boundOf _ _ _) fun _ => Nat1.then (nat_boundOf hi _ _) (fun _ => Nat1.then (nat_boundOf lo _ _) fun _ => Nat1.pure _)) Nat1.none
    · refine Nat1.cond _ ?_ (Nat1.cond _ Nat1.none ?_)
      · split
        · exact Nat1.then (nat_boundOf hi _ _) (fun _ => Nat1.then (nat_boundOf lo _ _) fun _ => Nat1.pure _)
        · exact Nat1.cond _ (Nat1.then (nat_boundOf _ _ _) fun _ => Nat1.then (nat_boundOf hi _ _) (fun _ => Nat1.then (nat_boundOf lo _ _) fun _ => Nat1.pure _)) Nat1.none
      · split
        · refine Nat1.cond _ ?_ Nat1.none
          split
          · exact Nat1.then (nat_boundOf hi _ _) (fun _ => Nat1.then (nat_boundOf lo _ _) fun _ => Nat1.pure _)
          · exact Nat1.cond _ (Nat1.then (nat_boundOf _ _ _) fun _ => Nat1.cond _ (Nat1.then (nat_boundOf hi _ _) (fun _ => Nat1.then (nat_boundOf lo _ _) fun _ => Nat1.pure _)) Nat1.none) Nat1.none
        · exact Nat1.none
  · exact Nat1.none

theorem heap_of_shift {α : Type} {v : α} {h h' : AH} (hh : ∀ K : α → AH → Res, K v h' = K v h) : h' = h := by
  have := hh fun _ x => some (.nilFunc, x)
  simp only [Option.some.injEq, Prod.mk.injEq, true_and] at this
  exact this

theorem slice_shift (P : Program) (t : TypeId) (x : Value) (lo hi mx : Option Value) (h : AH) (K : Value → AH → Res) : evSlice P t x lo hi mx h K = evSlice P t x lo hi mx h (fun v _ => K v h) := rfl

theorem aslice_heap {P : Program} {t : TypeId} {x : Value} {lo hi mx : Option Value} {h : AH} {r : Value × AH} (hk : aslice P t x lo hi mx h = some r) : r.2 = h := by
  obtain ⟨v, h', h1, h2⟩ := (nat_slice P t x lo hi mx h).out hk
  obtain rfl := Option.some.inj h1
  exact heap_of_shift (v := v) fun K => by rw [← h2 K, slice_shift, h2]
end Go.Lg
