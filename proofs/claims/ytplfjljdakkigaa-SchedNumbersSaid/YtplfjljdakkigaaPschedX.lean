/- More of the scheduler: the set of its blocks, made tight; a new one. -/
import Derived.Test.YtplfjljdakkigaaPsched
namespace Go.Lg.Try
set_option linter.unusedVariables false
open Go Go.Proofs
theorem Sch.tight {h : AH} {s : Nat} {F : Nat → Prop} {ts : List TD} {line : List Int} {now : Int} {woken : Bool} (hs : Sch h s F ts line now woken) : ∃ F0, Sch h s F0 ts line now woken ∧ (∀ b, F0 b → b < h.n) ∧ (∀ b, F0 b → F b) := by
  obtain ⟨ta, tn, tc, la, ln, lc, hS, hF⟩ := hs
  refine ⟨fun b => b = s ∨ blk ta b ∨ blk la b, ⟨ta, tn, tc, la, ln, lc, hS, fun b hb => hb⟩, fun b hb => ?_, hF⟩
  rcases hb with rfl | hb | hb
  · exact hS.sn
  · exact hS.tk.lt b hb
  · exact hS.lk.lt b hb
theorem new_sch (h : AH) : Sch (h.push (.cells [.bool true, .slice none 0 0, .slice none 0 0, .int .i64 0, .bool false] false false 5)) h.n (fun b => b = h.n) [] [] 0 false :=
  ⟨none, 0, 0, none, 0, 0, ⟨AH.get_push_eq _ _, .nil, .nil, by show h.n < h.n + 1; omega, fun e => e.elim, fun e => e.elim, fun b e => e.elim⟩, fun b hb => by
    rcases hb with e | e | e
    · exact e
    · exact e.elim
    · exact e.elim⟩
theorem Moved.keep {F F' : Nat → Prop} {h h' : AH} (mv : Moved F F' h h') {b : Nat} (hb : b < h.n) (hn : ¬ F b) : ¬ F' b := fun hf => by rcases mv.f b hf with e | e; exact hn e; omega
/-- every block of the set before the end of the memory: a set that is tight -/
theorem Moved.sub {F F' F0 : Nat → Prop} {h h' : AH} (mv : Moved F F' h h') (hs : ∀ b, F0 b → F' b) : Moved F F0 h h' := ⟨mv.n, mv.g, fun b hb => mv.f b (hs b hb)⟩
end Go.Lg.Try
