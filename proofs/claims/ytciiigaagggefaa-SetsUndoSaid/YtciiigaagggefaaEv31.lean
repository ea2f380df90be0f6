/- Rows of whole numbers in the abstract memory. -/
import Derived.Test.YtciiigaagggefaaEv30
namespace Go.Lg
set_option linter.unusedVariables false
open Go
def encI (x : Int) : List Value := [.int .i64 x]
theorem encI_len (x : Int) : (encI x).length = 1 := rfl
/-- a variable that is an array of whole numbers -/
structure IArr (h : AH) (b : Nat) (l : List Int) : Prop where
  g : h.get b = some (.cells (l.flatMap encI) false false l.length)
  n : b < h.n
namespace IArr
variable {h h' : AH} {b : Nat} {l : List Int}
theorem fr {S : List Nat} (ha : IArr h b l) (hf : Fr S h h') (hb : b ∉ S) : IArr h' b l := ⟨by rw [hf.g _ ha.n hb]; exact ha.g, Nat.lt_of_lt_of_le ha.n hf.n⟩
theorem ld (ha : IArr h b l) {i : Nat} {x : Int} (hx : l[i]? = some x) : h.ldI .i64 b (0 + i * 1) = some x :=
  AH.ldI_of ha.g (by have := flat_get_some encI_len (j := 0) (by omega) hx; rw [Nat.zero_add]; simpa [encI] using this)
theorem st (ha : IArr h b l) {i : Nat} (hl : i < l.length) (x : Int) : ∃ h', h.st b (0 + i * 1) [.int .i64 x] = some h' ∧ IArr h' b (l.set i x) ∧ Fr [b] h h' := by
  refine ⟨_, AH.st_of ha.g (by rw [flat_len encI_len]; simp; omega), ⟨?_, ha.n⟩, Fr.set _ _ (by simp)⟩
  rw [AH.get_set_eq]
  have := flat_set encI_len (j := 0) (vs := [.int .i64 x]) (a' := x) (List.getElem?_eq_getElem hl) (by simp) rfl
  rw [Nat.zero_add]
  simp only [Nat.add_zero] at this
  rw [this, List.length_set]
theorem new (h : AH) (l : List Int) (z : List Value) (hz : z = l.flatMap encI) (e : Nat) (he : e = l.length) : IArr (h.push (.cells z false false e)) h.n l := by
  subst hz he
  exact ⟨AH.get_push_eq _ _, by show h.n < h.n + 1; omega⟩
end IArr
end Go.Lg
