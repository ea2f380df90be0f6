/- The calls that chapter 14's laws are told. -/
import Derived.Test.YtplfjljdakkigaaPcell
import Derived.Test.YtplfjljdakkigaaEv31
namespace Go.Lg.Try
set_option linter.unusedVariables false
open Go Go.Proofs
structure COp where
  kind : Int
  i : Int
  o : Int
  v : Int
  ver : Int
def encCOp (x : COp) : List Value := [.int .i64 x.kind, .int .i64 x.i, .int .i64 x.o, .int .i64 x.v, .int .i64 x.ver]
theorem encCOp_len (x : COp) : (encCOp x).length = 5 := rfl
/-- a round's own copy of its call -/
structure OpAt (h : AH) (b : Nat) (x : COp) : Prop where
  g : h.get b = some (.cells (encCOp x) false false 5)
  n : b < h.n
namespace OpAt
variable {h h' : AH} {b : Nat} {x : COp}
theorem fr {S : List Nat} (ha : OpAt h b x) (hf : Fr S h h') (hb : b ∉ S) : OpAt h' b x := ⟨by rw [hf.g _ ha.n hb]; exact ha.g, Nat.lt_of_lt_of_le ha.n hf.n⟩
theorem l0 (ha : OpAt h b x) : h.ldI .i64 b (0 + 0) = some x.kind := AH.ldI_of ha.g rfl
theorem l1 (ha : OpAt h b x) : h.ldI .i64 b (0 + 1) = some x.i := AH.ldI_of ha.g rfl
theorem l2 (ha : OpAt h b x) : h.ldI .i64 b (0 + 2) = some x.o := AH.ldI_of ha.g rfl
theorem l3 (ha : OpAt h b x) : h.ldI .i64 b (0 + 3) = some x.v := AH.ldI_of ha.g rfl
theorem l4 (ha : OpAt h b x) : h.ldI .i64 b (0 + 4) = some x.ver := AH.ldI_of ha.g rfl
end OpAt
/-- the k-th call, read and copied -/
theorem op_read {h : AH} {a1 : Option Addr} {ops : List COp} (hr : Rd h a1 (ops.flatMap encCOp)) {k : Nat} {x : COp} (hx : ops[k]? = some x) : ∃ ad, a1 = some ad ∧
    h.ldI .i64 ad.block (ad.off + k * 5) = some x.kind ∧ h.ldI .i64 ad.block (ad.off + k * 5 + 1) = some x.i ∧ h.ldI .i64 ad.block (ad.off + k * 5 + 2) = some x.o ∧ h.ldI .i64 ad.block (ad.off + k * 5 + 3) = some x.v ∧ h.ldI .i64 ad.block (ad.off + k * 5 + 4) = some x.ver ∧
    ∃ h1, (h.push (.cells [(.int .i64 0), (.int .i64 0), (.int .i64 0), (.int .i64 0), (.int .i64 0)] false false 5)).st h.n 0 [.int .i64 x.kind, .int .i64 x.i, .int .i64 x.o, .int .i64 x.v, .int .i64 x.ver] = some h1 ∧ OpAt h1 h.n x ∧ Fr [] h h1 := by
  have hkl : k < ops.length := (List.getElem?_eq_some_iff.mp hx).1
  obtain ⟨ad, rfl, hrd⟩ := hr.some (by
    intro he
    have := congrArg List.length he
    rw [flat_len encCOp_len] at this
    simp at this; omega)
  have e : ∀ j, j < 5 → ∀ y, (encCOp x)[j]? = some (.int .i64 y) → h.ldI .i64 ad.block (ad.off + (k * 5 + j)) = some y := fun j hj y hy => (hrd (k * 5 + j)).1 _ _ (by rw [flat_get_some encCOp_len hj hx]; exact hy)
  have e0 := e 0 (by omega) x.kind rfl
  have e1 := e 1 (by omega) x.i rfl
  have e2 := e 2 (by omega) x.o rfl
  have e3 := e 3 (by omega) x.v rfl
  have e4 := e 4 (by omega) x.ver rfl
  simp only [Nat.add_zero, ← Nat.add_assoc] at e0 e1 e2 e3 e4
  obtain ⟨h1, s1, s2, s3, s4⟩ := push_st h [(.int .i64 0), (.int .i64 0), (.int .i64 0), (.int .i64 0), (.int .i64 0)] (encCOp x) 5 rfl
  exact ⟨ad, rfl, e0, e1, e2, e3, e4, h1, s1, ⟨s2, by omega⟩, s3⟩
end Go.Lg.Try
