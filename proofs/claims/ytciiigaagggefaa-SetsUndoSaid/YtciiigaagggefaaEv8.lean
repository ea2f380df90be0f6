/- Soundness of the evaluator. Part 8: comparisons and arithmetic. -/
import Derived.Test.YtciiigaagggefaaEv7
namespace Go.Lg
open Go

theorem beqL_iff : ∀ {l m : List UInt8}, beqL l m = true ↔ l = m
  | [], [] => by simp [beqL]
  | [], _ :: _ => by simp [beqL]
  | _ :: _, [] => by simp [beqL]
  | a :: l, b :: m => by
    simp only [beqL]
    cases hb : Nat.beq a.toNat b.toNat with
    | true =>
      have := Nat.eq_of_beq_eq_true hb
      have := UInt8.toNat_inj.1 this
      simp [this, beqL_iff]
    | false =>
      have : a ≠ b := fun e => by subst e; rw [Nat.beq_refl] at hb; cases hb
      simp [this]
theorem seqB_eq (x y : ByteArray) : (x.toList == y.toList) = seqB x y := by
  rw [ByteArray.toList_eq, ByteArray.toList_eq, Bool.eq_iff_iff, beq_iff_eq]
  exact beqL_iff.symm
theorem ltL_eq : ∀ (l m : List UInt8), Op.bytesLess l m = ltL l m
  | [], [] => rfl
  | _ :: _, [] => rfl
  | [], _ :: _ => rfl
  | a :: l, b :: m => by
    simp only [Op.bytesLess, ltL, ltL_eq l m]
    cases hb : Nat.blt a.toNat b.toNat with
    | true =>
      have : a.toNat < b.toNat := Nat.le_of_ble_eq_true hb
      have : a < b := UInt8.lt_iff_toNat_lt.2 this
      simp [this]
    | false =>
      have hn : ¬ a.toNat < b.toNat := fun hl => by
        have : Nat.blt a.toNat b.toNat = true := Nat.ble_eq_true_of_le hl
        rw [hb] at this; cases this
      have hn' : ¬ a < b := fun h => hn (UInt8.lt_iff_toNat_lt.1 h)
      cases he : Nat.beq a.toNat b.toNat with
      | true =>
        have := UInt8.toNat_inj.1 (Nat.eq_of_beq_eq_true he)
        simp [this]
      | false =>
        have : a ≠ b := fun e => by subst e; rw [Nat.beq_refl] at he; cases he
        simp [this, hn']
theorem sltB_eq (x y : ByteArray) : Op.bytesLess x.toList y.toList = sltB x y := by
  rw [ByteArray.toList_eq, ByteArray.toList_eq, ltL_eq]; rfl

theorem stringOp_sound {P : Program} {op : BinOp} {x y : ByteArray} {v : Value} (h : abinStr op x y = some v) (w : World) : (Op.stringOp op x y).run P w = .ok v w ∧ ∀ φ, VR φ v v := by
  unfold abinStr at h
  split at h
  · cases hc : Nat.ble (x.size + y.size) 1152921504606846976 with
    | false => rw [hc, cond_false] at h; cases h
    | true =>
      rw [hc, cond_true] at h
      obtain rfl := Option.some.inj h
      have := Nat.le_of_ble_eq_true hc
      have hm : IntKind.i64.max = 9223372036854775807 := by decide
      have hn : ¬ (((x.size + y.size : Nat) : Int) > IntKind.i64.max) := by rw [hm]; omega
      refine ⟨?_, fun φ => .string _⟩
      unfold Op.stringOp
      simp only [if_neg hn]
      rfl
  all_goals first
    | (cases h; done)
    | (obtain rfl := Option.some.inj h
       refine ⟨?_, fun φ => .bool _⟩
       simp [Op.stringOp, seqB_eq, sltB_eq])

theorem intOps_sound {P : Program} {op : BinOp} {t : TypeId} {k : IntKind} {x y : Int} {v : Value} (h : abinInt op k x y = some v) (w : World) : (binOp op t (.int k x) (.int k y)).run P w = .ok v w ∧ ∀ φ, VR φ v v := by
  cases op <;> simp only [abinInt] at h
  case quo =>
    cases hc : decide (y = 0) with
    | true => rw [hc, cond_true] at h; cases h
    | false =>
      rw [hc, cond_false] at h
      obtain rfl := Option.some.inj h
      have := of_decide_eq_false hc
      exact ⟨by simp [binOp, Op.intDiv, this], fun φ => .int _ _⟩
  case rem =>
    cases hc : decide (y = 0) with
    | true => rw [hc, cond_true] at h; cases h
    | false =>
      rw [hc, cond_false] at h
      obtain rfl := Option.some.inj h
      have := of_decide_eq_false hc
      exact ⟨by simp [binOp, Op.intDiv, this], fun φ => .int _ _⟩
  all_goals first
    | (cases h; done)
    | (obtain rfl := Option.some.inj h
       refine ⟨?_, fun φ => by constructor⟩
       first
         | (simp [binOp, Op.intArith]; done)
         | (simp [binOp, Op.intBits]; done)
         | (simp [binOp, Op.intCmp]; done)
         | (simp only [binOp, Op.intCmp, ne_eq, not_true_eq_false, if_false, Sem.run_pure]; rfl)
         | (simp only [binOp, Op.intCmp, ne_eq, not_true_eq_false, if_false, Sem.run_pure]
            congr 2; rw [Bool.eq_iff_iff]; simp))

theorem shift_sound {P : Program} {op : BinOp} {k k' : IntKind} {x y : Int} {v : Value} (h : shiftOp op k x y = some v) (w : World) : (Op.shift op k x k' y).run P w = .ok v w ∧ ∀ φ, VR φ v v := by
  unfold shiftOp at h
  cases hc : decide (y < 0) with
  | true => rw [hc, cond_true] at h; cases h
  | false =>
    rw [hc, cond_false] at h
    have hn : ¬ y < 0 := of_decide_eq_false hc
    split at h
    all_goals first
      | (cases h; done)
      | (obtain rfl := Option.some.inj h
         refine ⟨?_, fun φ => .int _ _⟩
         simp [Op.shift, hn])

theorem eqOpt_inv {α : Type} {a b : Option α} {r : Bool} (h : eqOpt a b = some r) : (b = none ∧ r = a.isNone) ∨ (a = none ∧ b.isSome = true ∧ r = false) := by
  unfold eqOpt at h
  split at h
  · exact .inl ⟨rfl, (Option.some.inj h).symm⟩
  · split at h
    · exact .inr ⟨rfl, rfl, (Option.some.inj h).symm⟩
    · cases h

theorem guard_nil {P : Program} {t : TypeId} (op : BinOp) (p q : Operand) (hpq : (isC p || isC q) = true) (w : World) : (eqGuard op t p q .nilIface .nilIface).run P w = .ok () w := by
  unfold eqGuard
  cases p <;> cases q <;> first
    | (simp [isC] at hpq; done)
    | (cases op <;> rfl)

set_option maxHeartbeats 1000000 in
/-- the guard and the comparison of values that are no numbers and no strings -/
theorem aeq_sound0 {P : Program} {φ : Emb} {t : TypeId} {d : TypeDesc} {c : Bool} {x y x' y' : Value} {r : Bool} (dp : Nat) (hd : P.underlying t = some d) (h : aeq d c x y = some r) (hx : VR φ x x') (hy : VR φ y y') (w : World) :
    (Op.equalIn (dp + 1) t x' y').run P w = .ok r w ∧ (binOp .eql t x' y' = do pure (.bool (← Op.equal t x' y'))) ∧ (binOp .neq t x' y' = do pure (.bool (!(← Op.equal t x' y')))) ∧
      (∀ op (a b : Operand), c = (isC a || isC b) → (eqGuard op t a b x' y').run P w = .ok () w) := by
  have guard : (∀ op (a b : Operand), (match x', y' with | .nilIface, .nilIface => False | .agg _, .agg _ => False | _, _ => True) → (eqGuard op t a b x' y').run P w = .ok () w) := by
    intro op a b hm
    unfold eqGuard
    cases op <;> first
      | rfl
      | (simp only [Bool.not_true, Bool.false_eq_true, if_false]
         split
         · exact hm.elim
         · exact hm.elim
         · rfl)
  unfold aeq at h
  split at h
  · rename_i a b
    obtain rfl := vr_bool hx
    obtain rfl := vr_bool hy
    obtain rfl := Option.some.inj h
    refine ⟨?_, rfl, rfl, fun op p q _ => guard op p q trivial⟩
    simp [Op.equalIn, run_underlying' hd]
  · rename_i e a b
    rcases eqOpt_inv h with ⟨rfl, rfl⟩ | ⟨rfl, hb, rfl⟩
    · obtain rfl := vr_nilP hy
      cases a with
      | none =>
        obtain rfl := vr_nilP hx
        refine ⟨?_, rfl, rfl, fun op p q _ => guard op p q trivial⟩
        simp [Op.equalIn, run_underlying' hd]
      | some a =>
        obtain ⟨t', _, _, rfl⟩ := vr_ptr hx
        refine ⟨?_, rfl, rfl, fun op p q _ => guard op p q trivial⟩
        simp [Op.equalIn, run_underlying' hd]
    · obtain rfl := vr_nilP hx
      cases b with
      | none => cases hb
      | some b =>
        obtain ⟨t', _, _, rfl⟩ := vr_ptr hy
        refine ⟨?_, rfl, rfl, fun op p q _ => guard op p q trivial⟩
        simp [Op.equalIn, run_underlying' hd]
  · rename_i e a n1 c1 b n2 c2
    rcases eqOpt_inv h with ⟨rfl, rfl⟩ | ⟨rfl, hb, rfl⟩
    · cases hy
      cases hx <;>
      · refine ⟨?_, rfl, rfl, fun op p q _ => guard op p q trivial⟩
        simp [Op.equalIn, run_underlying' hd]
    · cases hx
      cases hy <;> first
        | (cases hb; done)
        | (refine ⟨?_, rfl, rfl, fun op p q _ => guard op p q trivial⟩
           simp [Op.equalIn, run_underlying' hd])
  · rename_i k e a b
    rcases eqOpt_inv h with ⟨rfl, rfl⟩ | ⟨rfl, hb, rfl⟩
    · cases hy
      cases hx <;>
      · refine ⟨?_, rfl, rfl, fun op p q _ => guard op p q trivial⟩
        simp [Op.equalIn, run_underlying' hd]
    · cases hx
      cases hy <;> first
        | (cases hb; done)
        | (refine ⟨?_, rfl, rfl, fun op p q _ => guard op p q trivial⟩
           simp [Op.equalIn, run_underlying' hd])
  · rename_i ms
    obtain rfl := vr_nilI hy
    split at h
    · obtain rfl := vr_nilI hx
      cases c with
      | false => cases h
      | true =>
        obtain rfl := Option.some.inj h
        refine ⟨?_, rfl, rfl, fun op p q hpq => guard_nil op p q hpq.symm w⟩
        simp [Op.equalIn, run_underlying' hd]
    · obtain rfl := Option.some.inj h
      obtain ⟨c', rfl, _⟩ := vr_iface hx
      refine ⟨?_, rfl, rfl, fun op p q _ => guard op p q trivial⟩
      simp [Op.equalIn, run_underlying' hd]
    · cases h
  · obtain rfl := vr_nilI hx
    obtain ⟨c', rfl, _⟩ := vr_iface hy
    obtain rfl := Option.some.inj h
    refine ⟨?_, rfl, rfl, fun op p q _ => guard op p q trivial⟩
    simp [Op.equalIn, run_underlying' hd]
  · obtain rfl := vr_nilF hy
    split at h
    · obtain rfl := vr_nilF hx
      obtain rfl := Option.some.inj h
      refine ⟨?_, rfl, rfl, fun op p q _ => guard op p q trivial⟩
      simp [Op.equalIn, run_underlying' hd]
    · obtain rfl := Option.some.inj h
      cases hx
      refine ⟨?_, rfl, rfl, fun op p q _ => guard op p q trivial⟩
      simp [Op.equalIn, run_underlying' hd]
    · cases h
  · cases h

theorem aeq_sound {P : Program} {φ : Emb} {t : TypeId} {d : TypeDesc} {c : Bool} {x y x' y' : Value} {r : Bool} (hd : P.underlying t = some d) (h : aeq d c x y = some r) (hx : VR φ x x') (hy : VR φ y y') (w : World) :
    (Op.equal t x' y').run P w = .ok r w ∧ (binOp .eql t x' y' = do pure (.bool (← Op.equal t x' y'))) ∧ (binOp .neq t x' y' = do pure (.bool (!(← Op.equal t x' y')))) ∧
      (∀ op (a b : Operand), c = (isC a || isC b) → (eqGuard op t a b x' y').run P w = .ok () w) := aeq_sound0 9999 hd h hx hy w

theorem abin_sound {P : Program} {φ : Emb} {op : BinOp} {t : TypeId} {x y x' y' : Value} {v : Value} {p q : Operand} (h : abin P op t (isC p || isC q) x y = some v) (hx : VR φ x x') (hy : VR φ y y') (w : World) :
    ∃ c, (do eqGuard op t p q x' y'; binOp op t x' y' : Sem Value).run P w = .ok c w ∧ VR φ v c := by
  unfold abin at h
  split at h
  · rename_i k a k' b
    obtain rfl := vr_int hx
    obtain rfl := vr_int hy
    have hg : (eqGuard op t p q (.int k a) (.int k' b)).run P w = .ok () w := by
      unfold eqGuard; cases op <;> rfl
    split at h
    · obtain ⟨h1, h2⟩ := shift_sound (P := P) (k' := k') h w
      exact ⟨v, by simp only [Sem.run_bind, hg, Result.andThen_ok]; exact h1, h2 φ⟩
    · obtain ⟨h1, h2⟩ := shift_sound (P := P) (k' := k') h w
      exact ⟨v, by simp only [Sem.run_bind, hg, Result.andThen_ok]; exact h1, h2 φ⟩
    · cases hk : k == k' with
      | false => rw [hk, cond_false] at h; cases h
      | true =>
        rw [hk, cond_true] at h
        have := eq_of_beq hk
        subst this
        obtain ⟨h1, h2⟩ := intOps_sound (P := P) (t := t) h w
        exact ⟨v, by simp only [Sem.run_bind, hg, Result.andThen_ok]; exact h1, h2 φ⟩
  · rename_i a b
    obtain rfl := vr_string hx
    obtain rfl := vr_string hy
    have hg : (eqGuard op t p q (.string a) (.string b)).run P w = .ok () w := by
      unfold eqGuard; cases op <;> rfl
    obtain ⟨h1, h2⟩ := stringOp_sound (P := P) h w
    refine ⟨v, ?_, h2 φ⟩
    simp only [Sem.run_bind, hg, Result.andThen_ok]
    have : binOp op t (.string a) (.string b) = Op.stringOp op a b := by cases op <;> rfl
    rw [this]; exact h1
  · split at h
    · rename_i d hd
      simp only [Option.bind_eq_some_iff] at h
      obtain ⟨b, h1, h2⟩ := h
      obtain rfl := Option.some.inj h2
      obtain ⟨e1, e2, _, e4⟩ := aeq_sound hd h1 hx hy w
      refine ⟨.bool b, ?_, .bool b⟩
      simp only [Sem.run_bind, e4 .eql p q rfl, Result.andThen_ok, e2, e1, Sem.run_pure]
    · rename_i d hd
      simp only [Option.bind_eq_some_iff] at h
      obtain ⟨b, h1, h2⟩ := h
      obtain rfl := Option.some.inj h2
      obtain ⟨e1, _, e3, e4⟩ := aeq_sound hd h1 hx hy w
      refine ⟨.bool (!b), ?_, .bool _⟩
      simp only [Sem.run_bind, e4 .neq p q rfl, Result.andThen_ok, e3, e1, Sem.run_pure]
    · cases h

section
variable {P : Program} {φ : Emb} {h : AH} {w : World} {a : Act} {tm : T Value} {nt : Nat} {K : Option Value → AH → Res} {r : Value × AH} {O : Orc}
  {dst : Option Tmp} {ty : TypeId} {pos : String} {after : Array Edge} {guard : Option (Nat × Bool)}
theorem ok_binOp {op : BinOp} {t u : TypeId} {x y : Operand} (hr : HRel φ h w) (ht : TR φ tm nt a.tmps) (hk : evOp P O tm (.binOp op t x y u) h K = some r) : OpOK P φ h w a ⟨dst, .binOp op t x y u, ty, pos, after, guard⟩ K r := by
  simp only [evOp, Option.bind_eq_some_iff] at hk
  obtain ⟨v1, h1, v2, h2, hk⟩ := hk
  cases hb : binOk op v1 v2 with
  | false => rw [hb] at hk; cases hk
  | true =>
  rw [hb, cond_true, Option.bind_eq_some_iff] at hk
  obtain ⟨v, h3, h4⟩ := hk
  obtain ⟨c, h5, h6⟩ := abin_sound (abinT_abin hb h3) (opv_rel ht h1) (opv_rel ht h2) w
  exact .value hr (run_v h5) h6 h4
end
end Go.Lg
