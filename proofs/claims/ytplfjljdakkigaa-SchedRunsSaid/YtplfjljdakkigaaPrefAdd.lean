/- The document's World: Add. -/
import Derived.Test.YtplfjljdakkigaaPref13
namespace Go.Lg.Try
set_option linter.unusedVariables false
set_option linter.unusedSimpArgs false
open Go Go.Proofs
def openS (sts : List Int) (k : Nat) : Nat := ((sts.take k).filter fun x => decide (x ≠ 3)).length
theorem openS_step (sts : List Int) (k : Nat) {x : Int} (hx : sts[k]? = some x) : openS sts (k + 1) = openS sts k + if x = 3 then 0 else 1 := by
  unfold openS
  rw [List.take_add_one, hx, List.filter_append, List.length_append]
  by_cases c : x = 3 <;> simp [c]
theorem openS_le (sts : List Int) (k : Nat) : openS sts k ≤ k := by
  unfold openS
  have h1 := List.length_filter_le (fun x => decide (x ≠ 3)) (sts.take k)
  rw [List.length_take] at h1
  omega
section
variable {h h' : AH} {wb : Nat} {F : Nat → Prop} {pa : Option Addr} {pn pc : Nat} {A : WA} {sts sns line : List Int} {told : List Bool} {woken : Bool} {now : Int}
theorem refA_loop (hw : WR h wb pa pn pc A sts sns line told woken now) (hb : sts.length < 1000) {Q : Value → AH → Prop} (hQ : Ok (ref13_World_Add_j2 ((openS sts sts.length : Nat) : Int) h (some ⟨wb, 0, none⟩)) Q) :
    ∀ (n i : Nat), sts.length - i = n → i ≤ sts.length → Ok (ref13_World_Add_L1 (some ⟨wb, 0, none⟩) ((openS sts i : Nat) : Int) (i : Int) h) Q := by
  have hs := hw.slen
  intro n
  induction n with
  | zero =>
    intro i hn hi
    obtain rfl : i = sts.length := by omega
    refine Ok.le ?_ ref13_World_Add_L1_le
    simp only [Option.bind_some, hw.c1, hs]
    rw [dec_f (by omega), cond_f]
    exact hQ
  | succ n ih =>
    intro i hn hi
    obtain ⟨x, hx⟩ : ∃ x, sts[i]? = some x := ⟨_, List.getElem?_eq_getElem (by omega)⟩
    obtain ⟨ad, e1, e2, _⟩ := hw.setS hx 1
    have hstep := openS_step sts i hx
    have hle := openS_le sts i
    refine Ok.le ?_ ref13_World_Add_L1_le
    simp only [Option.bind_some, hw.c1, hs]
    rw [dec_t (by omega), cond_t]
    refine Ok.le ?_ ref13_World_Add_j4_le
    simp only [Option.bind_some, hw.c1, hs, e1, inB_t (show (0 : Int) ≤ (i : Int) by omega) (show (i : Int) < (sts.length : Nat) by omega), cond_t, Int.toNat_natCast, e2]
    have go : ∀ y : Int, y = ((openS sts (i + 1) : Nat) : Int) → Ok (ref13_World_Add_j3 (some ⟨wb, 0, none⟩) (i : Int) h y) Q := fun y hy => by
      refine Ok.le ?_ ref13_World_Add_j3_le
      rw [wrap64 (by omega) (by omega), hy]
      exact ih (i + 1) (by omega) (by omega)
    by_cases c : x = 3
    · rw [if_pos c] at hstep
      simp only [dec_t c, Bool.not_true, cond_f]
      exact go _ (by rw [hstep]; rfl)
    · rw [if_neg c] at hstep
      simp only [dec_f c, Bool.not_false, cond_t]
      rw [wrap64 (by omega) (by omega)]
      exact go _ (by rw [hstep]; omega)
theorem ref_add (hW : Wld h wb F pa pn pc sts sns line told woken now) (hb : sts.length < 1000) (hb2 : line.length < 1000) (hb3 : sns.length < 1000) : Ok (C k_ref13_World_Add [.pointer (some ⟨wb, 0, none⟩)] h) fun v h' =>
    (openS sts sts.length = 64 ∧ v = .bool false ∧ h' = h) ∨ (openS sts sts.length ≠ 64 ∧ v = .bool true ∧ ∃ F', Wld h' wb F' pa pn pc (sts ++ [1]) (sns ++ [0]) (line ++ [(sts.length : Int) + 1]) told woken now ∧ Moved F F' h h') := by
  obtain ⟨t, A, hw, hF, ht⟩ := hW
  have hs := hw.slen
  have hle := openS_le sts sts.length
  refine Ok.le ?_ ref13_World_Add_le
  simp only [F_ref13_World_Add]
  have h0 : (0 : Int) = ((openS sts 0 : Nat) : Int) := by simp [openS]
  have := refA_loop hw hb (Q := fun v h' => (openS sts sts.length = 64 ∧ v = .bool false ∧ h' = h) ∨ (openS sts sts.length ≠ 64 ∧ v = .bool true ∧ ∃ F', Wld h' wb F' pa pn pc (sts ++ [1]) (sns ++ [0]) (line ++ [(sts.length : Int) + 1]) told woken now ∧ Moved F F' h h')) ?_ sts.length 0 (by omega) (by omega)
  · simpa [openS] using this
  · refine Ok.le ?_ ref13_World_Add_j2_le
    by_cases c : openS sts sts.length = 64
    · rw [dec_t (by omega), cond_t]
      exact Ok.some (.inl ⟨c, rfl, rfl⟩)
    · rw [dec_f (by omega), cond_f]
      refine Ok.le ?_ ref13_World_Add_j1_le
      obtain ⟨sa, sn, sc, g1, a1, g2, a2, w2, a3, a4, a5⟩ := hw.pushS 1 (by omega)
      obtain ⟨na, nn, nc, g3, b1, g4, b2, w4, b3, b4, b5⟩ := w2.pushN 0 (by omega)
      have hs4 := w4.slen
      simp only [List.length_append, List.length_cons, List.length_nil] at hs4
      obtain ⟨la, ln, lc, g5, c1, g6, c2, w6, c3, c4, c5⟩ := w4.pushL ((sts.length : Int) + 1) (by omega)
      have hx : (((sn : Nat) : Int)) = (sts.length : Int) + 1 := by
        have : sn = sts.length + 1 := hs4
        omega
      have hf4 : Fr [] g4 (g4.push (.cells [.int .i64 ((sts.length : Int) + 1)] false false 1)) := Fr.push _ _ _
      simp only [Option.bind_some, hw.c1, a1, asS_s, a2, w2.c2, b1, b2, w4.c3, w4.c1, hx, (w4.fr hf4).c3, veqO_slice, cond_t, c1, c2]
      refine Ok.some (.inr ⟨c, rfl, fun b => F b ∨ h.n ≤ b, ⟨_, _, w6, fun b hb => ?_, rfl⟩, by omega, fun b hb hn => ?_, fun b hb => hb⟩)
      · rcases hb with hb | hb | hb | hb | hb
        · exact .inl (hF b (.inl hb))
        · have := a5 b hb; exact .inr (by omega)
        · have := b5 b hb; exact .inr (by omega)
        · have := c5 b hb; exact .inr (by omega)
        · exact .inl (hF b (.inr (.inr (.inr (.inr hb)))))
      · have n1 : b ≠ wb := fun e => hn (hF b (.inl e))
        have n2 : ¬ blk A.sa b := fun e => hn (hF b (.inr (.inl e)))
        have n3 : ¬ blk A.na b := fun e => hn (hF b (.inr (.inr (.inl e))))
        have n4 : ¬ blk A.la b := fun e => hn (hF b (.inr (.inr (.inr (.inl e)))))
        rw [c4 b (by omega) n1 n4, b4 b (by omega) n1 n3, a4 b hb n1 n2]
end
end Go.Lg.Try
