/- Slices that one holder alone has, with room behind; cells of interface values. -/
import Derived.Test.YtciiigaagggefaaEv31
namespace Go.Lg
set_option linter.unusedVariables false
open Go
theorem cellOk_ifV (x : Option (TypeId × Value)) : cellOk (ifV x) = true := by cases x <;> rfl
theorem cellOk_fnV (x : Option (FuncId × List Value × List Value)) : cellOk (fnV x) = true := by cases x <;> rfl
theorem ldF_of {h : AH} {b o : Nat} {c : List Value} {op ro : Bool} {e : Nat} {x : Option (TypeId × Value)} (hg : h.get b = some (.cells c op ro e)) (hc : c[o]? = some (ifV x)) : h.ldF b o = some x := by
  simp only [AH.ldF, AH.ld_of hg, hc, Option.bind_some]
  cases x <;> rfl
theorem asF_ifV (x : Option (TypeId × Value)) : asF (ifV x) = some x := by cases x <;> rfl
theorem isNilI_none : isNilI true (ifV none) = some true := rfl
theorem isNilI_some (c : Bool) (p : TypeId × Value) : isNilI c (ifV (some p)) = some false := rfl

/-- a slice that only its holder has: its block begins with what it has -/
inductive OwS (h : AH) (sz : Nat) : Option Addr → Nat → Nat → List Value → Prop
  | nil : OwS h sz none 0 0 []
  | mk {b n m : Nat} {cs rest : List Value} (hb : h.get b = some (.cells (cs ++ rest) true false sz)) (hl : cs.length = n * sz) (hr : rest.length = m * sz) (hn : b < h.n) : OwS h sz (some ⟨b, 0, none⟩) n opn cs
theorem OwS.fr {S : List Nat} {h h' : AH} {sz : Nat} {a : Option Addr} {n c : Nat} {cs : List Value} (ho : OwS h sz a n c cs) (hf : Fr S h h') (hn : ∀ b, blk a b → b ∉ S) : OwS h' sz a n c cs := by
  cases ho with
  | nil => exact .nil
  | mk hb hl hr hlt => exact .mk (by rw [hf.g _ hlt (hn _ rfl)]; exact hb) hl hr (Nat.lt_of_lt_of_le hlt hf.n)
theorem OwS.same {h h' : AH} {sz : Nat} {a : Option Addr} {n c : Nat} {cs : List Value} (ho : OwS h sz a n c cs) (hg : ∀ b, b < h.n → blk a b → h'.get b = h.get b) (hn : h.n ≤ h'.n) : OwS h' sz a n c cs := by
  cases ho with
  | nil => exact .nil
  | mk hb hl hr hlt => exact .mk (by rw [hg _ hlt rfl]; exact hb) hl hr (Nat.lt_of_lt_of_le hlt hn)
theorem OwS.len {h : AH} {sz : Nat} {a : Option Addr} {n c : Nat} {cs : List Value} (ho : OwS h sz a n c cs) : cs.length = n * sz := by
  cases ho with
  | nil => simp
  | mk _ hl _ _ => exact hl
theorem OwS.rd {h : AH} {sz : Nat} {a : Option Addr} {n c : Nat} {cs : List Value} (ho : OwS h sz a n c cs) : Rd h a cs := by
  cases ho with
  | nil => exact .inl rfl
  | mk hb hl hr hn => exact .inr ⟨_, _, _, _, _, rfl, hb, hn, fun k v hk => by
      simp only [Nat.zero_add]
      rw [List.getElem?_append_left (List.getElem?_eq_some_iff.mp hk).1]; exact hk⟩
theorem OwS.lt {h : AH} {sz : Nat} {a : Option Addr} {n c : Nat} {cs : List Value} (ho : OwS h sz a n c cs) : ∀ b, blk a b → b < h.n := by
  cases ho with
  | nil => intro b hb; cases hb
  | mk hb hl hr hn => intro b hb; obtain rfl : _ = b := hb; exact hn
theorem setL_app {cs xs rest : List Value} (hl : xs.length ≤ rest.length) : AH.setL (cs ++ rest) cs.length xs = cs ++ xs ++ rest.drop xs.length := by
  apply List.ext_getElem?
  intro k
  rw [AH.setL_get _ _ _ _ (by simp; omega)]
  by_cases h1 : k < cs.length
  · rw [if_neg (by omega), List.getElem?_append_left h1, List.append_assoc, List.getElem?_append_left h1]
  · by_cases h2 : k < cs.length + xs.length
    · rw [if_pos ⟨by omega, h2⟩, List.append_assoc, List.getElem?_append_right (by omega), List.getElem?_append_left (by omega)]
    · rw [if_neg (by omega), List.getElem?_append_right (by omega), List.getElem?_append_right (by simp; omega), List.getElem?_drop]
      congr 1
      simp only [List.length_append]
      omega
/-- one element more -/
theorem OwS.app {h : AH} {sz by_ : Nat} {a : Option Addr} {n c : Nat} {cs xs : List Value} {x : Value} (ho : OwS h sz a n c cs) (hx : newCells h sz x = some (1, xs)) (hm : xs.length = sz) (hsz : 0 < sz)
    (hr : (n + 1) * by_ ≤ 1099511627776) (hr2 : n + 1 ≤ 1099511627776) : ∃ a' h', appE sz by_ (.slice a n c) x h = some (.slice a' (n + 1) opn, h') ∧ OwS h' sz a' (n + 1) opn (cs ++ xs) ∧ h.n ≤ h'.n ∧
      (∀ b, b < h.n → ¬ blk a b → h'.get b = h.get b) ∧ (∀ b, blk a' b → blk a b ∨ h.n ≤ b) := by
  have h5 : Nat.blt opn opn = false := by show Nat.blt 4611686018427387904 4611686018427387904 = false; rfl
  cases ho with
  | nil =>
    simp only [Nat.zero_add] at hr hr2
    refine ⟨_, h.push (.cells xs true false sz), ?_, .mk (rest := []) (m := 0) (by rw [AH.get_push_eq, List.append_nil]; rfl) (by simp [hm]) (by simp) (by simp [AH.push]), by simp [AH.push], fun b hb _ => AH.get_push_ne _ (by omega), fun b hb => ?_⟩
    · simp only [appE, hx, Option.bind_some, Nat.zero_add, roomOk_t hr hr2, Bool.true_and, hm, Nat.one_mul, Nat.beq_refl, cond_true]
      rfl
    · obtain rfl : h.n = b := hb; exact .inr (Nat.le_refl _)
  | @mk b _ m _ rest hb hl hrl hn =>
    have hbeq : Nat.beq xs.length (1 * sz) = true := by rw [hm, Nat.one_mul]; exact Nat.beq_refl _
    by_cases hroom : sz ≤ rest.length
    · refine ⟨some ⟨b, 0, none⟩, h.set b (some (.cells (cs ++ xs ++ rest.drop xs.length) true false sz)), ?_, .mk (m := m - 1) (by rw [AH.get_set_eq]) (by rw [List.length_append, hl, hm, Nat.add_mul, Nat.one_mul]) ?_ hn, Nat.le_refl _, fun b' hb' hne => AH.get_set_ne _ (fun e => hne (by subst e; rfl)), fun b' hb' => .inl hb'⟩
      · have h3 : Nat.ble (0 + (n + 1) * sz) (cs ++ rest).length = true := Nat.ble_eq_true_of_le (by rw [List.length_append, hl, Nat.add_mul]; omega)
        have hst : h.st b (0 + n * sz) xs = some (h.set b (some (.cells (cs ++ xs ++ rest.drop xs.length) true false sz))) := by
          rw [AH.st_of hb (by rw [List.length_append, hl, hm]; omega), Nat.zero_add, ← hl, setL_app (by omega)]
        simp only [appE, hx, Option.bind_some, roomOk_t hr hr2, Bool.true_and, hbeq, cond_true, h5, cond_false, hb, Nat.beq_refl, h3, hst]
      · rw [List.length_drop, hrl, hm]
        cases m with
        | zero => simp at hrl; rw [hrl] at hroom; simp at hroom; omega
        | succ m => simp only [Nat.add_sub_cancel, Nat.add_mul]; omega
    · have hr0 : rest = [] := by
        cases m with
        | zero => exact List.eq_nil_of_length_eq_zero (by omega)
        | succ m => rw [Nat.add_mul] at hrl; omega
      subst hr0
      simp only [List.append_nil] at hb
      have h3 : Nat.ble (0 + (n + 1) * sz) cs.length = false := by
        rw [hl, Nat.zero_add, Nat.add_mul]
        cases hq : Nat.ble (n * sz + 1 * sz) (n * sz) with
        | false => rfl
        | true => have := Nat.le_of_ble_eq_true hq; omega
      have h4 : Nat.ble (0 + n * sz) cs.length = true := Nat.ble_eq_true_of_le (by omega)
      refine ⟨some ⟨h.n, 0, none⟩, (h.set b none).push (.cells (cs ++ xs) true false sz), ?_, .mk (rest := []) (m := 0) ?_ ?_ (by simp) ?_, by simp [AH.push, AH.set], fun b' hb' hne => ?_, fun b' hb' => ?_⟩
      · simp only [appE, hx, Option.bind_some, roomOk_t hr hr2, Bool.true_and, hbeq, cond_true, h5, cond_false, hb, Nat.beq_refl, h3, h4, List.drop_zero, List.take_of_length_le (Nat.le_of_eq hl)]
      · rw [List.append_nil]; exact AH.get_push_eq (h.set b none) _
      · rw [List.length_append, hl, hm, Nat.add_mul, Nat.one_mul]
      · show h.n < h.n + 1; omega
      · rw [AH.get_push_ne _ (by show b' ≠ h.n; omega), AH.get_set_ne _ (fun e => hne (by subst e; rfl))]
      · obtain rfl : h.n = b' := hb'; exact .inr (Nat.le_refl _)
/-- one number more behind a list that append alone has made since h0 -/
theorem Ow.push1 {h0 h : AH} {a : Option Addr} {n c : Nat} {l : List Int} (hf : Fr [] h0 h) (ho : Ow h 1 a n c (l.flatMap encI)) (hfresh : ∀ b, blk a b → h0.n ≤ b) (x : Int) (hl : l.length < 1000000) :
    ∃ a' n' c' h', appE 1 8 (.slice a n c) (.slice (some ⟨h.n, 0, none⟩) 1 1) (h.push (.cells [.int .i64 x] false false 1)) = some (.slice a' n' c', h') ∧ Ow h' 1 a' n' c' ((l ++ [x]).flatMap encI) ∧ Fr [] h0 h' ∧ (∀ b, blk a' b → h0.n ≤ b) := by
  have hf1 : Fr [] h (h.push (.cells [.int .i64 x] false false 1)) := Fr.push _ _ _
  have hlen : n = l.length := by have := ho.len; rw [flat_len encI_len] at this; omega
  obtain ⟨h', e1, e2, e3, e4⟩ := (ho.fr hf1 (by simp)).app (by_ := 8) (newCells_one (c := 1) (AH.get_push_eq h _) rfl) (by rfl) (by omega) (by omega) (by omega) (by omega)
  refine ⟨_, _, _, h', e1, by simpa [List.flatMap_append, encI] using e2, ⟨?_, ?_⟩, ?_⟩
  · have := hf.n; rw [e3, AH.n_push]; omega
  · intro b hb hm
    have hb' : b < h.n := Nat.lt_of_lt_of_le hb hf.n
    rw [e4 b (by rw [AH.n_push]; omega) (fun hbl => by have := hfresh b hbl; omega), AH.get_push_ne _ (by omega)]
    exact hf.g b hb hm
  · intro b hb
    obtain rfl : (h.push (.cells [.int .i64 x] false false 1)).n = b := hb
    have := hf.n; rw [AH.n_push]; omega
end Go.Lg
