/- The table's list: Right and load. -/
import Derived.Test.YtciiigaagggefaaGreatFtable
import Derived.Test.YtciiigaagggefaaGreatPuD
set_option linter.unusedVariables false
set_option linter.unusedSimpArgs false
namespace Go.Lg.Tryz
set_option linter.unusedVariables false
set_option linter.unusedSimpArgs false
open Go Go.Proofs
namespace Tab
theorem cE_len (e : En) : (cE e).length = 3 := rfl
theorem rd3 {h : AH} {a : Option Addr} {L : List En} {i : Nat} {x : En} (hr : Rd h a (L.flatMap cE)) (hx : L[i]? = some x) :
    ∃ ad, a = some ad ∧ h.ldB ad.block (ad.off + i * 3) = some x.u ∧ h.ldStr ad.block (ad.off + i * 3 + 1) = some x.k ∧ h.ldStr ad.block (ad.off + i * 3 + 2) = some x.v := by
  have hg : ∀ r, r < 3 → (L.flatMap cE)[i * 3 + r]? = (cE x)[r]? := fun r h3 => flat_get_some cE_len h3 hx
  rcases hr with h0 | ⟨ad, c, op, ro, e, rfl, h1, h2, h3⟩
  · exfalso
    have := hg 0 (by omega)
    rw [h0] at this
    cases this
  · refine ⟨ad, rfl, AH.ldB_of h1 ?_, AH.ldStr_of h1 ?_, AH.ldStr_of h1 ?_⟩
    · exact h3 (i * 3) _ (hg 0 (by omega))
    · rw [Nat.add_assoc]; exact h3 _ _ (hg 1 (by omega))
    · rw [Nat.add_assoc]; exact h3 _ _ (hg 2 (by omega))
def isZ (x : En) : Bool := (x.u == false) && (seqB x.k eS && (seqB x.v eS && true))
def rStep (L : List En) (i : Nat) (x : En) : Bool := isZ x || (x.u && (decide (i = 0) || match L[i - 1]? with | some p => p.u && sltB p.k x.k | none => false))
def rightF (L : List En) : Nat → Nat → Bool
  | 0, _ => true
  | n + 1, i => (match L[i]? with | some x => rStep L i x | none => false) && rightF L n (i + 1)
theorem right_loop {L : List En} {a : Option Addr} {c : Nat} (hl : L.length < 1000000) : ∀ (n i : Nat) (h : AH), L.length - i = n → i ≤ L.length → Rd h a (L.flatMap cE) →
    Ok (table_Right_L1 a L.length c ((L.length : Nat) : Int) (i : Int) h) fun v h' => v = .bool (rightF L n i) ∧ Fr [] h h' := by
  intro n
  induction n with
  | zero =>
    intro i h hn hi hr
    obtain rfl : i = L.length := by omega
    refine Ok.le ?_ table_Right_L1_le
    refine Ok.le ?_ table_Right_j5_le
    rw [dec_f (by omega), cond_f]
    refine Ok.le ?_ table_Right_j1_le
    exact Ok.some ⟨rfl, Fr.refl _ _⟩
  | succ n ih =>
    intro i h hn hi hr
    have hil : i < L.length := by omega
    obtain ⟨x, hx⟩ : ∃ x, L[i]? = some x := ⟨_, List.getElem?_eq_getElem hil⟩
    have hin : inB (i : Int) L.length = true := inB_t (by omega) (by omega)
    have hw : IntKind.wrap .i64 ((i : Int) + 1) = ((i + 1 : Nat) : Int) := by rw [wrap64 (by omega) (by omega)]; omega
    refine Ok.le ?_ table_Right_L1_le
    refine Ok.le ?_ table_Right_j5_le
    rw [dec_t (by omega), cond_t]
    refine Ok.le ?_ table_Right_j4_le
    obtain ⟨ad, rfl, e1, e2, e3⟩ := rd3 hr hx
    obtain ⟨h2, k1, g2, f2, n2⟩ := push_st h [.bool false, .string (ByteArray.mk #[]), .string (ByteArray.mk #[])] (cE x) 3 rfl
    have hr2 := hr.fr f2 (by simp)
    simp only [Option.bind_some, hin, cond_t, Int.toNat_natCast, e1, e2, e3, k1, AH.ldB_of g2 (o := 0) rfl, AH.ldStr_of g2 (o := 0 + 1) rfl, AH.ldStr_of g2 (o := 0 + 2) rfl, AH.ldB_of g2 (o := 0 + 0) rfl]
    have hnext : rStep L i x = true → Ok (table_Right_j2 (some ad) L.length c ((L.length : Nat) : Int) (i : Int) h2) fun v h' => v = .bool (rightF L (n + 1) i) ∧ Fr [] h h' := fun hs => by
      refine Ok.le ?_ table_Right_j2_le
      rw [hw]
      refine Ok.mono (ih (i + 1) h2 (by omega) (by omega) hr2) ?_
      rintro _ h3 ⟨rfl, f3⟩
      refine ⟨?_, f2.trans f3⟩
      show _ = Value.bool ((match L[i]? with | some x => rStep L i x | none => false) && rightF L n (i + 1))
      rw [hx]
      simp only [hs, Bool.true_and]
    have hstop : rStep L i x = false → (Value.bool false = .bool (rightF L (n + 1) i) ∧ Fr [] h h2) := fun hs => by
      refine ⟨?_, f2⟩
      show _ = Value.bool ((match L[i]? with | some x => rStep L i x | none => false) && rightF L n (i + 1))
      rw [hx]
      simp only [hs, Bool.false_and]
    have hj3 : ∀ b, rStep L i x = !b → Ok (table_Right_j3 h2 (some ad) L.length c ((L.length : Nat) : Int) (i : Int) b) fun v h' => v = .bool (rightF L (n + 1) i) ∧ Fr [] h h' := fun b hb => by
      refine Ok.le ?_ table_Right_j3_le
      cases b with
      | true => rw [cond_t]; exact Ok.some (hstop hb)
      | false => rw [cond_f]; exact hnext hb
    by_cases hz : isZ x = true
    · have hz' := hz
      unfold isZ at hz'
      rw [hz', cond_t]
      exact hnext (by unfold rStep; rw [hz]; rfl)
    · have hz0 : isZ x = false := by cases hq : isZ x <;> simp_all
      have hz' := hz0
      unfold isZ at hz'
      rw [hz', cond_f]
      cases hu : x.u with
      | false =>
        simp only [Bool.not_false, cond_t]
        exact hj3 true (by unfold rStep; rw [hz0, hu]; rfl)
      | true =>
        simp only [Bool.not_true, cond_f]
        by_cases hi0 : i = 0
        · rw [dec_f (by omega), cond_f]
          exact hj3 false (by unfold rStep; rw [hz0, hu, hi0]; rfl)
        · rw [dec_t (by omega), cond_t]
          have hw1 : IntKind.wrap .i64 ((i : Int) - 1) = ((i - 1 : Nat) : Int) := by rw [wrap64 (by omega) (by omega)]; omega
          obtain ⟨p, hp⟩ : ∃ p, L[i - 1]? = some p := ⟨_, List.getElem?_eq_getElem (by omega)⟩
          obtain ⟨ad', ea, p1, p2, p3⟩ := rd3 hr2 hp
          obtain rfl := Option.some.inj ea
          have hin1 : inB ((i - 1 : Nat) : Int) L.length = true := inB_t (by omega) (by omega)
          simp only [Option.bind_some, hw1, hin1, cond_t, Int.toNat_natCast, Nat.add_zero, p1]
          have hrs : rStep L i x = (p.u && sltB p.k x.k) := by unfold rStep; rw [hz0, hu, hp]; simp [hi0]
          cases hpu : p.u with
          | false =>
            simp only [Bool.not_false, cond_t]
            exact hj3 true (by rw [hrs, hpu]; rfl)
          | true =>
            simp only [Bool.not_true, cond_f, p2, Option.bind_some]
            exact hj3 _ (by rw [hrs, hpu, Bool.not_not]; rfl)
abbrev rightB (L : List En) : Bool := rightF L L.length 0
theorem right_ok {L : List En} {a : Option Addr} {c : Nat} {h : AH} (hl : L.length < 1000000) (hr : Rd h a (L.flatMap cE)) :
    Ok (C k_table_Right [.slice a L.length c] h) fun v h' => v = .bool (rightB L) ∧ Fr [] h h' := by
  refine Ok.le ?_ table_Right_le
  exact right_loop hl L.length 0 h (by omega) (by omega) hr
end Tab
end Go.Lg.Tryz

namespace Go.Lg.Tryz
set_option linter.unusedVariables false
set_option linter.unusedSimpArgs false
open Go Go.Proofs
namespace Tab
/-- a table: its transaction, and its place -/
abbrev aX (x t base n : Nat) : Asr := Cs x [.pointer (some ⟨t, 0, none⟩), .int .i64 (base : Nat), .int .i64 (n : Nat)] 3
/-- a list that load told -/
abbrev aLs (b n : Nat) (l : List En) : Asr := fun m => ∃ rest, (l.flatMap cE ++ rest).length = n * 3 ∧ Pt b (.cells (l.flatMap cE ++ rest) true false 3) m
def used (L : List En) : List En := L.filter (·.u)
theorem keepF_used : ∀ (L : List En) (M : List En) (k : Nat), (∀ j x, L[j]? = some x → M[k + j]? = some x) → keepF (fun j => match M[j]? with | some x => !x.u | none => false) k L = used L
  | [], _, _, _ => rfl
  | x :: L, M, k, h => by
    have h0 := h 0 x rfl
    rw [Nat.add_zero] at h0
    have ih := keepF_used L M (k + 1) fun j y hy => by
      have := h (j + 1) y hy
      rw [show k + 1 + j = k + (j + 1) by omega]; exact this
    unfold keepF used
    rw [h0]
    simp only [ih]
    cases hu : x.u <;> simp [hu, used]
section
variable {h : AH} {x t base n : Nat} {N : MD} {L : List En} {F : List Asr}
theorem cb_load {G : List Asr} {h : AH} (y : En) (w : H h G) : Ok (C k_table_Table_load_1 [vE y] h) fun v h' => v = .bool (!y.u) ∧ H h' G := by
  refine Ok.le ?_ table_Table_load_1_le
  have w1 := w.push (.cells [.bool y.u, .string y.k, .string y.v] false false 3)
  simp only [F_table_Table_load_1, AH.ldB_of w1.get (o := 0 + 0) rfl, Option.bind_some]
  exact Ok.some ⟨rfl, w1.drop⟩
/-- what load tells -/
def LoadQ (x t : Nat) (N : MD) (base n : Nat) (L : List En) (F : List Asr) (v : Value) (h' : AH) : Prop :=
  (rightB L = true ∧ ∃ b, v = .tuple #[.slice (some ⟨b, 0, none⟩) (used L).length opn, .int .i64 0] ∧ H h' (aLs b n (used L) :: aX x t base n :: aTab t N base n L :: F)) ∨
  (rightB L = false ∧ v = .tuple #[.slice none 0 0, .int .i64 241] ∧ H h' (aX x t base n :: aTab t N base n L :: F))
theorem load_fin {b : Nat} (hn : L.length = n) (hN : n ≤ 200) (w : H h (Pt b (.cells (L.flatMap cE) true false 3) :: aX x t base n :: aTab t N base n L :: F)) :
    Ok (table_Table_load_j2 (some ⟨b, 0, none⟩) n opn h) (LoadQ x t N base n L F) := by
  subst hn
  refine Ok.le ?_ table_Table_load_j2_le
  have hg := w.get
  have hr : Rd h (some ⟨b, 0, none⟩) (L.flatMap cE) := .inr ⟨_, _, _, _, _, rfl, hg, w.lt, fun k v hv => by rw [Nat.zero_add]; exact hv⟩
  refine Ok.bind (right_ok (by omega) hr) ?_
  rintro _ h2 ⟨rfl, f2⟩
  have w2 := w.fr f2
  simp only [asB_b, Option.bind_some]
  cases hR : rightB L with
  | false =>
    simp only [Bool.not_false, cond_t]
    exact Ok.some (.inr ⟨hR, rfl, w2.drop⟩)
  | true =>
    simp only [Bool.not_true, cond_f]
    refine Ok.le ?_ table_Table_load_j1_le
    have cb : Cb L (fun j => match L[j]? with | some x => !x.u | none => false) (fun _ m => m = fun _ => none) k_table_Table_load_1 [] [] := fun k y h G hy w => by
      refine Ok.mono (cb_load y w) ?_
      rintro _ h' ⟨rfl, w'⟩
      exact ⟨by simp only [hy], w'⟩
    have w3 : H h2 ((fun m => m = fun _ => none) :: Pt b (.cells (L.flatMap cE) true false 3) :: aX x t base L.length :: aTab t N base L.length L :: F) := by
      obtain ⟨m, h1, h3⟩ := w2
      exact ⟨m, h1, fun _ => none, m, fun b => .inl rfl, funext fun b => by simp [Hp.add], rfl, h3⟩
    refine Ok.bind (deleteT (by kernel_rfl) cb (by omega) w3) ?_
    rintro _ h4 ⟨rfl, rest, hrl, w4⟩
    have hk : keepF (fun j => match L[j]? with | some x => !x.u | none => false) 0 L = used L := keepF_used L L 0 fun j y hy => by rw [Nat.zero_add]; exact hy
    rw [hk] at w4 hrl ⊢
    simp only [asS_s, Option.bind_some]
    refine Ok.some (.inl ⟨hR, b, rfl, ?_⟩)
    have w5 : H h4 (Pt b (.cells ((used L).flatMap cE ++ rest) true false 3) :: aX x t base L.length :: aTab t N base L.length L :: F) := w4.rm 1 rfl
    exact w5.imp fun m hm => ⟨rest, hrl, hm⟩
theorem load_loop : ∀ (k i : Nat) (a : Option Addr) (c : Nat) (h : AH), n - i = k → i ≤ n → 0 < n →
    H h (aOw 3 a i c ((L.take i).flatMap cE) :: aX x t base n :: aTab t N base n L :: F) →
    Ok (table_Table_load_L1 (some ⟨x, 0, none⟩) (n : Nat) a i c (i : Nat) h) (LoadQ x t N base n L F) := by
  intro k
  induction k with
  | zero =>
    intro i a c h hk hi hn w
    obtain rfl : i = n := by omega
    obtain ⟨hb1, hb2, hb3, hb4⟩ := tab_le (w.mv 2 rfl)
    refine Ok.le ?_ table_Table_load_L1_le
    refine Ok.le ?_ table_Table_load_j6_le
    rw [dec_f (by omega), cond_f]
    rw [List.take_of_length_le (by omega)] at w
    have ho := w.ow
    generalize hcs : L.flatMap cE = cs at ho w
    cases ho with
    | nil => omega
    | @mk b _ _ hg hl hlt =>
      have w2 : H h (Pt b (.cells cs true false 3) :: _) := up_pt w hg
      rw [← hcs] at w2
      exact load_fin hb4 hb3 w2
  | succ k ih =>
    intro i a c h hk hi hn w
    obtain ⟨hb1, hb2, hb3, hb4⟩ := tab_le (w.mv 2 rfl)
    obtain ⟨y, hy⟩ : ∃ y, L[i]? = some y := ⟨_, List.getElem?_eq_getElem (by omega)⟩
    refine Ok.le ?_ table_Table_load_L1_le
    refine Ok.le ?_ table_Table_load_j6_le
    rw [dec_t (by omega), cond_t]
    refine Ok.le ?_ table_Table_load_j5_le
    have gx := w.g 1 rfl
    have hw : IntKind.wrap .i64 (((base : Nat) : Int) + (i : Nat)) = ((base + i : Nat) : Int) := by rw [wrap64 (by omega) (by omega)]; omega
    simp only [Option.bind_some, AH.ldP_of gx (o := 0 + 0) rfl, AH.ldI_of gx (o := 0 + 1) rfl, hw]
    refine Ok.bind (tab_read (w.mv 2 rfl) hy) ?_
    rintro _ h2 ⟨rfl, w2⟩
    simp only [asTu_t, Option.bind_some, hdO_c, asAg_t, asB_b, asStr_s, asI_i64, List.isEmpty_nil, cond_t]
    have w3 := w2.push (.cells [.bool false, .string (ByteArray.mk #[]), .string (ByteArray.mk #[])] false false 3)
    have gx3 := w3.g 3 rfl
    obtain ⟨h4, k1, w4, k2⟩ := w2.var [.bool false, .string (ByteArray.mk #[]), .string (ByteArray.mk #[])] (cE y) 3 rfl
    simp only [AH.ldP_of gx3 (o := 0 + 0) rfl, AH.ldI_of gx3 (o := 0 + 1) rfl, Option.bind_some, veqO_int, veqO_ptr, cond_t, k1, decide_true, Bool.not_true, cond_f]
    refine Ok.le ?_ table_Table_load_j4_le
    have g4 := w4.get
    simp only [Option.bind_some, AH.ldB_of g4 (o := 0) rfl, AH.ldStr_of g4 (o := 0 + 1) rfl, AH.ldStr_of g4 (o := 0 + 2) rfl]
    have w5 : H h4 (aOw 3 a i c ((L.take i).flatMap cE) :: aX x t base n :: aTab t N base n L :: F) := w4.drop.pm [1, 2, 0]
    obtain ⟨a', h6, k3, w6, k4⟩ := w5.app (by_ := 40) (c' := 1) (xs := cE y) rfl (by omega) (by omega) (by omega)
    rw [show appE 3 40 (.slice a i c) (.slice (some ⟨h4.n, 0, none⟩) 1 1) (h4.push (.cells [.bool y.u, .string y.k, .string y.v] false false 3)) = some (.slice a' (i + 1) opn, h6) from k3]
    simp only [asS_s, Option.bind_some]
    refine Ok.le ?_ table_Table_load_j3_le
    rw [show IntKind.wrap .i64 (((i : Nat) : Int) + 1) = ((i + 1 : Nat) : Int) by rw [wrap64 (by omega) (by omega)]; omega]
    have ht : (L.take i).flatMap cE ++ cE y = (L.take (i + 1)).flatMap cE := by rw [List.take_add_one, hy]; simp
    rw [ht] at w6
    exact ih (i + 1) a' opn h6 (by omega) (by omega) hn w6
theorem load_ok (hn : 0 < n) (w : H h (aX x t base n :: aTab t N base n L :: F)) : Ok (C k_table_Table_load [ptr x] h) (LoadQ x t N base n L F) := by
  refine Ok.le ?_ table_Table_load_le
  have gx := w.get
  simp only [F_table_Table_load, Option.isNone_some, cond_f, Option.bind_some, AH.ldP_of gx (o := 0 + 0) rfl]
  refine Ok.le ?_ table_Table_load_j7_le
  simp only [Option.bind_some, AH.ldI_of gx (o := 0 + 2) rfl]
  exact load_loop n 0 none 0 h (by omega) (by omega) hn (w.owNil 3)
end
end Tab
end Go.Lg.Tryz
