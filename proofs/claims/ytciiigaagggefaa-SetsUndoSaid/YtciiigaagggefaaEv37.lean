/- What the summaries come to, over the abstract memory. -/
import Derived.Test.YtciiigaagggefaaEv35
import Derived.Test.YtciiigaagggefaaEv36
namespace Go.Lg
open Go
set_option linter.unusedVariables false
set_option linter.unusedSimpArgs false
theorem T.setF_setF {α : Type} (a b : Option α) : ∀ (n : Nat) (t : T α) (k : Nat), k < n → T.setF n (T.setF n t k a) k b = T.setF n t k b := by
  intro n
  induction n with
  | zero => intro t k h; omega
  | succ n ih =>
    intro t k hk
    cases t with
    | nil =>
      simp only [T.setF]
      cases h0 : Nat.beq k 0 with
      | true => simp [h0, T.setF]
      | false =>
        have hk0 : k ≠ 0 := fun e => by subst e; cases h0
        cases h1 : Nat.beq (k % 2) 1 with
        | true => simp only [cond_false, cond_true, T.setF, h0, h1]; rw [ih _ _ (by omega)]
        | false => simp only [cond_false, T.setF, h0, h1]; rw [ih _ _ (by omega)]
    | node v l r =>
      simp only [T.setF]
      cases h0 : Nat.beq k 0 with
      | true => simp [h0, T.setF]
      | false =>
        have hk0 : k ≠ 0 := fun e => by subst e; cases h0
        cases h1 : Nat.beq (k % 2) 1 with
        | true => simp only [cond_false, cond_true, T.setF, h0, h1]; rw [ih _ _ (by omega)]
        | false => simp only [cond_false, T.setF, h0, h1]; rw [ih _ _ (by omega)]
theorem AH.push_set (h : AH) (x y : Blk) : (h.push x).set h.n (some y) = h.push y := by
  show (⟨h.n + 1, _⟩ : AH) = ⟨h.n + 1, _⟩
  congr 1
  show T.setF _ (T.setF _ _ _ _) _ _ = T.setF _ _ _ _
  exact T.setF_setF _ _ _ _ _ (by omega)
theorem nodupN_of : ∀ {l : List Nat}, l.Nodup → nodupN l = true
  | [], _ => rfl
  | x :: l, h => by
    rw [List.nodup_cons] at h
    simp only [nodupN, Bool.and_eq_true, List.all_eq_true]
    refine ⟨fun y hy => ?_, nodupN_of h.2⟩
    have : x ≠ y := fun e => h.1 (e ▸ hy)
    have h2 : Nat.beq x y = false := by
      cases hq : Nat.beq x y with
      | false => rfl
      | true => exact absurd (Nat.eq_of_beq_eq_true hq) this
    rw [h2]; rfl
theorem nodupI_of : ∀ {l : List Int}, l.Nodup → nodupI l = true
  | [], _ => rfl
  | x :: l, h => by
    rw [List.nodup_cons] at h
    simp only [nodupI, Bool.and_eq_true, List.all_eq_true]
    refine ⟨fun y hy => ?_, nodupI_of h.2⟩
    have : x ≠ y := fun e => h.1 (e ▸ hy)
    simpa using this
theorem keysI_of : ∀ {es : List MapEntry} {l : List (Int × Int)}, es.map prI = l.map encPr → keysI es = some (l.map Prod.fst)
  | [], [], _ => rfl
  | [], p :: l, h => by simp at h
  | e :: es, [], h => by simp at h
  | e :: es, p :: l, h => by
    simp only [List.map_cons, List.cons.injEq, prI, encPr, Prod.mk.injEq] at h
    simp only [keysI, h.1.1, keyI, Option.bind_some, keysI_of h.2, List.map_cons]
def Wk (l : List Int) : Prop := ∀ x ∈ l, (Lit.int .i64 x).wf = true
theorem collect_eq {fks : List Nat} {fk : Nat} (hfk : fks.any (Nat.beq fk) = true) {h : AH} {bx r : Nat} {l : List (Int × Int)} (hb : h.get bx = some (.cells [.map (some r)] false false 1)) (hm : MI h r l) (hw : Wk (l.map Prod.fst)) (hl : l.length ≤ 1000000) :
    collectF fks [.func (.func fk) ⟨[]⟩ ⟨[.pointer (some ⟨bx, 0, none⟩)]⟩] h = some ((permsL (l.map Prod.fst)).map (outC h)) := by
  obtain ⟨es, clk, h1, h2, h3, h4⟩ := hm.ex
  have e1 : colMap h bx = some (some r) := by simp only [colMap, hb]
  have hco : collectOk es clk (l.map Prod.fst) = true := by
    simp only [collectOk, Bool.and_eq_true]
    refine ⟨Nat.ble_eq_true_of_le (by rw [ent_len h2]; exact hl), ?_, nodupN_of h4, nodupI_of hm.nk, ?_⟩
    · rw [List.all_eq_true]; intro e he; exact Nat.ble_eq_true_of_le (h3 e he)
    · rw [List.all_eq_true]; exact hw
  have e2 : colKeys h r = some (l.map Prod.fst) := by
    simp only [colKeys, h1, keysI_of h2, Option.bind_some, hco, cond_true]
  simp only [collectF, colArg, Option.bind_some, hfk, cond_true, e1, e2]
theorem sortI_perm {l m : List Int} (h : l.Perm m) : sortI l = sortI m := mergeSort_of_perm_i h
theorem sortI_len (l : List Int) : (sortI l).length = l.length := List.length_mergeSort _
theorem sortI_mem {l : List Int} {x : Int} : x ∈ sortI l ↔ x ∈ l := (List.mergeSort_perm l _).mem_iff
theorem sort_eq (kg : FuncId) {h : AH} {b c : Nat} {l : List Int} (hb : h.get b = some (.cells (l.map (Value.int .i64)) true false 1)) (hl : l.length ≤ 1000000) (hne : l ≠ []) :
    sortF kg [.slice (some ⟨b, 0, none⟩) l.length c, .func (.func kg) ⟨[]⟩ ⟨[]⟩] h = some [(.tuple #[], h.set b (some (.cells ((sortI l).map (Value.int .i64)) true false 1)))] := by
  have h0 : Nat.beq l.length 0 = false := by
    cases l with
    | nil => exact absurd rfl hne
    | cons _ _ => rfl
  have h1 : Nat.ble l.length 1000000 = true := Nat.ble_eq_true_of_le hl
  have hrow : ldRow h b 0 l.length = some (l.map (Value.int .i64)) := by
    simp only [ldRow, hb, List.length_map, Nat.zero_add, List.drop_zero]
    rw [Nat.ble_eq_true_of_le (Nat.le_refl _), cond_true, List.take_of_length_le (by simp)]
  have hst : h.st b 0 ((sortI l).map (Value.int .i64)) = some (h.set b (some (.cells ((sortI l).map (Value.int .i64)) true false 1))) := by
    rw [AH.st_of hb (by simp [sortI_len]), setL_all (by simp [sortI_len])]
  have hg : Nat.beq kg kg = true := Nat.beq_refl _
  simp only [sortF, hg, cond_true, h0, cond_false, h1, hrow, Option.bind_some, rowI_of, hst]
theorem sort_nil (kg : FuncId) {h : AH} {a : Option Addr} {c : Nat} : sortF kg [.slice a 0 c, .func (.func kg) ⟨[]⟩ ⟨[]⟩] h = some [(.tuple #[], h)] := by
  have hg : Nat.beq kg kg = true := Nat.beq_refl _
  have h0 : Nat.beq 0 0 = true := rfl
  simp only [sortF, hg, cond_true, h0]
theorem allR_one (r : Res) : allR [r] = r := rfl
theorem bnd {i : Int} {k top : Nat} (hi : i = k) (ht : k ≤ top) (k0 : IntKind) (d : Nat) (K : Nat → Res) : boundOf (some (.int k0 i)) d top K = K k := by
  subst hi
  simp only [boundOf, inBe_t (show (0 : Int) ≤ (k : Int) by omega) (show (k : Int) ≤ (top : Nat) by omega), cond_t, Int.toNat_natCast]
theorem bnd0 (d top : Nat) (K : Nat → Res) : boundOf none d top K = K d := rfl
theorem blt_opn : Nat.blt opn opn = false := by show Nat.blt 4611686018427387904 4611686018427387904 = false; rfl
theorem blt_small {n : Nat} (h : n < 4611686018427387904) : Nat.blt n opn = true := Nat.ble_eq_true_of_le (show n + 1 ≤ 4611686018427387904 by omega)
/-- the first k of a slice that is one's own -/
theorem OwS.cut {h : AH} {sz : Nat} (hsz : 0 < sz) {a : Option Addr} {n c : Nat} {cs : List Value} (ho : OwS h sz a n c cs) {k : Nat} (hk : k ≤ n) {i : Int} (hi : i = k) :
    slcE sz a n c none (some (.int .i64 i)) none h = some (.slice a k c, h) ∧ OwS h sz a k c (cs.take (k * sz)) := by
  cases ho with
  | nil =>
    obtain rfl : k = 0 := by omega
    refine ⟨?_, by simpa using OwS.nil⟩
    simp only [slcE, Nat.beq_refl, Bool.and_self, cond_t]
    rw [bnd (k := 0) hi (Nat.le_refl _), bnd0]
  | @mk b _ m _ rest hb hl hr hn =>
    have hb10 : Nat.beq sz 0 = false := by
      cases hq : Nat.beq sz 0 with
      | false => rfl
      | true => have := Nat.eq_of_beq_eq_true hq; omega
    have hkn : k * sz ≤ n * sz := Nat.mul_le_mul_right _ hk
    refine ⟨?_, .mk (rest := cs.drop (k * sz) ++ rest) (m := n - k + m) ?_ ?_ ?_ hn⟩
    · simp only [slcE, blt_opn, cond_f, hb10, hb, Nat.beq_refl, cond_t]
      rw [bnd hi (by rw [List.length_append, hl, Nat.sub_zero, hr, ← Nat.add_mul, Nat.mul_div_cancel _ hsz]; omega), bnd0, Nat.zero_mul, Nat.sub_zero]
    · rw [← List.append_assoc, List.take_append_drop]; exact hb
    · rw [List.length_take, hl]; omega
    · rw [List.length_append, List.length_drop, hl, hr, Nat.add_mul, Nat.sub_mul]
end Go.Lg
