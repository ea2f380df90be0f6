/- Entries in a stable order: the plain law. -/
import Derived.Test.YtmjcbpocciaafaaPafterK
set_option linter.unusedVariables false
set_option linter.unusedSimpArgs false
namespace Go.Lg.Try
set_option linter.unusedVariables false
set_option linter.unusedSimpArgs false
open Go Go.Proofs
--BEGIN
/-- those of a version -/
def fv (v : Int) (l : List En) : List En := l.filter fun x => decide (x.v = v)
def Sd (l : List En) : Prop := l.Pairwise fun x y => x.v ≤ y.v
/-- a stable order of l -/
def Stb (l r : List En) : Prop := Sd r ∧ ∀ v, fv v r = fv v l
theorem fv_app (v : Int) (l r : List En) : fv v (l ++ r) = fv v l ++ fv v r := List.filter_append _ _
theorem fv_cons (v : Int) (x : En) (l : List En) : fv v (x :: l) = if x.v = v then x :: fv v l else fv v l := by
  unfold fv
  by_cases c : x.v = v <;> simp [c]
theorem fv_nil (v : Int) : fv v [] = [] := rfl
theorem fv_none {v : Int} {l : List En} (h : ∀ x ∈ l, x.v ≠ v) : fv v l = [] := by
  unfold fv
  rw [List.filter_eq_nil_iff]
  intro x hx; simp [h x hx]
theorem fv_mem {v : Int} {l : List En} {x : En} (h : x ∈ fv v l) : x ∈ l ∧ x.v = v := by
  unfold fv at h
  rw [List.mem_filter] at h
  exact ⟨h.1, by simpa using h.2⟩
theorem mem_fv {l : List En} {x : En} (h : x ∈ l) : x ∈ fv x.v l := by unfold fv; rw [List.mem_filter]; exact ⟨h, by simp⟩
theorem Stb.mem {l r : List En} (h : Stb l r) {x : En} : x ∈ r ↔ x ∈ l := by
  constructor
  · intro hx
    have := mem_fv hx
    rw [h.2] at this
    exact (fv_mem this).1
  · intro hx
    have := mem_fv hx
    rw [← h.2] at this
    exact (fv_mem this).1
theorem Stb.refl {l : List En} (h : Sd l) : Stb l l := ⟨h, fun _ => rfl⟩
theorem Stb.trans {a b c : List En} (h : ∀ v, fv v b = fv v a) (k : Stb b c) : Stb a c := ⟨k.1, fun v => (k.2 v).trans (h v)⟩
theorem sd_uniq : ∀ {r r' : List En}, Sd r → Sd r' → (∀ v, fv v r = fv v r') → r = r'
  | [], [], _, _, _ => rfl
  | [], y :: r', _, _, h => by
    have := h y.v
    rw [fv_cons, if_pos rfl] at this
    exact absurd this (by simp [fv_nil])
  | x :: r, [], _, _, h => by
    have := h x.v
    rw [fv_cons, if_pos rfl] at this
    exact absurd this (by simp [fv_nil])
  | x :: r, y :: r', h1, h2, h => by
    unfold Sd at h1 h2
    rw [List.pairwise_cons] at h1 h2
    have e : x.v = y.v := by
      rcases Int.lt_trichotomy x.v y.v with c | c | c
      · have := h x.v
        rw [fv_cons, if_pos rfl, fv_none (l := y :: r')] at this
        · exact absurd this (by simp)
        · intro z hz
          rcases List.mem_cons.mp hz with rfl | hz
          · omega
          · have := h2.1 z hz; omega
      · exact c
      · have := h y.v
        rw [fv_cons y.v y, if_pos rfl, fv_none (l := x :: r)] at this
        · exact absurd this (by simp)
        · intro z hz
          rcases List.mem_cons.mp hz with rfl | hz
          · omega
          · have := h1.1 z hz; omega
    have h0 := h x.v
    rw [fv_cons, if_pos rfl, fv_cons, if_pos e.symm] at h0
    injection h0 with hx hr
    subst hx
    rw [sd_uniq h1.2 h2.2 fun v => by
      have := h v
      rw [fv_cons, fv_cons] at this
      by_cases c : x.v = v
      · rw [if_pos c, if_pos c] at this; injection this
      · rw [if_neg c, if_neg c] at this; exact this]
theorem Stb.uniq {l r r' : List En} (h : Stb l r) (h' : Stb l r') : r = r' := sd_uniq h.1 h'.1 fun v => (h.2 v).trans (h'.2 v).symm
theorem Stb.perm {l r : List En} (h : Stb l r) : r.length = l.length := by
  have key : ∀ (r l : List En), (∀ v, fv v r = fv v l) → r.length = l.length := by
    intro r
    induction r with
    | nil =>
      intro l h
      cases l with
      | nil => rfl
      | cons y l =>
        have := h y.v
        rw [fv_cons, if_pos rfl] at this
        exact absurd this (by simp [fv_nil])
    | cons x r ih =>
      intro l h
      have hx : x ∈ fv x.v l := by rw [← h x.v, fv_cons, if_pos rfl]; exact List.mem_cons_self
      -- the first one of that version
      have key2 : ∀ (l : List En), fv x.v (x :: r) = fv x.v l → ∃ l1 l2, l = l1 ++ x :: l2 ∧ ∀ z ∈ l1, z.v ≠ x.v := by
        intro l
        induction l with
        | nil => intro e; rw [fv_cons, if_pos rfl] at e; exact absurd e (by simp [fv_nil])
        | cons z l ih2 =>
          intro e
          by_cases c : z.v = x.v
          · rw [fv_cons, if_pos rfl, fv_cons, if_pos c] at e
            injection e with e1 e2
            exact ⟨[], l, by rw [e1]; rfl, fun _ h => by simp at h⟩
          · rw [fv_cons x.v z, if_neg c] at e
            obtain ⟨l1, l2, e1, e2⟩ := ih2 e
            refine ⟨z :: l1, l2, by rw [e1]; rfl, fun y hy => ?_⟩
            rcases List.mem_cons.mp hy with rfl | hy
            · exact c
            · exact e2 y hy
      obtain ⟨l1, l2, rfl, h1⟩ := key2 l (h x.v)
      have := ih (l1 ++ l2) fun v => by
        have := h v
        rw [fv_cons, fv_app, fv_cons] at this
        rw [fv_app]
        by_cases c : x.v = v
        · rw [if_pos c, if_pos c, fv_none (v := v) (l := l1) (fun z hz => c ▸ h1 z hz)] at this
          rw [fv_none (v := v) (l := l1) (fun z hz => c ▸ h1 z hz)]
          injection this
        · rw [if_neg c, if_neg c] at this
          exact this
      simp only [List.length_append, List.length_cons] at this ⊢
      omega
  exact key r l h.2
theorem sd_app {l r : List En} (h1 : Sd l) (h2 : Sd r) (h : ∀ x ∈ l, ∀ y ∈ r, x.v ≤ y.v) : Sd (l ++ r) := List.pairwise_append.mpr ⟨h1, h2, h⟩
theorem Sd.left {l r : List En} (h : Sd (l ++ r)) : Sd l := (List.pairwise_append.mp h).1
theorem Sd.right {l r : List En} (h : Sd (l ++ r)) : Sd r := (List.pairwise_append.mp h).2.1
theorem Sd.le {l r : List En} (h : Sd (l ++ r)) : ∀ x ∈ l, ∀ y ∈ r, x.v ≤ y.v := (List.pairwise_append.mp h).2.2
theorem Sd.get {l : List En} (h : Sd l) {i j : Nat} {x y : En} (hij : i ≤ j) (hx : l[i]? = some x) (hy : l[j]? = some y) : x.v ≤ y.v := by
  rcases Nat.lt_or_ge i j with c | c
  · obtain ⟨h1, rfl⟩ := List.getElem?_eq_some_iff.mp hx
    obtain ⟨h2, rfl⟩ := List.getElem?_eq_some_iff.mp hy
    exact List.pairwise_iff_getElem.mp h i j h1 h2 c
  · obtain rfl : i = j := by omega
    rw [hx] at hy
    injection hy with e
    rw [e]; omega
theorem sd_nil : Sd [] := List.Pairwise.nil
theorem sd_one (x : En) : Sd [x] := List.pairwise_singleton _ _
/-- one more is put in -/
theorem stb_ins {l M1 M2 : List En} {x : En} (h : Stb l (M1 ++ M2)) (h1 : ∀ y ∈ M1, y.v ≤ x.v) (h2 : ∀ y ∈ M2, x.v < y.v) : Stb (l ++ [x]) (M1 ++ x :: M2) := by
  refine ⟨?_, fun v => ?_⟩
  · refine sd_app h.1.left ?_ fun y hy z hz => ?_
    · exact List.pairwise_cons.mpr ⟨fun z hz => by have := h2 z hz; omega, h.1.right⟩
    · rcases List.mem_cons.mp hz with rfl | hz
      · exact h1 y hy
      · have a := h1 y hy; have b := h2 z hz; omega
  · rw [fv_app v l, ← h.2 v, fv_app, fv_app, fv_cons, fv_cons, fv_nil]
    by_cases c : x.v = v
    · rw [if_pos c, if_pos c, fv_none (v := v) (l := M2) (fun z hz => by have := h2 z hz; omega)]; simp
    · rw [if_neg c, if_neg c]; simp
/-- two halves that lie one behind the other -/
theorem stb_split {A1 A2 B1 B2 M1 M2 : List En} (hA : Sd (A1 ++ A2)) (hB : Sd (B1 ++ B2)) (h1 : ∀ x ∈ A1, ∀ y ∈ B2, x.v ≤ y.v) (h2 : ∀ x ∈ B1, ∀ y ∈ A2, x.v < y.v) (k1 : Stb (A1 ++ B1) M1) (k2 : Stb (A2 ++ B2) M2) :
    Stb ((A1 ++ A2) ++ (B1 ++ B2)) (M1 ++ M2) := by
  refine ⟨sd_app k1.1 k2.1 fun x hx y hy => ?_, fun v => ?_⟩
  · rcases List.mem_append.mp (k1.mem.mp hx) with a | a <;> rcases List.mem_append.mp (k2.mem.mp hy) with b | b
    · exact hA.le x a y b
    · exact h1 x a y b
    · have := h2 x a y b; omega
    · exact hB.le x a y b
  · rw [fv_app, k1.2, k2.2, fv_app, fv_app, fv_app v (A1 ++ A2), fv_app v A1 A2, fv_app v B1 B2]
    have : fv v B1 = [] ∨ fv v A2 = [] := by
      by_cases c : fv v B1 = []
      · exact .inl c
      · right
        obtain ⟨x, hx⟩ := List.exists_mem_of_ne_nil _ c
        obtain ⟨a, b⟩ := fv_mem hx
        exact fv_none fun y hy => by have := h2 x a y hy; omega
    rcases this with e | e <;> simp [e]
theorem stb_nilL (B : List En) (h : Sd B) : Stb ([] ++ B) B := .refl h
theorem stb_nilR (A : List En) (h : Sd A) : Stb (A ++ []) A := by rw [List.append_nil]; exact .refl h
/-- one ahead of a row -/
theorem stb_oneL {B1 B2 : List En} {x : En} (h : Sd (B1 ++ B2)) (h1 : ∀ y ∈ B1, y.v < x.v) (h2 : ∀ y ∈ B2, x.v ≤ y.v) : Stb ([x] ++ (B1 ++ B2)) (B1 ++ x :: B2) := by
  have := stb_split (A1 := []) (A2 := [x]) (B1 := B1) (B2 := B2) (M1 := B1) (M2 := x :: B2) (sd_one x) h (fun _ h => by simp at h) (fun y hy z hz => by
    obtain rfl : z = x := by simpa using hz
    exact h1 y hy) (.refl h.left) (.refl (List.pairwise_cons.mpr ⟨h2, h.right⟩))
  exact this
theorem stb_oneR {A1 A2 : List En} {y : En} (h : Sd (A1 ++ A2)) (h1 : ∀ x ∈ A1, x.v ≤ y.v) (h2 : ∀ x ∈ A2, y.v < x.v) : Stb ((A1 ++ A2) ++ [y]) (A1 ++ y :: A2) := stb_ins (.refl h) h1 h2
--END
end Go.Lg.Try

namespace Go.Lg.Try
set_option linter.unusedVariables false
set_option linter.unusedSimpArgs false
open Go Go.Proofs
abbrev aE (b : Nat) (rest : List Value) (l : List En) : Asr := Pt b (.cells (l.flatMap encN ++ rest) true false 3)
theorem hrE (l : List En) (rest : List Value) : HR l (l.flatMap encN ++ rest) := by
  intro k x hx r hr
  have hk := (List.getElem?_eq_some_iff.mp hx).1
  rw [List.getElem?_append_left (by rw [flat_len encN_len]; omega)]
  exact flat_get_some encN_len hr hx
theorem cmpV_lt {x y : Int} (h : x < y) : cmpV x y < 0 := by unfold cmpV; rw [if_pos h]; decide
section
variable {b c N : Nat} {rest : List Value} {F : List Asr} {h : AH}
theorem stE {l : List En} {k : Nat} (x : En) (w : H h (aE b rest l :: F)) (hk : k < l.length) : ∃ h', h.st b (0 + k * 3) [.int .i64 x.v, .int .i64 x.o, .int .i64 x.a] = some h' ∧ H h' (aE b rest (l.set k x) :: F) := by
  obtain ⟨y, hy⟩ : ∃ y, l[k]? = some y := ⟨_, List.getElem?_eq_getElem hk⟩
  have hfl : (l.flatMap encN).length = l.length * 3 := flat_len encN_len l
  obtain ⟨h', s, w', n⟩ := w.st (o := 0 + k * 3) [.int .i64 x.v, .int .i64 x.o, .int .i64 x.a] (by rw [List.length_append, hfl]; simp only [List.length_cons, List.length_nil]; omega)
  refine ⟨h', s, ?_⟩
  rw [Nat.zero_add, setL_left (by rw [hfl]; simp only [List.length_cons, List.length_nil]; omega)] at w'
  have e := flat_set (enc := encN) encN_len (i := k) (j := 0) (a := y) (a' := x) (vs := [.int .i64 x.v, .int .i64 x.o, .int .i64 x.a]) hy (by simp) rfl
  rw [Nat.add_zero] at e
  rw [e] at w'
  exact w'
theorem adj_set (R : List En) (x y : En) : ∀ Q : List En, ((Q ++ y :: x :: R).set (Q.length + 1) y).set Q.length x = Q ++ x :: y :: R
  | [] => rfl
  | z :: Q => by
    have := adj_set R x y Q
    simp only [List.cons_append, List.length_cons, List.set_cons_succ, this]
theorem adj_set2 (R : List En) (x y : En) : ∀ Q : List En, ((Q ++ y :: x :: R).set Q.length x).set (Q.length + 1) y = Q ++ x :: y :: R
  | [] => rfl
  | z :: Q => by
    have := adj_set2 R x y Q
    simp only [List.cons_append, List.length_cons, List.set_cons_succ, this]
theorem adj_get (R : List En) (y : En) (Q : List En) : (Q ++ y :: R)[Q.length]? = some y := by rw [List.getElem?_append_right (Nat.le_refl _), Nat.sub_self]; rfl
theorem adj_get1 (R : List En) (x y : En) (Q : List En) : (Q ++ y :: x :: R)[Q.length + 1]? = some x := by rw [List.getElem?_append_right (by omega), Nat.add_sub_cancel_left]; rfl
theorem swp {Q R : List En} {x y : En} (w : H h (aE b rest (Q ++ y :: x :: R) :: F)) : ∃ h1 h2, h.st b (0 + (Q.length + 1) * 3) [.int .i64 y.v, .int .i64 y.o, .int .i64 y.a] = some h1 ∧ h1.st b (0 + Q.length * 3) [.int .i64 x.v, .int .i64 x.o, .int .i64 x.a] = some h2 ∧ H h2 (aE b rest (Q ++ x :: y :: R) :: F) := by
  obtain ⟨h1, s1, w1⟩ := stE y w (k := Q.length + 1) (by simp)
  obtain ⟨h2, s2, w2⟩ := stE x w1 (k := Q.length) (by simp)
  exact ⟨h1, h2, s1, s2, by rw [adj_set] at w2; exact w2⟩
theorem swp2 {Q R : List En} {x y : En} (w : H h (aE b rest (Q ++ y :: x :: R) :: F)) : ∃ h1 h2, h.st b (0 + Q.length * 3) [.int .i64 x.v, .int .i64 x.o, .int .i64 x.a] = some h1 ∧ h1.st b (0 + (Q.length + 1) * 3) [.int .i64 y.v, .int .i64 y.o, .int .i64 y.a] = some h2 ∧ H h2 (aE b rest (Q ++ x :: y :: R) :: F) := by
  obtain ⟨h1, s1, w1⟩ := stE x w (k := Q.length) (by simp)
  obtain ⟨h2, s2, w2⟩ := stE y w1 (k := Q.length + 1) (by simp)
  exact ⟨h1, h2, s1, s2, by rw [adj_set2] at w2; exact w2⟩
theorem ldE {l : List En} {k : Nat} {x : En} (w : H h (aE b rest l :: F)) (hx : l[k]? = some x) :
    h.ldI .i64 b (0 + k * 3) = some x.v ∧ h.ldI .i64 b (0 + k * 3 + 1) = some x.o ∧ h.ldI .i64 b (0 + k * 3 + 2) = some x.a := ld3 (hrE l rest) w.get hx
/-- insertion: one goes to its place -/
theorem in_L2 (hN : N < 100000000) {T R P : List En} {x : En} {i e : Nat} {Q : Value → AH → Prop}
    (K : ∀ h M, Stb (T ++ [x]) M → H h (aE b rest (P ++ (M ++ R)) :: F) → Ok (slices_insertionSortCmpFunc_after_Entry_int_j1 (e : Nat) (P.length : Nat) (some ⟨b, 0, none⟩) N fC c (i : Nat) h) Q) :
    ∀ (n : Nat) (M1 M2 : List En) (h : AH), M1.length = n → Stb T (M1 ++ M2) → (∀ y ∈ M2, x.v < y.v) → P.length + M1.length + 1 + M2.length + R.length = N → H h (aE b rest (P ++ (M1 ++ (x :: (M2 ++ R)))) :: F) →
      Ok (slices_insertionSortCmpFunc_after_Entry_int_L2 (P.length : Nat) (some ⟨b, 0, none⟩) N fC (i : Nat) (e : Nat) c ((P.length + M1.length : Nat) : Int) h) Q := by
  intro n
  induction n with
  | zero =>
    intro M1 M2 h hn hs h2 hl w
    obtain rfl := List.eq_nil_of_length_eq_zero hn
    refine Ok.le ?_ slices_insertionSortCmpFunc_after_Entry_int_L2_le
    rw [dec_f (by simp), cond_f]
    exact K h (x :: M2) (stb_ins (M1 := []) hs (fun _ h => by simp at h) h2) w
  | succ n ih =>
    intro M1 M2 h hn hs h2 hl w
    rcases List.eq_nil_or_concat M1 with rfl | ⟨M1', y, rfl⟩
    · simp at hn
    rw [List.concat_eq_append] at *
    have hlen : (M1' ++ [y]).length = M1'.length + 1 := by simp
    rw [hlen] at hn hl ⊢
    have e1 : P ++ (M1' ++ [y] ++ (x :: (M2 ++ R))) = (P ++ M1') ++ y :: x :: (M2 ++ R) := by simp
    rw [e1] at w
    have hq : (P ++ M1').length = P.length + M1'.length := by simp
    have gy := adj_get (x :: (M2 ++ R)) y (P ++ M1')
    have gx := adj_get1 (M2 ++ R) x y (P ++ M1')
    rw [hq] at gy gx
    refine Ok.le ?_ slices_insertionSortCmpFunc_after_Entry_int_L2_le
    rw [dec_t (by omega), cond_t]
    rw [show P.length + (M1'.length + 1) = P.length + M1'.length + 1 by omega, wsub1 (by omega) (by omega), Nat.add_sub_cancel]
    obtain ⟨x1, x2, x3⟩ := ldE w gx
    obtain ⟨y1, y2, y3⟩ := ldE w gy
    have b1 : inB ((P.length + M1'.length + 1 : Nat) : Int) N = true := inB_t (by omega) (by omega)
    have b2 : inB ((P.length + M1'.length : Nat) : Int) N = true := inB_t (by omega) (by omega)
    simp only [Option.bind_some, b1, b2, cond_t, Int.toNat_natCast, x1, x2, x3, y1, y2, y3, fnQ_sm, hasC]
    refine Ok.bind (cmpN w x y) ?_
    rintro _ h3 ⟨rfl, w3⟩
    simp only [asI_i64, Option.bind_some]
    by_cases c0 : x.v < y.v
    · rw [dec_t (cmpV_lt c0), cond_t]
      refine Ok.le ?_ slices_insertionSortCmpFunc_after_Entry_int_j3_le
      rw [wsub1 (by omega) (by omega), Nat.add_sub_cancel]
      obtain ⟨x1, x2, x3⟩ := ldE w3 gx
      obtain ⟨y1, y2, y3⟩ := ldE w3 gy
      obtain ⟨h4, h5, s4, s5, w5⟩ := swp w3
      rw [hq] at s4 s5
      simp only [Option.bind_some, b1, b2, cond_t, Int.toNat_natCast, x1, x2, x3, y1, y2, y3, s4, s5]
      refine Ok.le ?_ slices_insertionSortCmpFunc_after_Entry_int_j2_le
      rw [wsub1 (by omega) (by omega), Nat.add_sub_cancel]
      refine ih M1' (y :: M2) h5 (by omega) (by simpa using hs) (fun z hz => ?_) (by simp only [List.length_cons]; omega) (by simpa using w5)
      rcases List.mem_cons.mp hz with rfl | hz
      · exact c0
      · exact h2 z hz
    · rw [dec_f (cmpV_ge (by omega)), cond_f]
      refine K h3 (M1' ++ [y] ++ x :: M2) (stb_ins hs (fun z hz => ?_) h2) (by simpa using w3)
      rcases List.mem_append.mp hz with hz | hz
      · have := hs.1.left.le z hz y (by simp); omega
      · obtain rfl : z = y := by simpa using hz
        omega
theorem in_L1 (hN : N < 100000000) {P S : List En} {e : Nat} : ∀ (n : Nat) (T M A : List En) (h : AH), A.length = n → Stb T M → e = P.length + M.length + A.length → P.length + M.length + A.length + S.length = N → H h (aE b rest (P ++ (M ++ (A ++ S))) :: F) →
      Ok (slices_insertionSortCmpFunc_after_Entry_int_L1 (e : Nat) (P.length : Nat) (some ⟨b, 0, none⟩) N fC c ((P.length + M.length : Nat) : Int) h) fun v h' => v = .tuple #[] ∧ ∃ M', Stb (T ++ A) M' ∧ H h' (aE b rest (P ++ (M' ++ S)) :: F) := by
  intro n
  induction n with
  | zero =>
    intro T M A h hn hs he hl w
    obtain rfl := List.eq_nil_of_length_eq_zero hn
    refine Ok.le ?_ slices_insertionSortCmpFunc_after_Entry_int_L1_le
    rw [dec_f (by simp at he; omega), cond_f]
    exact Ok.some ⟨rfl, M, by simpa using hs, w⟩
  | succ n ih =>
    intro T M A h hn hs he hl w
    match A, hn with
    | x :: A, hn =>
      simp only [List.length_cons] at hn he hl
      refine Ok.le ?_ slices_insertionSortCmpFunc_after_Entry_int_L1_le
      rw [dec_t (by omega), cond_t]
      refine Ok.le ?_ slices_insertionSortCmpFunc_after_Entry_int_j4_le
      refine in_L2 hN (T := T) (R := A ++ S) (x := x) (fun h2 M2 hs2 w2 => ?_) M.length M [] h rfl (by simpa using hs) (fun _ h => by simp at h) (by simp; omega) w
      refine Ok.le ?_ slices_insertionSortCmpFunc_after_Entry_int_j1_le
      have hl2 : M2.length = M.length + 1 := by rw [hs2.perm, List.length_append, ← hs.perm]; rfl
      rw [wadd1 (by omega), show P.length + M.length + 1 = P.length + M2.length by omega]
      refine Ok.mono (ih (T ++ [x]) M2 A h2 (by omega) hs2 (by omega) (by omega) w2) ?_
      rintro v h' ⟨hv, M', q1, q2⟩
      exact ⟨hv, M', by simpa using q1, q2⟩
theorem in_ok (hN : N < 100000000) {P A S : List En} {e : Nat} (he : e = P.length + A.length) (hl : P.length + A.length + S.length = N) (h0 : 0 < A.length) (w : H h (aE b rest (P ++ (A ++ S)) :: F)) :
    Ok (C k_slices_insertionSortCmpFunc_after_Entry_int [.slice (some ⟨b, 0, none⟩) N c, .int .i64 (P.length : Nat), .int .i64 (e : Nat), fnV fC] h) fun v h' => v = .tuple #[] ∧ ∃ M', Stb A M' ∧ H h' (aE b rest (P ++ (M' ++ S)) :: F) := by
  refine Ok.le ?_ slices_insertionSortCmpFunc_after_Entry_int_le
  unfold F_slices_insertionSortCmpFunc_after_Entry_int
  match A, h0 with
  | x :: A, _ =>
    rw [wadd1 (by omega)]
    have := in_L1 (c := c) hN (P := P) (S := S) (e := e) A.length [x] [x] A h rfl (.refl (sd_one x)) (by simp at he ⊢; omega) (by simp at hl ⊢; omega) w
    exact this
end
end Go.Lg.Try

namespace Go.Lg.Try
set_option linter.unusedVariables false
set_option linter.unusedSimpArgs false
open Go Go.Proofs
section
variable {b c N : Nat} {rest : List Value} {F : List Asr} {h : AH}
/-- one goes to the right -/
theorem sm_L4' (hN : N < 100000000) {x : En} {R : List En} : ∀ (B D : List En) (h : AH), D.length + 1 + B.length + R.length = N → H h (aE b rest (D ++ (x :: (B ++ R))) :: F) →
    Ok (slices_symMergeCmpFunc_after_Entry_int_L4 (some ⟨b, 0, none⟩) N ((D.length + 1 + B.length : Nat) : Int) c (D.length : Nat) h) fun v h' => v = .tuple #[] ∧ H h' (aE b rest (D ++ (B ++ (x :: R))) :: F) := by
  intro B
  induction B with
  | nil =>
    intro D h hl w
    refine Ok.le ?_ slices_symMergeCmpFunc_after_Entry_int_L4_le
    refine Ok.le ?_ slices_symMergeCmpFunc_after_Entry_int_j19_le
    rw [wsub1 (by omega) (by omega), dec_f (by simp), cond_f]
    refine Ok.le ?_ slices_symMergeCmpFunc_after_Entry_int_j16_le
    exact Ok.some ⟨rfl, w⟩
  | cons y B ih =>
    intro D h hl w
    simp only [List.length_cons] at hl ⊢
    have gx := adj_get (y :: (B ++ R)) x D
    have gy := adj_get1 (B ++ R) y x D
    refine Ok.le ?_ slices_symMergeCmpFunc_after_Entry_int_L4_le
    refine Ok.le ?_ slices_symMergeCmpFunc_after_Entry_int_j19_le
    rw [wsub1 (by omega) (by omega), dec_t (by omega), cond_t]
    refine Ok.le ?_ slices_symMergeCmpFunc_after_Entry_int_j18_le
    rw [wadd1 (by omega)]
    have w0 : H h (aE b rest (D ++ x :: y :: (B ++ R)) :: F) := w
    obtain ⟨x1, x2, x3⟩ := ldE w0 gx
    obtain ⟨y1, y2, y3⟩ := ldE w0 gy
    have b1 : inB ((D.length : Nat) : Int) N = true := inB_t (by omega) (by omega)
    have b2 : inB ((D.length + 1 : Nat) : Int) N = true := inB_t (by omega) (by omega)
    obtain ⟨h4, h5, s4, s5, w5⟩ := swp2 w0
    simp only [Option.bind_some, b1, b2, cond_t, Int.toNat_natCast, x1, x2, x3, y1, y2, y3, s4, s5]
    refine Ok.le ?_ slices_symMergeCmpFunc_after_Entry_int_j17_le
    rw [wadd1 (by omega)]
    have hd : (D ++ [y]).length = D.length + 1 := by simp
    have := ih (D ++ [y]) h5 (by rw [hd]; omega) (by simpa using w5)
    rw [hd, show D.length + 1 + 1 + B.length = D.length + 1 + (B.length + 1) by omega] at this
    refine Ok.mono this ?_
    rintro v h' ⟨hv, q⟩
    exact ⟨hv, by simpa using q⟩
/-- one goes to the left -/
theorem sm_L2' (hN : N < 100000000) {y : En} {D : List En} : ∀ (n : Nat) (A R : List En) (h : AH), A.length = n → D.length + 1 + A.length + R.length = N → H h (aE b rest (D ++ (A ++ (y :: R))) :: F) →
    Ok (slices_symMergeCmpFunc_after_Entry_int_L2 (some ⟨b, 0, none⟩) N (D.length : Nat) c ((D.length + A.length : Nat) : Int) h) fun v h' => v = .tuple #[] ∧ H h' (aE b rest (D ++ (y :: (A ++ R))) :: F) := by
  intro n
  induction n with
  | zero =>
    intro A R h hn hl w
    obtain rfl := List.eq_nil_of_length_eq_zero hn
    refine Ok.le ?_ slices_symMergeCmpFunc_after_Entry_int_L2_le
    refine Ok.le ?_ slices_symMergeCmpFunc_after_Entry_int_j11_le
    rw [dec_f (by simp), cond_f]
    refine Ok.le ?_ slices_symMergeCmpFunc_after_Entry_int_j8_le
    exact Ok.some ⟨rfl, w⟩
  | succ n ih =>
    intro A R h hn hl w
    rcases List.eq_nil_or_concat A with rfl | ⟨A', x, rfl⟩
    · simp at hn
    rw [List.concat_eq_append] at *
    have hlen : (A' ++ [x]).length = A'.length + 1 := by simp
    rw [hlen] at hn hl ⊢
    have e1 : D ++ (A' ++ [x] ++ (y :: R)) = (D ++ A') ++ x :: y :: R := by simp
    rw [e1] at w
    have hq : (D ++ A').length = D.length + A'.length := by simp
    have gx := adj_get (y :: R) x (D ++ A')
    have gy := adj_get1 R y x (D ++ A')
    rw [hq] at gy gx
    refine Ok.le ?_ slices_symMergeCmpFunc_after_Entry_int_L2_le
    refine Ok.le ?_ slices_symMergeCmpFunc_after_Entry_int_j11_le
    rw [dec_t (by omega), cond_t]
    refine Ok.le ?_ slices_symMergeCmpFunc_after_Entry_int_j10_le
    rw [show D.length + (A'.length + 1) = D.length + A'.length + 1 by omega, wsub1 (by omega) (by omega), Nat.add_sub_cancel]
    obtain ⟨x1, x2, x3⟩ := ldE w gx
    obtain ⟨y1, y2, y3⟩ := ldE w gy
    have b1 : inB ((D.length + A'.length + 1 : Nat) : Int) N = true := inB_t (by omega) (by omega)
    have b2 : inB ((D.length + A'.length : Nat) : Int) N = true := inB_t (by omega) (by omega)
    obtain ⟨h4, h5, s4, s5, w5⟩ := swp w
    rw [hq] at s4 s5
    simp only [Option.bind_some, b1, b2, cond_t, Int.toNat_natCast, x1, x2, x3, y1, y2, y3, s4, s5]
    refine Ok.le ?_ slices_symMergeCmpFunc_after_Entry_int_j9_le
    rw [wsub1 (by omega) (by omega), Nat.add_sub_cancel]
    refine Ok.mono (ih A' (x :: R) h5 (by omega) (by simp only [List.length_cons]; omega) (by simpa using w5)) ?_
    rintro v h' ⟨hv, q⟩
    exact ⟨hv, by simpa using q⟩
/-- one ahead: its place is sought, and it goes there -/
theorem sm_L5' (hN : N < 100000000) {x : En} {P B S : List En} (hB : Sd B) (hl : P.length + 1 + B.length + S.length = N) : ∀ (n i j : Nat) (h : AH), j - i = n → i ≤ j → j ≤ B.length → (∀ k z, B[k]? = some z → k < i → z.v < x.v) → (∀ k z, B[k]? = some z → j ≤ k → x.v ≤ z.v) →
    H h (aE b rest (P ++ (x :: (B ++ S))) :: F) →
    Ok (slices_symMergeCmpFunc_after_Entry_int_L5 (some ⟨b, 0, none⟩) N (P.length : Nat) fC c ((P.length + 1 + i : Nat) : Int) ((P.length + 1 + j : Nat) : Int) h) fun v h' => v = .tuple #[] ∧ ∃ M, Stb ([x] ++ B) M ∧ H h' (aE b rest (P ++ (M ++ S)) :: F) := by
  intro n
  induction n using Nat.strongRecOn with
  | _ n ih =>
  intro i j h hn hij hj h1 h2 w
  refine Ok.le ?_ slices_symMergeCmpFunc_after_Entry_int_L5_le
  refine Ok.le ?_ slices_symMergeCmpFunc_after_Entry_int_j22_le
  by_cases c0 : i < j
  · rw [dec_t (by omega), cond_t]
    refine Ok.le ?_ slices_symMergeCmpFunc_after_Entry_int_j21_le
    rw [midE (by omega) (by omega)]
    generalize hq0 : (i + j) / 2 = q
    rw [show (P.length + 1 + i + (P.length + 1 + j)) / 2 = P.length + 1 + q by omega]
    have hq1 : i ≤ q := by omega
    have hq2 : q < j := by omega
    obtain ⟨z, hz⟩ : ∃ z, B[q]? = some z := ⟨_, List.getElem?_eq_getElem (by omega)⟩
    have gx := adj_get (B ++ S) x P
    have gz : (P ++ (x :: (B ++ S)))[P.length + 1 + q]? = some z := by
      rw [List.getElem?_append_right (by omega), show P.length + 1 + q - P.length = q + 1 by omega, List.getElem?_cons_succ, List.getElem?_append_left (by omega)]; exact hz
    obtain ⟨x1, x2, x3⟩ := ldE w gx
    obtain ⟨y1, y2, y3⟩ := ldE w gz
    have b1 : inB ((P.length + 1 + q : Nat) : Int) N = true := inB_t (by omega) (by omega)
    have b2 : inB ((P.length : Nat) : Int) N = true := inB_t (by omega) (by omega)
    simp only [Option.bind_some, b1, b2, cond_t, Int.toNat_natCast, x1, x2, x3, y1, y2, y3, fnQ_sm, hasC]
    refine Ok.bind (cmpN w z x) ?_
    rintro _ h3 ⟨rfl, w3⟩
    simp only [asI_i64, Option.bind_some]
    by_cases c1 : z.v < x.v
    · rw [dec_t (cmpV_lt c1), cond_t, wadd1 (by omega)]
      refine ih (j - (q + 1)) (by omega) (q + 1) j h3 rfl (by omega) hj (fun k y hy hk => ?_) h2 w3
      have := hB.get (show k ≤ q by omega) hy hz; omega
    · rw [dec_f (cmpV_ge (by omega)), cond_f]
      refine ih (q - i) (by omega) i q h3 rfl hq1 (by omega) h1 (fun k y hy hk => ?_) w3
      have := hB.get hk hz hy; omega
  · rw [dec_f (by omega), cond_f]
    obtain rfl : i = j := by omega
    refine Ok.le ?_ slices_symMergeCmpFunc_after_Entry_int_j20_le
    have ht : (B.take i).length = i := by rw [List.length_take]; omega
    have e1 : B ++ S = B.take i ++ (B.drop i ++ S) := by rw [← List.append_assoc, List.take_append_drop]
    rw [e1] at w
    have := sm_L4' (c := c) hN (x := x) (R := B.drop i ++ S) (B.take i) P h (by rw [ht, List.length_append, List.length_drop]; omega) w
    rw [ht] at this
    refine Ok.mono this ?_
    rintro v h' ⟨hv, q⟩
    have hBs : Sd (B.take i ++ B.drop i) := by rw [List.take_append_drop]; exact hB
    refine ⟨hv, B.take i ++ x :: B.drop i, ?_, by simpa using q⟩
    have := stb_oneL hBs (x := x) (fun y hy => ?_) (fun y hy => ?_)
    · rw [List.take_append_drop] at this; exact this
    · obtain ⟨k, hk⟩ := List.getElem?_of_mem hy
      rw [List.getElem?_take] at hk
      split at hk
      · exact h1 k y hk ‹_›
      · cases hk
    · obtain ⟨k, hk⟩ := List.getElem?_of_mem hy
      rw [List.getElem?_drop] at hk
      exact h2 _ y hk (by omega)
/-- one behind -/
theorem sm_L3' (hN : N < 100000000) {y : En} {P A S : List En} (hA : Sd A) (hl : P.length + 1 + A.length + S.length = N) : ∀ (n i j : Nat) (h : AH), j - i = n → i ≤ j → j ≤ A.length → (∀ k z, A[k]? = some z → k < i → z.v ≤ y.v) → (∀ k z, A[k]? = some z → j ≤ k → y.v < z.v) →
    H h (aE b rest (P ++ (A ++ (y :: S))) :: F) →
    Ok (slices_symMergeCmpFunc_after_Entry_int_L3 (some ⟨b, 0, none⟩) ((P.length + A.length : Nat) : Int) N fC c ((P.length + i : Nat) : Int) ((P.length + j : Nat) : Int) h) fun v h' => v = .tuple #[] ∧ ∃ M, Stb (A ++ [y]) M ∧ H h' (aE b rest (P ++ (M ++ S)) :: F) := by
  intro n
  induction n using Nat.strongRecOn with
  | _ n ih =>
  intro i j h hn hij hj h1 h2 w
  refine Ok.le ?_ slices_symMergeCmpFunc_after_Entry_int_L3_le
  refine Ok.le ?_ slices_symMergeCmpFunc_after_Entry_int_j14_le
  by_cases c0 : i < j
  · rw [dec_t (by omega), cond_t]
    refine Ok.le ?_ slices_symMergeCmpFunc_after_Entry_int_j13_le
    rw [midE (by omega) (by omega)]
    generalize hq0 : (i + j) / 2 = q
    rw [show (P.length + i + (P.length + j)) / 2 = P.length + q by omega]
    have hq1 : i ≤ q := by omega
    have hq2 : q < j := by omega
    obtain ⟨z, hz⟩ : ∃ z, A[q]? = some z := ⟨_, List.getElem?_eq_getElem (by omega)⟩
    have gy : (P ++ (A ++ (y :: S)))[P.length + A.length]? = some y := by
      rw [← List.append_assoc, ← List.length_append]; exact adj_get S y (P ++ A)
    have gz : (P ++ (A ++ (y :: S)))[P.length + q]? = some z := by
      rw [List.getElem?_append_right (by omega), Nat.add_sub_cancel_left, List.getElem?_append_left (by omega)]; exact hz
    obtain ⟨x1, x2, x3⟩ := ldE w gy
    obtain ⟨y1, y2, y3⟩ := ldE w gz
    have b1 : inB ((P.length + q : Nat) : Int) N = true := inB_t (by omega) (by omega)
    have b2 : inB ((P.length + A.length : Nat) : Int) N = true := inB_t (by omega) (by omega)
    simp only [Option.bind_some, b1, b2, cond_t, Int.toNat_natCast, x1, x2, x3, y1, y2, y3, fnQ_sm, hasC]
    refine Ok.bind (cmpN w y z) ?_
    rintro _ h3 ⟨rfl, w3⟩
    simp only [asI_i64, Option.bind_some]
    by_cases c1 : y.v < z.v
    · rw [dec_t (cmpV_lt c1), Bool.not_true, cond_f]
      refine ih (q - i) (by omega) i q h3 rfl hq1 (by omega) h1 (fun k x hx hk => ?_) w3
      have := hA.get hk hz hx; omega
    · rw [dec_f (cmpV_ge (by omega)), Bool.not_false, cond_t, wadd1 (by omega)]
      refine ih (j - (q + 1)) (by omega) (q + 1) j h3 rfl (by omega) hj (fun k x hx hk => ?_) h2 w3
      have := hA.get (show k ≤ q by omega) hx hz; omega
  · rw [dec_f (by omega), cond_f]
    obtain rfl : i = j := by omega
    refine Ok.le ?_ slices_symMergeCmpFunc_after_Entry_int_j12_le
    have ht : (A.take i).length = i := by rw [List.length_take]; omega
    have hd : (A.drop i).length = A.length - i := List.length_drop
    have e1 : P ++ (A ++ (y :: S)) = (P ++ A.take i) ++ (A.drop i ++ (y :: S)) := by
      rw [List.append_assoc, ← List.append_assoc (A.take i), List.take_append_drop]
    rw [e1] at w
    have hp : (P ++ A.take i).length = P.length + i := by rw [List.length_append, ht]
    have := sm_L2' (c := c) hN (y := y) (D := P ++ A.take i) _ (A.drop i) S h rfl (by rw [hp, hd]; omega) w
    rw [hp, hd, show P.length + i + (A.length - i) = P.length + A.length by omega] at this
    refine Ok.mono this ?_
    rintro v h' ⟨hv, q⟩
    have hAs : Sd (A.take i ++ A.drop i) := by rw [List.take_append_drop]; exact hA
    refine ⟨hv, A.take i ++ y :: A.drop i, ?_, by simpa using q⟩
    have := stb_oneR hAs (y := y) (fun x hx => ?_) (fun x hx => ?_)
    · rw [List.take_append_drop] at this; exact this
    · obtain ⟨k, hk⟩ := List.getElem?_of_mem hx
      rw [List.getElem?_take] at hk
      split at hk
      · exact h1 k x hk ‹_›
      · cases hk
    · obtain ⟨k, hk⟩ := List.getElem?_of_mem hx
      rw [List.getElem?_drop] at hk
      exact h2 _ x hk (by omega)
/-- the search in the middle -/
theorem sm_L1' {l : List En} (hN : l.length = N) (hl : N < 100000000) {a m e n mid p s0 r0 : Nat} (hn : n < 1000000000) (hp : p < 1000000000) (hrp : r0 ≤ p + 1) (hr0 : r0 ≤ N) (hps : p < N + s0) {Q : Value → AH → Prop}
    (K : ∀ h s, s0 ≤ s → s ≤ r0 → (∀ x y, s0 < s → l[s - 1]? = some x → l[p - (s - 1)]? = some y → x.v ≤ y.v) → (∀ x y, s < r0 → l[s]? = some x → l[p - s]? = some y → y.v < x.v) → H h (aE b rest l :: F) →
      Ok (slices_symMergeCmpFunc_after_Entry_int_j3 (s : Nat) (m : Nat) (n : Nat) (some ⟨b, 0, none⟩) N c fC h (a : Nat) (mid : Nat) (e : Nat)) Q) :
    ∀ (k s r : Nat) (h : AH), r - s = k → s0 ≤ s → s ≤ r → r ≤ r0 → (∀ x y, s0 < s → l[s - 1]? = some x → l[p - (s - 1)]? = some y → x.v ≤ y.v) → (∀ x y, r < r0 → l[r]? = some x → l[p - r]? = some y → y.v < x.v) → H h (aE b rest l :: F) →
      Ok (slices_symMergeCmpFunc_after_Entry_int_L1 (some ⟨b, 0, none⟩) N fC (n : Nat) (mid : Nat) (e : Nat) (m : Nat) (a : Nat) c (s : Nat) (r : Nat) (p : Nat) h) Q := by
  intro k
  induction k using Nat.strongRecOn with
  | _ k ih =>
  intro s r h hk hs hsr hr h1 h2 w
  refine Ok.le ?_ slices_symMergeCmpFunc_after_Entry_int_L1_le
  refine Ok.le ?_ slices_symMergeCmpFunc_after_Entry_int_j5_le
  by_cases c0 : s < r
  · rw [dec_t (by omega), cond_t]
    refine Ok.le ?_ slices_symMergeCmpFunc_after_Entry_int_j4_le
    rw [midE (by omega) (by omega)]
    generalize hq : (s + r) / 2 = q
    have hq1 : s ≤ q := by omega
    have hq2 : q < r := by omega
    rw [wsub (by omega) (by omega)]
    obtain ⟨x, hx⟩ : ∃ x, l[p - q]? = some x := ⟨_, List.getElem?_eq_getElem (by omega)⟩
    obtain ⟨y, hy⟩ : ∃ y, l[q]? = some y := ⟨_, List.getElem?_eq_getElem (by omega)⟩
    obtain ⟨x1, x2, x3⟩ := ldE w hx
    obtain ⟨y1, y2, y3⟩ := ldE w hy
    have b1 : inB ((p - q : Nat) : Int) N = true := inB_t (by omega) (by omega)
    have b2 : inB ((q : Nat) : Int) N = true := inB_t (by omega) (by omega)
    simp only [Option.bind_some, b1, b2, cond_t, Int.toNat_natCast, x1, x2, x3, y1, y2, y3, fnQ_sm, hasC]
    refine Ok.bind (cmpN w x y) ?_
    rintro _ h3 ⟨rfl, w3⟩
    simp only [asI_i64, Option.bind_some]
    by_cases c1 : x.v < y.v
    · rw [dec_t (cmpV_lt c1), Bool.not_true, cond_f]
      refine ih (q - s) (by omega) s q h3 rfl hs hq1 (by omega) h1 (fun x' y' _ e1 e2 => ?_) w3
      rw [hy] at e1; rw [hx] at e2
      injection e1 with e1; injection e2 with e2
      subst e1; subst e2; exact c1
    · rw [dec_f (cmpV_ge (by omega)), Bool.not_false, cond_t, wadd1 (by omega)]
      refine ih (r - (q + 1)) (by omega) (q + 1) r h3 rfl (by omega) (by omega) hr (fun x' y' _ e1 e2 => ?_) h2 w3
      rw [Nat.add_sub_cancel] at e1 e2
      rw [hy] at e1; rw [hx] at e2
      injection e1 with e1; injection e2 with e2
      subst e1; subst e2; omega
  · rw [dec_f (by omega), cond_f]
    obtain rfl : s = r := by omega
    exact K h s hs hr h1 h2 w
/-- two rows change places -/
theorem swr_L1 (hN : N < 100000000) {P Z T : List En} : ∀ (X2 X1 Y1 Y2 : List En) (h : AH), X1.length = Y1.length → X2.length = Y2.length → P.length + X1.length + X2.length + Z.length + Y1.length + Y2.length + T.length = N →
    H h (aE b rest (P ++ (Y1 ++ (X2 ++ (Z ++ (X1 ++ (Y2 ++ T)))))) :: F) →
    Ok (slices_swapRangeCmpFunc_after_Entry_int_L1 ((X1.length + X2.length : Nat) : Int) (some ⟨b, 0, none⟩) ((P.length + (X1.length + X2.length) + Z.length : Nat) : Int) N (P.length : Nat) c (X1.length : Nat) h) fun v h' => v = .tuple #[] ∧ H h' (aE b rest (P ++ (Y1 ++ (Y2 ++ (Z ++ (X1 ++ (X2 ++ T)))))) :: F) := by
  intro X2
  induction X2 with
  | nil =>
    intro X1 Y1 Y2 h h1 h2 hl w
    obtain rfl := List.eq_nil_of_length_eq_zero h2.symm
    refine Ok.le ?_ slices_swapRangeCmpFunc_after_Entry_int_L1_le
    rw [dec_f (by simp), cond_f]
    exact Ok.some ⟨rfl, w⟩
  | cons x X2 ih =>
    intro X1 Y1 Y2 h h1 h2 hl w
    match Y2, h2 with
    | y :: Y2, h2 =>
    simp only [List.length_cons] at h2 hl ⊢
    refine Ok.le ?_ slices_swapRangeCmpFunc_after_Entry_int_L1_le
    rw [dec_t (by omega), cond_t]
    refine Ok.le ?_ slices_swapRangeCmpFunc_after_Entry_int_j2_le
    rw [wadd (by omega) (by omega), wadd (by omega) (by omega)]
    have e1 : P ++ (Y1 ++ (x :: X2 ++ (Z ++ (X1 ++ (y :: Y2 ++ T))))) = (P ++ Y1) ++ x :: (X2 ++ (Z ++ (X1 ++ (y :: Y2 ++ T)))) := by simp
    have e2 : P ++ (Y1 ++ (x :: X2 ++ (Z ++ (X1 ++ (y :: Y2 ++ T))))) = (P ++ (Y1 ++ (x :: X2 ++ (Z ++ X1)))) ++ y :: (Y2 ++ T) := by simp
    have gx : (P ++ (Y1 ++ (x :: X2 ++ (Z ++ (X1 ++ (y :: Y2 ++ T))))))[P.length + X1.length]? = some x := by
      have := adj_get (X2 ++ (Z ++ (X1 ++ (y :: Y2 ++ T)))) x (P ++ Y1)
      rw [← e1, List.length_append, ← h1] at this
      exact this
    have hp2 : (P ++ (Y1 ++ (x :: X2 ++ (Z ++ X1)))).length = P.length + (X1.length + (X2.length + 1)) + Z.length + X1.length := by simp; omega
    have gy : (P ++ (Y1 ++ (x :: X2 ++ (Z ++ (X1 ++ (y :: Y2 ++ T))))))[P.length + (X1.length + (X2.length + 1)) + Z.length + X1.length]? = some y := by
      have := adj_get (Y2 ++ T) y (P ++ (Y1 ++ (x :: X2 ++ (Z ++ X1))))
      rw [← e2, hp2] at this
      exact this
    obtain ⟨x1, x2, x3⟩ := ldE w gx
    obtain ⟨y1, y2, y3⟩ := ldE w gy
    have b1 : inB ((P.length + X1.length : Nat) : Int) N = true := inB_t (by omega) (by omega)
    have b2 : inB ((P.length + (X1.length + (X2.length + 1)) + Z.length + X1.length : Nat) : Int) N = true := inB_t (by omega) (by omega)
    obtain ⟨h4, s4, w4⟩ := stE y w (k := P.length + X1.length) (by rw [e1]; simp; omega)
    have e3 : (P ++ (Y1 ++ (x :: X2 ++ (Z ++ (X1 ++ (y :: Y2 ++ T)))))).set (P.length + X1.length) y = (P ++ (Y1 ++ (y :: X2 ++ (Z ++ X1)))) ++ y :: (Y2 ++ T) := by
      rw [e1, h1, ← List.length_append, List.set_append_right _ _ (Nat.le_refl _), Nat.sub_self]; simp
    rw [e3] at w4
    have hp3 : (P ++ (Y1 ++ (y :: X2 ++ (Z ++ X1)))).length = P.length + (X1.length + (X2.length + 1)) + Z.length + X1.length := by simp; omega
    obtain ⟨h5, s5, w5⟩ := stE x w4 (k := P.length + (X1.length + (X2.length + 1)) + Z.length + X1.length) (by rw [List.length_append, hp3]; simp)
    have e4 : ((P ++ (Y1 ++ (y :: X2 ++ (Z ++ X1)))) ++ y :: (Y2 ++ T)).set (P.length + (X1.length + (X2.length + 1)) + Z.length + X1.length) x = P ++ (Y1 ++ [y] ++ (X2 ++ (Z ++ (X1 ++ [x] ++ (Y2 ++ T))))) := by
      rw [← hp3, List.set_append_right _ _ (Nat.le_refl _), Nat.sub_self]; simp
    rw [e4] at w5
    simp only [Option.bind_some, b1, b2, cond_t, Int.toNat_natCast, x1, x2, x3, y1, y2, y3, s4, s5]
    refine Ok.le ?_ slices_swapRangeCmpFunc_after_Entry_int_j1_le
    rw [wadd1 (by omega)]
    have hx1 : (X1 ++ [x]).length = X1.length + 1 := by simp
    have := ih (X1 ++ [x]) (Y1 ++ [y]) Y2 h5 (by simp; omega) (by omega) (by simp; omega) w5
    rw [hx1, show X1.length + 1 + X2.length = X1.length + (X2.length + 1) by omega] at this
    refine Ok.mono this ?_
    rintro v h' ⟨hv, q⟩
    exact ⟨hv, by simpa using q⟩
theorem swr_ok (hN : N < 100000000) {P X Z Y T : List En} {p q n : Nat} (hX : X.length = n) (hY : Y.length = n) (hp : p = P.length) (hq : q = P.length + n + Z.length) (hl : P.length + n + Z.length + n + T.length = N) (w : H h (aE b rest (P ++ (X ++ (Z ++ (Y ++ T)))) :: F)) :
    Ok (C k_slices_swapRangeCmpFunc_after_Entry_int [.slice (some ⟨b, 0, none⟩) N c, .int .i64 (p : Nat), .int .i64 (q : Nat), .int .i64 (n : Nat), fnV fC] h) fun v h' => v = .tuple #[] ∧ H h' (aE b rest (P ++ (Y ++ (Z ++ (X ++ T)))) :: F) := by
  refine Ok.le ?_ slices_swapRangeCmpFunc_after_Entry_int_le
  unfold F_slices_swapRangeCmpFunc_after_Entry_int
  subst hp; subst hq
  have := swr_L1 (c := c) hN (P := P) (Z := Z) (T := T) X [] [] Y h rfl (by omega) (by simp; omega) w
  simp only [List.length_nil, Nat.zero_add, hX] at this
  exact this
/-- two rows that lie side by side change places -/
theorem rot_L1 (hN : N < 100000000) : ∀ (n : Nat) (P X Y T : List En) (h : AH), X.length + Y.length = n → 0 < X.length → 0 < Y.length → P.length + X.length + Y.length + T.length = N → H h (aE b rest (P ++ (X ++ (Y ++ T))) :: F) →
    Ok (slices_rotateCmpFunc_after_Entry_int_L1 (some ⟨b, 0, none⟩) N c ((P.length + X.length : Nat) : Int) fC (X.length : Nat) (Y.length : Nat) h) fun v h' => v = .tuple #[] ∧ H h' (aE b rest (P ++ (Y ++ (X ++ T))) :: F) := by
  intro n
  induction n using Nat.strongRecOn with
  | _ n ih =>
  intro P X Y T h hn hX hY hl w
  refine Ok.le ?_ slices_rotateCmpFunc_after_Entry_int_L1_le
  by_cases c0 : X.length = Y.length
  · rw [dec_t (by omega), Bool.not_true, cond_f]
    refine Ok.le ?_ slices_rotateCmpFunc_after_Entry_int_j1_le
    rw [wsub (by omega) (by omega)]
    refine Ok.bind (swr_ok hN (P := P) (X := X) (Z := []) (Y := Y) (T := T) (n := X.length) rfl c0.symm (by omega) (by simp) (by simp; omega) w) ?_
    rintro _ h2 ⟨rfl, w2⟩
    simp only [asTu_nil, Option.bind_some, List.isEmpty_nil, cond_t]
    exact Ok.some ⟨rfl, w2⟩
  rw [dec_f (by omega), Bool.not_false, cond_t]
  refine Ok.le ?_ slices_rotateCmpFunc_after_Entry_int_j2_le
  by_cases c1 : Y.length < X.length
  · rw [dec_t (by omega), cond_t, wsub (by omega) (by omega)]
    have ht : (X.take Y.length).length = Y.length := by rw [List.length_take]; omega
    have hd : (X.drop Y.length).length = X.length - Y.length := List.length_drop
    have e1 : P ++ (X ++ (Y ++ T)) = P ++ (X.take Y.length ++ (X.drop Y.length ++ (Y ++ T))) := by rw [← List.append_assoc (X.take _), List.take_append_drop]
    rw [e1] at w
    refine Ok.bind (swr_ok hN (P := P) (X := X.take Y.length) (Z := X.drop Y.length) (Y := Y) (T := T) (n := Y.length) ht rfl (by omega) (by rw [hd]; omega) (by rw [hd]; omega) w) ?_
    rintro _ h2 ⟨rfl, w2⟩
    simp only [asTu_nil, Option.bind_some, List.isEmpty_nil, cond_t]
    rw [wsub (by omega) (by omega)]
    have hp : (P ++ Y).length = P.length + Y.length := List.length_append
    have := ih X.length (by omega) (P ++ Y) (X.drop Y.length) (X.take Y.length) T h2 (by rw [hd, ht]; omega) (by rw [hd]; omega) (by rw [ht]; omega) (by rw [hp, hd, ht]; omega) (by rw [List.append_assoc]; exact w2)
    rw [hp, hd, ht, show P.length + Y.length + (X.length - Y.length) = P.length + X.length by omega] at this
    refine Ok.mono this ?_
    rintro v h' ⟨hv, q⟩
    refine ⟨hv, ?_⟩
    rw [← List.append_assoc (X.take _), List.take_append_drop, List.append_assoc] at q
    exact q
  · rw [dec_f (by omega), cond_f, wsub (by omega) (by omega), wadd (by omega) (by omega), wsub (by omega) (by omega)]
    have ht : (Y.take (Y.length - X.length)).length = Y.length - X.length := by rw [List.length_take]; omega
    have hd : (Y.drop (Y.length - X.length)).length = X.length := by rw [List.length_drop]; omega
    have e1 : P ++ (X ++ (Y ++ T)) = P ++ (X ++ (Y.take (Y.length - X.length) ++ (Y.drop (Y.length - X.length) ++ T))) := by rw [← List.append_assoc (Y.take _), List.take_append_drop]
    rw [e1] at w
    refine Ok.bind (swr_ok hN (P := P) (X := X) (Z := Y.take (Y.length - X.length)) (Y := Y.drop (Y.length - X.length)) (T := T) (n := X.length) rfl hd (by omega) (by rw [ht]; omega) (by rw [ht]; omega) w) ?_
    rintro _ h2 ⟨rfl, w2⟩
    simp only [asTu_nil, Option.bind_some, List.isEmpty_nil, cond_t]
    rw [wsub (by omega) (by omega)]
    have := ih Y.length (by omega) P (Y.drop (Y.length - X.length)) (Y.take (Y.length - X.length)) (X ++ T) h2 (by rw [hd, ht]; omega) (by rw [hd]; omega) (by rw [ht]; omega) (by rw [hd, ht, List.length_append]; omega) w2
    rw [hd, ht] at this
    refine Ok.mono this ?_
    rintro v h' ⟨hv, q⟩
    refine ⟨hv, ?_⟩
    rw [← List.append_assoc (Y.take _), List.take_append_drop] at q
    exact q
theorem rot_ok (hN : N < 100000000) {P X Y T : List En} {p q r : Nat} (hp : p = P.length) (hq : q = P.length + X.length) (hr : r = P.length + X.length + Y.length) (hX : 0 < X.length) (hY : 0 < Y.length) (hl : P.length + X.length + Y.length + T.length = N) (w : H h (aE b rest (P ++ (X ++ (Y ++ T))) :: F)) :
    Ok (C k_slices_rotateCmpFunc_after_Entry_int [.slice (some ⟨b, 0, none⟩) N c, .int .i64 (p : Nat), .int .i64 (q : Nat), .int .i64 (r : Nat), fnV fC] h) fun v h' => v = .tuple #[] ∧ H h' (aE b rest (P ++ (Y ++ (X ++ T))) :: F) := by
  refine Ok.le ?_ slices_rotateCmpFunc_after_Entry_int_le
  unfold F_slices_rotateCmpFunc_after_Entry_int
  subst hp; subst hq; subst hr
  rw [wsub (by omega) (by omega), wsub (by omega) (by omega), Nat.add_sub_cancel_left, Nat.add_sub_cancel_left]
  exact rot_L1 hN _ P X Y T h rfl hX hY hl w
end
end Go.Lg.Try

namespace Go.Lg.Try
set_option linter.unusedVariables false
set_option linter.unusedSimpArgs false
open Go Go.Proofs
section
variable {b c N : Nat} {rest : List Value} {F : List Asr} {h : AH}
theorem cut_mem {l : List En} {k : Nat} {P A R : List En} (hk : P.length ≤ k ∧ k < P.length + A.length) : (P ++ (A ++ R))[k]? = A[k - P.length]? := by
  rw [List.getElem?_append_right (by omega), List.getElem?_append_left (by omega)]
theorem sm_ok' (hN : N < 100000000) : ∀ (n : Nat) (P A B S : List En) (h : AH) (m e : Nat), A.length + B.length = n → 0 < A.length → 0 < B.length → Sd A → Sd B → m = P.length + A.length → e = P.length + A.length + B.length → P.length + A.length + B.length + S.length = N →
    H h (aE b rest (P ++ (A ++ (B ++ S))) :: F) →
    Ok (C k_slices_symMergeCmpFunc_after_Entry_int [.slice (some ⟨b, 0, none⟩) N c, .int .i64 (P.length : Nat), .int .i64 (m : Nat), .int .i64 (e : Nat), fnV fC] h) fun v h' => v = .tuple #[] ∧ ∃ M, Stb (A ++ B) M ∧ H h' (aE b rest (P ++ (M ++ S)) :: F) := by
  intro n
  induction n using Nat.strongRecOn with
  | _ n ih =>
  intro P A B S h m e hn hA hB sA sB hm he hl w
  refine Ok.le ?_ slices_symMergeCmpFunc_after_Entry_int_le
  unfold F_slices_symMergeCmpFunc_after_Entry_int
  rw [wsub (by omega) (by omega)]
  by_cases c1 : A.length = 1
  · rw [dec_t (by omega), cond_t]
    match A, c1 with
    | [x], _ =>
      have := sm_L5' (c := c) hN (x := x) (P := P) (B := B) (S := S) sB (by simp at hl; omega) B.length 0 B.length h rfl (by omega) (Nat.le_refl _) (fun k z _ hk => by omega) (fun k z hz hk => by have := (List.getElem?_eq_some_iff.mp hz).1; omega) w
      rw [show m = P.length + 1 + 0 by simpa using hm, show e = P.length + 1 + B.length by simpa using he]
      exact this
  rw [dec_f (by omega), cond_f]
  refine Ok.le ?_ slices_symMergeCmpFunc_after_Entry_int_j15_le
  rw [wsub (by omega) (by omega)]
  by_cases c2 : B.length = 1
  · rw [dec_t (by omega), cond_t]
    match B, c2 with
    | [y], _ =>
      have := sm_L3' (c := c) hN (y := y) (P := P) (A := A) (S := S) sA (by simp at hl; omega) A.length 0 A.length h rfl (by omega) (Nat.le_refl _) (fun k z _ hk => by omega) (fun k z hz hk => by have := (List.getElem?_eq_some_iff.mp hz).1; omega) w
      rw [hm]
      exact this
  rw [dec_f (by omega), cond_f]
  refine Ok.le ?_ slices_symMergeCmpFunc_after_Entry_int_j7_le
  rw [midE (by omega) (by omega)]
  generalize hq : (P.length + e) / 2 = q
  rw [wadd (by omega) (by omega)]
  -- what follows the search
  have fin : ∀ (h : AH) (s : Nat), P.length ≤ s → s ≤ m → m + s ≤ q + m → q + m ≤ e + s → (∀ x y, P.length < s → q + m - s < e → (P ++ (A ++ (B ++ S)))[s - 1]? = some x → (P ++ (A ++ (B ++ S)))[q + m - s]? = some y → x.v ≤ y.v) →
      (∀ x y, s < m → m < q + m - s → (P ++ (A ++ (B ++ S)))[s]? = some x → (P ++ (A ++ (B ++ S)))[q + m - s - 1]? = some y → y.v < x.v) → H h (aE b rest (P ++ (A ++ (B ++ S))) :: F) →
      Ok (slices_symMergeCmpFunc_after_Entry_int_j3 (s : Nat) (m : Nat) ((q + m : Nat) : Int) (some ⟨b, 0, none⟩) N c fC h (P.length : Nat) (q : Nat) (e : Nat)) fun v h' => v = .tuple #[] ∧ ∃ M, Stb (A ++ B) M ∧ H h' (aE b rest (P ++ (M ++ S)) :: F) := by
    intro h s hs1 hs2 hs3 hs4 k1 k2 w
    obtain ⟨A1, A2, rfl, hA1⟩ : ∃ A1 A2, A = A1 ++ A2 ∧ A1.length = s - P.length := ⟨A.take (s - P.length), A.drop (s - P.length), (List.take_append_drop _ _).symm, by rw [List.length_take]; omega⟩
    obtain ⟨B1, B2, rfl, hB1⟩ : ∃ B1 B2, B = B1 ++ B2 ∧ B1.length = q - s := ⟨B.take (q - s), B.drop (q - s), (List.take_append_drop _ _).symm, by rw [List.length_take]; omega⟩
    simp only [List.length_append] at hn hA hB hm he hl c1 c2
    have lo : ∀ x ∈ A1, ∀ y ∈ B2, x.v ≤ y.v := by
      intro x hx y hy
      rcases List.eq_nil_or_concat A1 with e1 | ⟨A1', x', e1⟩
      · rw [e1] at hx; simp at hx
      match B2, hy, hB, k1, he, hl, w, sB, k2 with
      | y' :: B2, hy, hB, k1, he, hl, w, sB, k2 =>
        simp only [List.length_cons] at he hl hB
        rw [List.concat_eq_append] at e1
        have h1 : (P ++ (A1 ++ A2 ++ (B1 ++ y' :: B2 ++ S)))[s - 1]? = some x' := by
          have : P ++ (A1 ++ A2 ++ (B1 ++ y' :: B2 ++ S)) = (P ++ A1') ++ x' :: (A2 ++ (B1 ++ y' :: B2 ++ S)) := by rw [e1]; simp
          rw [this, show s - 1 = (P ++ A1').length by rw [e1] at hA1; simp at hA1 ⊢; omega]
          exact adj_get _ _ _
        have h2 : (P ++ (A1 ++ A2 ++ (B1 ++ y' :: B2 ++ S)))[q + m - s]? = some y' := by
          have : P ++ (A1 ++ A2 ++ (B1 ++ y' :: B2 ++ S)) = (P ++ (A1 ++ A2 ++ B1)) ++ y' :: (B2 ++ S) := by simp
          rw [this, show q + m - s = (P ++ (A1 ++ A2 ++ B1)).length by simp; omega]
          exact adj_get _ _ _
        have h3 := k1 x' y' (by rw [e1] at hA1; simp at hA1; omega) (by omega) h1 h2
        have h4 : x.v ≤ x'.v := by
          rw [e1] at hx sA
          rcases List.mem_append.mp hx with hx | hx
          · exact sA.left.le x hx x' (by simp)
          · obtain rfl : x = x' := by simpa using hx
            omega
        have h5 : y'.v ≤ y.v := by
          rcases List.mem_cons.mp hy with rfl | hy
          · omega
          · exact (List.pairwise_cons.mp sB.right).1 y hy
        omega
    have hi : ∀ y ∈ B1, ∀ x ∈ A2, y.v < x.v := by
      intro y hy x hx
      rcases List.eq_nil_or_concat B1 with e1 | ⟨B1', y', e1⟩
      · rw [e1] at hy; simp at hy
      match A2, hx, hA, k1, hm, he, hl, w, sA, k2 with
      | x' :: A2, hx, hA, k1, hm, he, hl, w, sA, k2 =>
        simp only [List.length_cons] at hm he hl hA
        rw [List.concat_eq_append] at e1
        have h1 : (P ++ (A1 ++ x' :: A2 ++ (B1 ++ B2 ++ S)))[s]? = some x' := by
          have : P ++ (A1 ++ x' :: A2 ++ (B1 ++ B2 ++ S)) = (P ++ A1) ++ x' :: (A2 ++ (B1 ++ B2 ++ S)) := by simp
          rw [this, show s = (P ++ A1).length by simp; omega]
          exact adj_get _ _ _
        have h2 : (P ++ (A1 ++ x' :: A2 ++ (B1 ++ B2 ++ S)))[q + m - s - 1]? = some y' := by
          have : P ++ (A1 ++ x' :: A2 ++ (B1 ++ B2 ++ S)) = (P ++ (A1 ++ x' :: A2 ++ B1')) ++ y' :: (B2 ++ S) := by rw [e1]; simp
          rw [this, show q + m - s - 1 = (P ++ (A1 ++ x' :: A2 ++ B1')).length by rw [e1] at hB1; simp at hB1 ⊢; omega]
          exact adj_get _ _ _
        have h3 := k2 x' y' (by omega) (by rw [e1] at hB1; simp at hB1; omega) h1 h2
        have h4 : y.v ≤ y'.v := by
          rw [e1] at hy sB
          rcases List.mem_append.mp hy with hy | hy
          · exact sB.left.le y hy y' (by simp)
          · obtain rfl : y = y' := by simpa using hy
            omega
        have h5 : x'.v ≤ x.v := by
          rcases List.mem_cons.mp hx with rfl | hx
          · omega
          · exact (List.pairwise_cons.mp sA.right).1 x hx
        omega
    refine Ok.le ?_ slices_symMergeCmpFunc_after_Entry_int_j3_le
    rw [wsub (by omega) (by omega)]
    -- behind the turn
    have J2 : ∀ h, H h (aE b rest (P ++ (A1 ++ (B1 ++ (A2 ++ (B2 ++ S))))) :: F) → Ok (slices_symMergeCmpFunc_after_Entry_int_j2 (P.length : Nat) (s : Nat) (q : Nat) (some ⟨b, 0, none⟩) N c fC (e : Nat) ((q + m - s : Nat) : Int) h) fun v h' => v = .tuple #[] ∧ ∃ M, Stb ((A1 ++ A2) ++ (B1 ++ B2)) M ∧ H h' (aE b rest (P ++ (M ++ S)) :: F) := by
      intro h w
      have J1 : ∀ h M1, Stb (A1 ++ B1) M1 → H h (aE b rest ((P ++ M1) ++ (A2 ++ (B2 ++ S))) :: F) → Ok (slices_symMergeCmpFunc_after_Entry_int_j1 (q : Nat) ((q + m - s : Nat) : Int) (e : Nat) (some ⟨b, 0, none⟩) N c fC h) fun v h' => v = .tuple #[] ∧ ∃ M, Stb ((A1 ++ A2) ++ (B1 ++ B2)) M ∧ H h' (aE b rest (P ++ (M ++ S)) :: F) := by
        intro h M1 t1 w
        have hM1 : M1.length = A1.length + B1.length := by rw [t1.perm, List.length_append]
        have hpm : (P ++ M1).length = q := by rw [List.length_append]; omega
        have done : ∀ {h' : AH} {M2 : List En}, Stb (A2 ++ B2) M2 → H h' (aE b rest ((P ++ M1) ++ (M2 ++ S)) :: F) → ∃ M, Stb ((A1 ++ A2) ++ (B1 ++ B2)) M ∧ H h' (aE b rest (P ++ (M ++ S)) :: F) := fun {h' M2} t2 w2 =>
          ⟨M1 ++ M2, stb_split sA sB lo hi t1 t2, by simpa using w2⟩
        refine Ok.le ?_ slices_symMergeCmpFunc_after_Entry_int_j1_le
        by_cases d1 : q < q + m - s
        · rw [dec_t (by omega), cond_t]
          by_cases d2 : q + m - s < e
          · rw [dec_t (by omega), cond_t]
            have := ih (A2.length + B2.length) (by omega) (P ++ M1) A2 B2 S h (q + m - s) e rfl (by omega) (by omega) sA.right sB.right (by omega) (by omega) (by omega) w
            rw [hpm] at this
            refine Ok.bind this ?_
            rintro _ h2 ⟨rfl, M2, t2, w2⟩
            simp only [asTu_nil, Option.bind_some, List.isEmpty_nil, cond_t]
            exact Ok.some ⟨rfl, done t2 w2⟩
          · rw [dec_f (by omega), cond_f]
            obtain rfl : B2 = [] := List.eq_nil_of_length_eq_zero (by omega)
            exact Ok.some ⟨rfl, done (stb_nilR A2 sA.right) w⟩
        · rw [dec_f (by omega), cond_f]
          obtain rfl : A2 = [] := List.eq_nil_of_length_eq_zero (by omega)
          exact Ok.some ⟨rfl, done (stb_nilL B2 sB.right) w⟩
      refine Ok.le ?_ slices_symMergeCmpFunc_after_Entry_int_j2_le
      by_cases d1 : P.length < s
      · rw [dec_t (by omega), cond_t]
        by_cases d2 : s < q
        · rw [dec_t (by omega), cond_t]
          have := ih (A1.length + B1.length) (by omega) P A1 B1 (A2 ++ (B2 ++ S)) h s q rfl (by omega) (by omega) sA.left sB.left (by omega) (by omega) (by simp; omega) w
          refine Ok.bind this ?_
          rintro _ h2 ⟨rfl, M1, t1, w2⟩
          simp only [asTu_nil, Option.bind_some, List.isEmpty_nil, cond_t]
          exact J1 h2 M1 t1 (by simpa using w2)
        · rw [dec_f (by omega), cond_f]
          obtain rfl : B1 = [] := List.eq_nil_of_length_eq_zero (by omega)
          exact J1 h A1 (stb_nilR A1 sA.left) (by simpa using w)
      · rw [dec_f (by omega), cond_f]
        obtain rfl : A1 = [] := List.eq_nil_of_length_eq_zero (by omega)
        exact J1 h B1 (stb_nilL B1 sB.left) (by simpa using w)
    by_cases d1 : s < m
    · rw [dec_t (by omega), cond_t]
      by_cases d2 : m < q + m - s
      · rw [dec_t (by omega), cond_t]
        have w1 : H h (aE b rest ((P ++ A1) ++ (A2 ++ (B1 ++ (B2 ++ S)))) :: F) := by simpa using w
        have := rot_ok (c := c) hN (P := P ++ A1) (X := A2) (Y := B1) (T := B2 ++ S) (p := s) (q := m) (r := q + m - s) (by simp; omega) (by simp; omega) (by simp; omega) (by omega) (by omega) (by simp; omega) w1
        refine Ok.bind this ?_
        rintro _ h2 ⟨rfl, w2⟩
        simp only [asTu_nil, Option.bind_some, List.isEmpty_nil, cond_t]
        exact J2 h2 (by simpa using w2)
      · rw [dec_f (by omega), cond_f]
        obtain rfl : B1 = [] := List.eq_nil_of_length_eq_zero (by omega)
        exact J2 h (by simpa using w)
    · rw [dec_f (by omega), cond_f]
      obtain rfl : A2 = [] := List.eq_nil_of_length_eq_zero (by omega)
      exact J2 h (by simpa using w)
  have hlen : (P ++ (A ++ (B ++ S))).length = N := by simp; omega
  by_cases c3 : q < m
  · rw [dec_t (by omega), cond_t]
    refine Ok.le ?_ slices_symMergeCmpFunc_after_Entry_int_j6_le
    rw [wsub (by omega) (by omega), wsub1 (by omega) (by omega)]
    refine sm_L1' hlen hN (a := P.length) (m := m) (e := e) (n := q + m) (mid := q) (p := q + m - 1) (s0 := q + m - e) (r0 := q) (by omega) (by omega) (by omega) (by omega) (by omega) (fun h s i1 i2 i3 i4 w => ?_) _ (q + m - e) q h rfl (by omega) (by omega) (by omega) (fun x y hc => by omega) (fun x y hc => by omega) w
    refine fin h s (by omega) (by omega) (by omega) (by omega) (fun x y j1 j2 j3 j4 => i3 x y (by omega) j3 ?_) (fun x y j1 j2 j3 j4 => i4 x y (by omega) j3 ?_) w
    · rw [show q + m - 1 - (s - 1) = q + m - s by omega]; exact j4
    · rw [show q + m - 1 - s = q + m - s - 1 by omega]; exact j4
  · rw [dec_f (by omega), cond_f]
    refine Ok.le ?_ slices_symMergeCmpFunc_after_Entry_int_j6_le
    rw [wsub1 (by omega) (by omega)]
    refine sm_L1' hlen hN (a := P.length) (m := m) (e := e) (n := q + m) (mid := q) (p := q + m - 1) (s0 := P.length) (r0 := m) (by omega) (by omega) (by omega) (by omega) (by omega) (fun h s i1 i2 i3 i4 w => ?_) _ P.length m h rfl (by omega) (by omega) (by omega) (fun x y hc => by omega) (fun x y hc => by omega) w
    refine fin h s (by omega) (by omega) (by omega) (by omega) (fun x y j1 j2 j3 j4 => i3 x y (by omega) j3 ?_) (fun x y j1 j2 j3 j4 => i4 x y (by omega) j3 ?_) w
    · rw [show q + m - 1 - (s - 1) = q + m - s by omega]; exact j4
    · rw [show q + m - 1 - s = q + m - s - 1 by omega]; exact j4
/-- blocks in order -/
def BD (z : Nat) (l : List En) : Prop := ∀ k, Sd ((l.drop (k * z)).take z)
theorem BD.nil (z : Nat) : BD z [] := fun k => by simp [sd_nil]
theorem BD.snoc {z q : Nat} {P A : List En} (h : BD z P) (hP : P.length = q * z) (hA : Sd A) (hl : A.length ≤ z) : BD z (P ++ A) := by
  intro k
  rcases Nat.lt_trichotomy k q with c | c | c
  · have : k * z + z ≤ q * z := by have := Nat.mul_le_mul_right z (show k + 1 ≤ q from c); rw [Nat.succ_mul] at this; exact this
    rw [List.drop_append_of_le_length (by omega), List.take_append_of_le_length (by rw [List.length_drop]; omega)]
    exact h k
  · subst c
    rw [← hP, List.drop_left, List.take_of_length_le hl]; exact hA
  · have : q * z + z ≤ k * z := by have := Nat.mul_le_mul_right z (show q + 1 ≤ k from c); rw [Nat.succ_mul] at this; exact this
    rw [List.drop_of_length_le (by rw [List.length_append]; omega)]
    simp [sd_nil]
theorem BD.first {z : Nat} {l : List En} (h : BD z l) : Sd (l.take z) := by have := h 0; simpa using this
theorem BD.tl {z : Nat} {l : List En} (h : BD z l) : BD z (l.drop z) := fun k => by
  have := h (k + 1)
  rw [List.drop_drop]
  rw [Nat.succ_mul, Nat.add_comm] at this
  exact this
theorem BD.all {z : Nat} {l : List En} (h : BD z l) (hl : l.length ≤ z) : Sd l := by have := h.first; rw [List.take_of_length_le hl] at this; exact this
def QS (b : Nat) (rest : List Value) (F : List Asr) (l0 : List En) : Value → AH → Prop := fun v h' => v = .tuple #[] ∧ ∃ M, Stb l0 M ∧ H h' (aE b rest M :: F)
theorem fv_mid {l0 P A M R : List En} (hs : ∀ v, fv v (P ++ (A ++ R)) = fv v l0) (t : ∀ v, fv v M = fv v A) : ∀ v, fv v (P ++ (M ++ R)) = fv v l0 := fun v => by
  rw [← hs v, fv_app, fv_app, fv_app, fv_app, t]
theorem so_L2 (hN : N < 100000000) {l0 : List En} {z : Nat} (hz : 0 < z) (hzl : z < N) (K : ∀ h l, l.length = N → BD (2 * z) l → (∀ v, fv v l = fv v l0) → H h (aE b rest l :: F) → Ok (slices_stableCmpFunc_after_Entry_int_j1 N (some ⟨b, 0, none⟩) N c fC (z : Nat) h) (QS b rest F l0)) :
    ∀ (n q : Nat) (P R : List En) (h : AH), R.length = n → P.length = q * (2 * z) → P.length + R.length = N → BD (2 * z) P → BD z R → (∀ v, fv v (P ++ R) = fv v l0) → H h (aE b rest (P ++ R) :: F) →
    Ok (slices_stableCmpFunc_after_Entry_int_L2 N (some ⟨b, 0, none⟩) N c (z : Nat) fC (P.length : Nat) ((P.length + 2 * z : Nat) : Int) h) (QS b rest F l0) := by
  intro n
  induction n using Nat.strongRecOn with
  | _ n ih =>
  intro q P R h hn hP hl bP bR hs w
  refine Ok.le ?_ slices_stableCmpFunc_after_Entry_int_L2_le
  by_cases c0 : P.length + 2 * z ≤ N
  · rw [dec_t (by omega), cond_t]
    refine Ok.le ?_ slices_stableCmpFunc_after_Entry_int_j3_le
    rw [wadd (by omega) (by omega)]
    have e1 : R = R.take z ++ ((R.drop z).take z ++ (R.drop z).drop z) := by rw [List.take_append_drop, List.take_append_drop]
    have l1 : (R.take z).length = z := by rw [List.length_take]; omega
    have l2 : ((R.drop z).take z).length = z := by rw [List.length_take, List.length_drop]; omega
    have s1 := bR.first
    have s2 := bR.tl.first
    have b3 := bR.tl.tl
    generalize R.take z = A at *
    generalize (R.drop z).take z = B at *
    generalize (R.drop z).drop z = R' at *
    subst e1
    simp only [List.length_append] at hn hl
    refine Ok.bind (sm_ok' hN _ P A B R' h (P.length + z) (P.length + 2 * z) rfl (by omega) (by omega) s1 s2 (by omega) (by omega) (by omega) w) ?_
    rintro _ h2 ⟨rfl, M, t, w2⟩
    have hM : M.length = 2 * z := by rw [t.perm, List.length_append]; omega
    simp only [asTu_nil, Option.bind_some, List.isEmpty_nil, cond_t]
    rw [show IntKind.wrap .i64 (2 * ((z : Nat) : Int)) = ((2 * z : Nat) : Int) by rw [wrap64 (by omega) (by omega)]; omega, wadd (by omega) (by omega)]
    have hpm : (P ++ M).length = P.length + 2 * z := by rw [List.length_append, hM]
    have := ih R'.length (by omega) (q + 1) (P ++ M) R' h2 rfl (by rw [hpm, hP, Nat.add_mul, Nat.one_mul]) (by omega) (bP.snoc hP t.1 (by omega)) b3 (fun v => by
      rw [List.append_assoc]
      refine fv_mid (A := A ++ B) (fun v => ?_) t.2 v
      rw [← hs v, List.append_assoc]) (by rw [List.append_assoc]; exact w2)
    rw [hpm] at this
    exact this
  · rw [dec_f (by omega), cond_f]
    refine Ok.le ?_ slices_stableCmpFunc_after_Entry_int_j2_le
    rw [wadd (by omega) (by omega)]
    by_cases c1 : P.length + z < N
    · rw [dec_t (by omega), cond_t]
      have e1 : R = R.take z ++ R.drop z := (List.take_append_drop _ _).symm
      have l1 : (R.take z).length = z := by rw [List.length_take]; omega
      have l2 : (R.drop z).length = R.length - z := List.length_drop
      have s1 := bR.first
      have s2 := bR.tl.all (by omega)
      generalize R.take z = A at *
      generalize R.drop z = B at *
      subst e1
      simp only [List.length_append] at hn hl l2
      have w1 : H h (aE b rest (P ++ (A ++ (B ++ []))) :: F) := by simpa using w
      refine Ok.bind (sm_ok' hN _ P A B [] h (P.length + z) N rfl (by omega) (by omega) s1 s2 (by omega) (by omega) (by simp; omega) w1) ?_
      rintro _ h2 ⟨rfl, M, t, w2⟩
      have hM : M.length = A.length + B.length := by rw [t.perm, List.length_append]
      simp only [asTu_nil, Option.bind_some, List.isEmpty_nil, cond_t]
      rw [List.append_nil] at w2
      refine K h2 (P ++ M) (by rw [List.length_append]; omega) (bP.snoc hP t.1 (by omega)) (fun v => ?_) w2
      rw [fv_app, t.2, ← fv_app, hs]
    · rw [dec_f (by omega), cond_f]
      exact K h (P ++ R) (by rw [List.length_append]; omega) (bP.snoc hP (bR.all (by omega)) (by omega)) hs w
theorem so_L1 (hN : N < 100000000) {l0 : List En} : ∀ (n z : Nat) (l : List En) (h : AH), N - z = n → 0 < z → z < 300000000 → l.length = N → BD z l → (∀ v, fv v l = fv v l0) → H h (aE b rest l :: F) →
    Ok (slices_stableCmpFunc_after_Entry_int_L1 N (some ⟨b, 0, none⟩) N c fC (z : Nat) h) (QS b rest F l0) := by
  intro n
  induction n using Nat.strongRecOn with
  | _ n ih =>
  intro z l h hn hz hz2 hl bl hs w
  refine Ok.le ?_ slices_stableCmpFunc_after_Entry_int_L1_le
  by_cases c0 : z < N
  · rw [dec_t (by omega), cond_t]
    refine Ok.le ?_ slices_stableCmpFunc_after_Entry_int_j4_le
    rw [show IntKind.wrap .i64 (2 * ((z : Nat) : Int)) = ((0 + 2 * z : Nat) : Int) by rw [wrap64 (by omega) (by omega)]; omega]
    refine so_L2 hN hz c0 (fun h l hl bl hs w => ?_) N 0 [] l h hl (by simp) (by simp [hl]) (BD.nil _) bl hs w
    refine Ok.le ?_ slices_stableCmpFunc_after_Entry_int_j1_le
    rw [show IntKind.wrap .i64 (((z : Nat) : Int) * 2) = ((2 * z : Nat) : Int) by rw [wrap64 (by omega) (by omega)]; omega]
    exact ih (N - 2 * z) (by omega) (2 * z) l h rfl (by omega) (by omega) hl bl hs w
  · rw [dec_f (by omega), cond_f]
    exact Ok.some ⟨rfl, l, ⟨bl.all (by omega), hs⟩, w⟩
theorem so_L3 (hN : N < 100000000) {l0 : List En} : ∀ (n q : Nat) (P R : List En) (h : AH), R.length = n → P.length = q * 20 → P.length + R.length = N → BD 20 P → (∀ v, fv v (P ++ R) = fv v l0) → H h (aE b rest (P ++ R) :: F) →
    Ok (slices_stableCmpFunc_after_Entry_int_L3 N (some ⟨b, 0, none⟩) N c fC (P.length : Nat) ((P.length + 20 : Nat) : Int) h) (QS b rest F l0) := by
  intro n
  induction n using Nat.strongRecOn with
  | _ n ih =>
  intro q P R h hn hP hl bP hs w
  refine Ok.le ?_ slices_stableCmpFunc_after_Entry_int_L3_le
  by_cases c0 : P.length + 20 ≤ N
  · rw [dec_t (by omega), cond_t]
    refine Ok.le ?_ slices_stableCmpFunc_after_Entry_int_j6_le
    have e1 : R = R.take 20 ++ R.drop 20 := (List.take_append_drop _ _).symm
    have l1 : (R.take 20).length = 20 := by rw [List.length_take]; omega
    generalize R.take 20 = A at *
    generalize R.drop 20 = R' at *
    subst e1
    simp only [List.length_append] at hn hl
    refine Ok.bind (in_ok hN (P := P) (A := A) (S := R') (e := P.length + 20) (by omega) (by omega) (by omega) w) ?_
    rintro _ h2 ⟨rfl, M, t, w2⟩
    have hM : M.length = 20 := by rw [t.perm]; exact l1
    simp only [asTu_nil, Option.bind_some, List.isEmpty_nil, cond_t]
    rw [show IntKind.wrap .i64 (((P.length + 20 : Nat) : Int) + 20) = ((P.length + 20 + 20 : Nat) : Int) by rw [wrap64 (by omega) (by omega)]; omega]
    have hpm : (P ++ M).length = P.length + 20 := by rw [List.length_append, hM]
    have := ih R'.length (by omega) (q + 1) (P ++ M) R' h2 rfl (by rw [hpm, hP, Nat.add_mul, Nat.one_mul]) (by omega) (bP.snoc hP t.1 (by omega)) (fun v => by
      rw [List.append_assoc]
      exact fv_mid hs t.2 v) (by rw [List.append_assoc]; exact w2)
    rw [hpm] at this
    exact this
  · rw [dec_f (by omega), cond_f]
    refine Ok.le ?_ slices_stableCmpFunc_after_Entry_int_j5_le
    have last : Ok (C k_slices_insertionSortCmpFunc_after_Entry_int [.slice (some ⟨b, 0, none⟩) N c, .int .i64 (P.length : Nat), .int .i64 (N : Nat), fnV fC] h) fun v h' => v = .tuple #[] ∧ ∃ M, Stb R M ∧ H h' (aE b rest (P ++ (M ++ [])) :: F) := by
      by_cases c1 : 0 < R.length
      · exact in_ok hN (P := P) (A := R) (S := []) (e := N) (by omega) (by simp; omega) c1 (by simpa using w)
      · obtain rfl : R = [] := List.eq_nil_of_length_eq_zero (by omega)
        refine Ok.le ?_ slices_insertionSortCmpFunc_after_Entry_int_le
        unfold F_slices_insertionSortCmpFunc_after_Entry_int
        rw [wadd1 (by omega)]
        refine Ok.le ?_ slices_insertionSortCmpFunc_after_Entry_int_L1_le
        simp only [List.length_nil] at hl
        rw [dec_f (by omega), cond_f]
        exact Ok.some ⟨rfl, [], .refl sd_nil, w⟩
    refine Ok.bind last ?_
    rintro _ h2 ⟨rfl, M, t, w2⟩
    have hM : M.length = R.length := t.perm
    simp only [asTu_nil, Option.bind_some, List.isEmpty_nil, cond_t]
    rw [List.append_nil] at w2
    exact so_L1 hN _ 20 (P ++ M) h2 rfl (by decide) (by decide) (by rw [List.length_append]; omega) (bP.snoc hP t.1 (by omega)) (fun v => by rw [fv_app, t.2, ← fv_app, hs]) w2
end
/-- SortStableFunc -/
theorem sortU {l : List En} {a : Option Addr} {c n : Nat} {h : AH} {F : List Asr} (hl : l.length < 100000000) (hn : n = l.length) (w : H h (aOs a n c (l.flatMap encN) :: F)) :
    Ok (C k_slices_SortStableFunc_after_Entry_int_after_Entry_int [.slice a n c, fnV fC] h) fun v h' => v = .tuple #[] ∧ ∃ M, Stb l M ∧ H h' (aOs a n c (M.flatMap encN) :: F) := by
  have ho : OwS h 3 a n c (l.flatMap encN) := H.of_up w
  cases l with
  | nil =>
    refine Ok.mono (sortS (l := []) (by simp) (fun i j x y _ h => by simp at h) hn w) ?_
    rintro v h' ⟨hv, q⟩
    exact ⟨hv, [], .refl sd_nil, q⟩
  | cons x l =>
    refine Ok.le ?_ slices_SortStableFunc_after_Entry_int_after_Entry_int_le
    unfold F_slices_SortStableFunc_after_Entry_int_after_Entry_int
    generalize hL : x :: l = L at *
    generalize hcs : L.flatMap encN = cs at ho w
    cases ho with
    | nil => subst hL; simp at hn
    | @mk b _ m _ rest hb1 hl1 hr1 hn1 =>
      subst hn
      have w2 : H h (Pt b (.cells (cs ++ rest) true false 3) :: F) := up_pt w hb1
      rw [← hcs] at w2
      have key : Ok (C k_slices_stableCmpFunc_after_Entry_int [.slice (some ⟨b, 0, none⟩) L.length opn, .int .i64 ((L.length : Nat) : Int), fnV fC] h) (QS b rest F L) := by
        refine Ok.le ?_ slices_stableCmpFunc_after_Entry_int_le
        unfold F_slices_stableCmpFunc_after_Entry_int
        exact so_L3 hl L.length 0 [] L h rfl (by simp) (by simp) (BD.nil _) (fun _ => rfl) w2
      refine Ok.bind key ?_
      rintro _ h2 ⟨rfl, M, t, w3⟩
      simp only [asTu_nil, Option.bind_some, List.isEmpty_nil, cond_t]
      refine Ok.some ⟨rfl, M, t, ?_⟩
      have := t.perm
      rw [← this]
      exact pt_os w3 (by rw [flat_len encN_len]) hr1
end Go.Lg.Try
