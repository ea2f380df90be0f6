/- Sets: taking back, in plain Lean. -/
import Derived.Test.YtciiigaagggefaaPsetsPlay
namespace Go.Lg.Try
set_option linter.unusedVariables false
set_option linter.unusedSimpArgs false
open Go Go.Proofs
theorem aput_back {l : List (Int × Int)} {i x : Int} (v : Int) (h : alook l i = some x) : aputL (aputL l i v) i x = l := by
  induction l with
  | nil => simp [alook] at h
  | cons p l ih =>
    unfold alook at h
    by_cases c : p.1 = i
    · rw [if_pos c] at h
      obtain rfl := Option.some.inj h
      subst c
      simp [aputL]
    · rw [if_neg c] at h
      have := ih h
      simp [aputL, c, this]
theorem adel_back {l : List (Int × Int)} {i : Int} (v : Int) (h : alook l i = none) : adelL (aputL l i v) i = l := by
  induction l with
  | nil => simp [aputL, adelL]
  | cons p l ih =>
    unfold alook at h
    by_cases c : p.1 = i
    · rw [if_pos c] at h; simp at h
    · rw [if_neg c] at h
      have := ih h
      simp [aputL, adelL, c, this]
theorem back_put (l : List (Int × Int)) (i v : Int) : back (aputL l i v) (oldOf l i) = l := by
  unfold back oldOf
  cases h : alook l i with
  | none => simp only [aok, Option.isSome_none, Bool.not_false, if_true]; exact adel_back v h
  | some x => simp only [aok, Option.isSome_some, Bool.not_true, Bool.false_eq_true, if_false]; exact aput_back v h
theorem backs_append (w : List (Int × Int)) (a b : List Old) : backs w (a ++ b) = backs (backs w b) a := by
  unfold backs; rw [List.reverse_append, List.foldl_append]
theorem backs_one (w : List (Int × Int)) (o : Old) : backs w [o] = back w o := rfl
/-- the marks from one on, and what taking back to it leaves -/
structure Jv (σ : St) (D n : Nat) (w0 : List (Int × Int)) : Prop where
  dl : D < σ.marks.length
  at_ : σ.marks[D]? = some (n : Int)
  ge : ∀ j x, D ≤ j → σ.marks[j]? = some x → (n : Int) ≤ x ∧ x ≤ (σ.past.length : Nat)
  bk : backs σ.writes (σ.past.drop n) = w0
namespace Jv
variable {σ : St} {D n : Nat} {w0 : List (Int × Int)}
theorem pn (j : Jv σ D n w0) : n ≤ σ.past.length := by have := (j.ge D n (Nat.le_refl _) j.at_).2; omega
theorem read (j : Jv σ D n w0) (i v : Int) : Jv (σ.read i v).2 D n w0 := ⟨j.dl, j.at_, j.ge, j.bk⟩
theorem write (j : Jv σ D n w0) (i v : Int) : Jv (σ.write i v).2 D n w0 := by
  have hn := j.pn
  unfold St.write
  split
  · exact j
  · split
    · exact j
    · have hm : ¬σ.marks.length = 0 := by have := j.dl; omega
      simp only [hm, if_false]
      refine ⟨j.dl, j.at_, fun k x hk hx => ?_, ?_⟩
      · have := j.ge k x hk hx
        simp only [List.length_append, List.length_singleton]
        omega
      · show backs (aputL σ.writes i v) ((σ.past ++ [oldOf σ.writes i]).drop n) = w0
        rw [List.drop_append_of_le_length hn, backs_append, backs_one, back_put]
        exact j.bk
theorem mark (j : Jv σ D n w0) : Jv σ.mark.2 D n w0 := by
  have hn := j.pn
  unfold St.mark
  split
  · exact j
  · have hd := j.dl
    refine ⟨by simp only [List.length_append]; omega, ?_, fun k x hk hx => ?_, j.bk⟩
    · show (σ.marks ++ [_])[D]? = _
      rw [List.getElem?_append_left hd]; exact j.at_
    · simp only at hx ⊢
      by_cases c : k < σ.marks.length
      · rw [List.getElem?_append_left c] at hx; exact j.ge k x hk hx
      · rw [List.getElem?_append_right (by omega)] at hx
        have hk0 : k - σ.marks.length = 0 := by
          by_cases e : k - σ.marks.length = 0
          · exact e
          · rw [List.getElem?_eq_none (by simp; omega)] at hx; simp at hx
        rw [hk0] at hx
        obtain rfl : ((σ.past.length : Nat) : Int) = x := by simpa using hx
        omega
theorem keep (j : Jv σ D n w0) (h : D + 1 < σ.marks.length) : Jv σ.keep.2 D n w0 := by
  unfold St.keep St.last
  have h0 : ¬σ.marks.length = 0 := by omega
  have h1 : ¬σ.marks.length = 1 := by omega
  simp only [h0, h1, if_false]
  refine ⟨by simp only [List.length_take]; omega, ?_, fun k x hk hx => ?_, j.bk⟩
  · show (σ.marks.take _)[D]? = _
    rw [List.getElem?_take_of_lt (by omega)]; exact j.at_
  · simp only at hx
    have hk1 : k < σ.marks.length - 1 := by have := (List.getElem?_eq_some_iff.mp hx).1; rw [List.length_take] at this; omega
    rw [List.getElem?_take_of_lt hk1] at hx
    exact j.ge k x hk hx
/-- the marks between are in order -/
theorem undo (j : Jv σ D n w0) (h : D + 1 < σ.marks.length) (hs : ∀ (k m : Nat) (x y : Int), k ≤ m → σ.marks[k]? = some x → σ.marks[m]? = some y → x ≤ y) : Jv σ.undo.2 D n w0 := by
  unfold St.undo St.last
  have h0 : ¬σ.marks.length = 0 := by omega
  simp only [h0, if_false]
  obtain ⟨x, hx⟩ : ∃ x, σ.marks[σ.marks.length - 1]? = some x := ⟨_, List.getElem?_eq_getElem (by omega)⟩
  have hr := j.ge _ x (by omega) hx
  rw [hx, Option.getD_some]
  obtain ⟨k, rfl⟩ : ∃ k : Nat, x = k := ⟨x.toNat, by omega⟩
  rw [Int.toNat_natCast]
  refine ⟨by simp only [List.length_take]; omega, ?_, fun m y hm hy => ?_, ?_⟩
  · show (σ.marks.take _)[D]? = _
    rw [List.getElem?_take_of_lt (by omega)]; exact j.at_
  · simp only at hy ⊢
    have hk1 : m < σ.marks.length - 1 := by have := (List.getElem?_eq_some_iff.mp hy).1; rw [List.length_take] at this; omega
    rw [List.getElem?_take_of_lt hk1] at hy
    have h3 := j.ge m y hm hy
    have h4 := hs m (σ.marks.length - 1) y k (by omega) hy hx
    rw [List.length_take]
    omega
  · show backs (backs σ.writes (σ.past.drop k)) ((σ.past.take k).drop n) = w0
    rw [← backs_append, ← j.bk]
    congr 1
    have : σ.past.drop n = (σ.past.take k ++ σ.past.drop k).drop n := by rw [List.take_append_drop]
    rw [this, List.drop_append_of_le_length (by rw [List.length_take]; omega)]
end Jv
/-- the marks are in order -/
structure Mo (σ : St) : Prop where
  s : ∀ (k m : Nat) (x y : Int), k ≤ m → σ.marks[k]? = some x → σ.marks[m]? = some y → x ≤ y
  b : ∀ x ∈ σ.marks, x ≤ (σ.past.length : Nat)
namespace Mo
variable {σ : St}
theorem new : Mo {} := ⟨fun _ _ _ _ _ h => by simp at h, fun _ h => by simp at h⟩
theorem read (o : Mo σ) (i v : Int) : Mo (σ.read i v).2 := ⟨o.s, o.b⟩
theorem write (o : Mo σ) (i v : Int) : Mo (σ.write i v).2 := by
  unfold St.write
  split
  · exact o
  · split
    · exact o
    · refine ⟨o.s, fun x hx => ?_⟩
      have := o.b x hx
      simp only
      split
      · exact this
      · rw [List.length_append, List.length_singleton]; omega
theorem mark (o : Mo σ) : Mo σ.mark.2 := by
  unfold St.mark
  split
  · exact o
  · have last : ∀ (m : Nat) (y : Int), (σ.marks ++ [((σ.past.length : Nat) : Int)])[m]? = some y → m < σ.marks.length ∧ σ.marks[m]? = some y ∨ m = σ.marks.length ∧ y = (σ.past.length : Nat) := by
      intro m y hy
      by_cases c : m < σ.marks.length
      · rw [List.getElem?_append_left c] at hy; exact .inl ⟨c, hy⟩
      · rw [List.getElem?_append_right (by omega)] at hy
        have hk0 : m - σ.marks.length = 0 := by
          by_cases e : m - σ.marks.length = 0
          · exact e
          · rw [List.getElem?_eq_none (by simp; omega)] at hy; simp at hy
        rw [hk0] at hy
        exact .inr ⟨by omega, by simpa using hy.symm⟩
    refine ⟨fun k m x y hkm hx hy => ?_, fun x hx => ?_⟩
    · rcases last m y hy with ⟨h1, h2⟩ | ⟨h1, h2⟩
      · rcases last k x hx with ⟨g1, g2⟩ | ⟨g1, g2⟩
        · exact o.s k m x y hkm g2 h2
        · omega
      · rcases last k x hx with ⟨g1, g2⟩ | ⟨g1, g2⟩
        · rw [h2]; exact o.b x (List.mem_of_getElem? g2)
        · omega
    · rcases List.mem_append.mp hx with hx | hx
      · exact o.b x hx
      · obtain rfl : x = ((σ.past.length : Nat) : Int) := by simpa using hx
        exact Int.le_refl _
theorem sub (o : Mo σ) {k : Nat} {P : List Old} {w : List (Int × Int)} (h : ∀ x ∈ σ.marks.take k, x ≤ (P.length : Nat)) : Mo { σ with writes := w, past := P, marks := σ.marks.take k } := by
  refine ⟨fun a b x y hab hx hy => ?_, h⟩
  simp only at hx hy
  have h1 : a < k := by have := (List.getElem?_eq_some_iff.mp hx).1; rw [List.length_take] at this; omega
  have h2 : b < k := by have := (List.getElem?_eq_some_iff.mp hy).1; rw [List.length_take] at this; omega
  rw [List.getElem?_take_of_lt h1] at hx
  rw [List.getElem?_take_of_lt h2] at hy
  exact o.s a b x y hab hx hy
theorem keep (o : Mo σ) : Mo σ.keep.2 := by
  unfold St.keep St.last
  split
  · exact o
  · rename_i c
    simp only [c, if_false]
    refine o.sub (fun x hx => ?_)
    split
    · rename_i d
      rw [d] at hx; simp at hx
    · exact o.b x (List.mem_of_mem_take hx)
theorem undo (o : Mo σ) (h0 : ∀ x ∈ σ.marks, 0 ≤ x) : Mo σ.undo.2 := by
  unfold St.undo St.last
  split
  · exact o
  · rename_i c
    simp only [c, if_false]
    obtain ⟨y, hy⟩ : ∃ y, σ.marks[σ.marks.length - 1]? = some y := ⟨_, List.getElem?_eq_getElem (by omega)⟩
    refine o.sub (fun x hx => ?_)
    rw [hy, Option.getD_some, List.length_take]
    have hyb := o.b y (List.mem_of_getElem? hy)
    have hy0 := h0 y (List.mem_of_getElem? hy)
    obtain ⟨k, hk⟩ := List.getElem?_of_mem (List.mem_of_mem_take hx)
    have hkl := (List.getElem?_eq_some_iff.mp hk).1
    have := o.s k (σ.marks.length - 1) x y (by omega) hk hy
    omega
theorem step (o : Mo σ) {N : Nat} (w : Wf σ N) (b : Bool) (x : SOp) : Mo (pstep b σ x) := by
  unfold pstep
  split
  · exact o.read _ _
  · split
    · exact o.write _ _
    · split
      · split
        · exact o.mark
        · exact o
      · split
        · split
          · exact o.keep
          · exact o
        · split
          · split
            · exact o.undo w.m0
            · exact o
          · exact o
theorem plays (b : Bool) : ∀ (l : List SOp) {σ : St} {N : Nat}, Mo σ → Wf σ N → Mo (plays b σ l)
  | [], _, _, o, _ => o
  | x :: l, _, _, o, w => Mo.plays b l (o.step w b x) (w.step b x)
end Mo
/-- a mark's own beginning -/
theorem Jv.start {σ : St} (o : Mo σ) (h8 : ¬σ.marks.length = 8) : Jv σ.mark.2 σ.marks.length σ.past.length σ.writes := by
  unfold St.mark
  rw [if_neg h8]
  refine ⟨by simp only [List.length_append, List.length_singleton]; omega, ?_, fun k x hk hx => ?_, ?_⟩
  · show (σ.marks ++ [_])[σ.marks.length]? = _
    rw [List.getElem?_append_right (Nat.le_refl _)]; simp
  · simp only at hx ⊢
    rw [List.getElem?_append_right hk] at hx
    have hk0 : k - σ.marks.length = 0 := by
      by_cases e : k - σ.marks.length = 0
      · exact e
      · rw [List.getElem?_eq_none (by simp; omega)] at hx; simp at hx
    rw [hk0] at hx
    obtain rfl : ((σ.past.length : Nat) : Int) = x := by simpa using hx
    omega
  · show backs σ.writes (σ.past.drop σ.past.length) = σ.writes
    rw [List.drop_of_length_le (Nat.le_refl _)]; rfl
end Go.Lg.Try
