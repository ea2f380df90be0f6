/- Sets[int]: what Write, Mark, Keep, Undo, New come to. -/
import Derived.Test.YtciiigaagggefaaPsets2
namespace Go.Lg.Try
set_option linter.unusedVariables false
set_option linter.unusedSimpArgs false
open Go Go.Proofs
structure St where
  reads : List (Int × Int) := []
  writes : List (Int × Int) := []
  past : List Old := []
  marks : List Int := []
abbrev SQ (h : AH) (s : Nat) (A : SA) (σ : St) : Prop := SR h s A σ.reads σ.writes σ.past σ.marks
def St.read (σ : St) (i v : Int) : Int × St := ((readM σ.reads i v).1, { σ with reads := (readM σ.reads i v).2 })
def oldOf (writes : List (Int × Int)) (i : Int) : Old := ⟨i, aval (alook writes i), !aok (alook writes i)⟩
def St.write (σ : St) (i v : Int) : Int × St :=
  if i < 0 ∨ 1024 ≤ i then (2, σ) else if aok (alook σ.writes i) = false ∧ σ.writes.length = 256 then (3, σ)
  else (0, { σ with writes := aputL σ.writes i v, past := if σ.marks.length = 0 then σ.past else σ.past ++ [oldOf σ.writes i] })
def St.mark (σ : St) : Int × St := if σ.marks.length = 8 then (3, σ) else (0, { σ with marks := σ.marks ++ [((σ.past.length : Nat) : Int)] })
def St.last (σ : St) : Int × Int × St := if σ.marks.length = 0 then (0, 136, σ) else ((σ.marks[σ.marks.length - 1]?).getD 0, 0, { σ with marks := σ.marks.take (σ.marks.length - 1) })
def St.keep (σ : St) : Int × St := if σ.marks.length = 0 then (136, σ) else (0, { σ.last.2.2 with past := if σ.marks.length = 1 then [] else σ.past })
def back (w : List (Int × Int)) (o : Old) : List (Int × Int) := if o.none then adelL w o.i else aputL w o.i o.v
def backs (w : List (Int × Int)) (p : List Old) : List (Int × Int) := p.reverse.foldl back w
def St.undo (σ : St) : Int × St := if σ.marks.length = 0 then (136, σ) else (0, { σ.last.2.2 with writes := backs σ.writes (σ.past.drop σ.last.1.toNat), past := σ.past.take σ.last.1.toNat })
section
variable {h h' : AH} {s : Nat} {A : SA} {σ : St}
abbrev ptr (s : Nat) : Value := .pointer (some ⟨s, 0, none⟩)
theorem set_rd (hs : SQ h s A σ) (i v : Int) : Ok (C k_sets_Sets_int_Read [ptr s, .int .i64 i, .int .i64 v] h) fun x h' => x = .int .i64 (σ.read i v).1 ∧ SQ h' s A (σ.read i v).2 ∧ Mv s A A h h' :=
  Ok.mono (set_read hs i v) fun x h' ⟨e1, e2, e3, e4⟩ => ⟨e1, e2, .one (.inr (.inl rfl)) e3 e4⟩
theorem set_write (hs : SQ h s A σ) (hp : σ.past.length < 1000000) (i v : Int) : Ok (C k_sets_Sets_int_Write [ptr s, .int .i64 i, .int .i64 v] h) fun x h' => x = .int .i64 (σ.write i v).1 ∧ ∃ A', SQ h' s A' (σ.write i v).2 ∧ Mv s A A' h h' := by
  obtain ⟨es, m1, m2, m3⟩ := hs.w.map
  refine Ok.le ?_ sets_Sets_int_Write_le
  simp only [F_sets_Sets_int_Write, set_may hs, Option.bind_some, asI_i64, mayM, St.write]
  by_cases a : i < 0 ∨ 1024 ≤ i
  · rw [if_pos a, if_pos a]
    have z : (!decide ((2 : Int) = 0)) = true := rfl
    rw [z, cond_t]
    exact Ok.some ⟨rfl, A, hs, .refl _ _ _⟩
  · rw [if_neg a, if_neg a]
    have z : (!decide ((0 : Int) = 0)) = false := rfl
    rw [z, cond_f]
    refine Ok.le ?_ sets_Sets_int_Write_j3_le
    simp only [Option.bind_some, hs.c1, m1, look_eq z3 m3, asI_i64]
    have j2 : ¬(aok (alook σ.writes i) = false ∧ σ.writes.length = 256) → Ok (sets_Sets_int_Write_j2 (some ⟨s, 0, none⟩) h i (aval (alook σ.writes i)) v (aok (alook σ.writes i))) fun x h' => x = .int .i64 (if aok (alook σ.writes i) = false ∧ σ.writes.length = 256 then (3, σ) else (0, { σ with writes := aputL σ.writes i v, past := if σ.marks.length = 0 then σ.past else σ.past ++ [oldOf σ.writes i] })).1 ∧ ∃ A', SQ h' s A' (if aok (alook σ.writes i) = false ∧ σ.writes.length = 256 then ((3 : Int), σ) else (0, { σ with writes := aputL σ.writes i v, past := if σ.marks.length = 0 then σ.past else σ.past ++ [oldOf σ.writes i] })).2 ∧ Mv s A A' h h' := by
      intro b
      rw [if_neg b]
      refine Ok.le ?_ sets_Sets_int_Write_j2_le
      simp only [Option.bind_some, hs.c3, hs.c2, hs.mlen]
      by_cases c : σ.marks.length = 0
      · rw [dec_f (by omega), cond_f]
        simp only [c, if_true]
        refine Ok.le ?_ sets_Sets_int_Write_j1_le
        obtain ⟨h1, e1, e2, e3, e4⟩ := hs.setW i v
        simp only [Option.bind_some, hs.c1, e1]
        exact Ok.some ⟨rfl, A, e2, .one (.inr (.inr (.inl rfl))) e3 e4⟩
      · rw [dec_t (by omega), cond_t]
        simp only [c, if_false]
        obtain ⟨a', h2, h3, e1, e2, e3, e4⟩ := hs.pushP (oldOf σ.writes i) hp
        have e1' : appE 3 24 (.slice A.pa A.pn A.pc) (.slice (some ⟨h.n, 0, none⟩) 1 1) (h.push (.cells [.int .i64 i, .int .i64 (aval (alook σ.writes i)), .bool !aok (alook σ.writes i)] false false 3)) = some (.slice a' (A.pn + 1) opn, h2) := e1
        simp only [e1', Option.bind_some, asS_s, e2]
        refine Ok.le ?_ sets_Sets_int_Write_j1_le
        obtain ⟨h4, f1, f2, f3, f4⟩ := e3.setW i v
        simp only [Option.bind_some, e3.c1, f1]
        exact Ok.some ⟨rfl, _, f2, e4.trans (.one (.inr (.inr (.inl rfl))) f3 f4)⟩
    cases hk : aok (alook σ.writes i) with
    | true =>
      rw [Bool.not_true, cond_f]
      rw [hk] at j2
      exact j2 (by simp)
    | false =>
      rw [Bool.not_false, cond_t]
      simp only [Option.bind_some, hs.c1, m1, m2]
      by_cases c : σ.writes.length = 256
      · rw [dec_t (by omega), cond_t, if_pos ⟨trivial, c⟩]
        exact Ok.some ⟨rfl, A, hs, .refl _ _ _⟩
      · rw [dec_f (by omega), cond_f]
        rw [hk] at j2
        have j3 := j2 (by simp [c])
        simp only [true_and] at j3 ⊢
        exact j3
theorem set_mark (hs : SQ h s A σ) (hm : σ.marks.length ≤ 8) : Ok (C k_sets_Sets_int_Mark [ptr s] h) fun x h' => x = .int .i64 σ.mark.1 ∧ ∃ A', SQ h' s A' σ.mark.2 ∧ Mv s A A' h h' := by
  refine Ok.le ?_ sets_Sets_int_Mark_le
  simp only [F_sets_Sets_int_Mark, set_right hs, Option.bind_some, asB_b, Bool.not_true, cond_f, hs.c3, hs.mlen, St.mark]
  by_cases a : σ.marks.length = 8
  · rw [dec_t (by omega), cond_t, if_pos a]
    exact Ok.some ⟨rfl, A, hs, .refl _ _ _⟩
  · rw [dec_f (by omega), cond_f, if_neg a]
    refine Ok.le ?_ sets_Sets_int_Mark_j1_le
    have hml : σ.marks.length < 1000000 := by omega
    obtain ⟨a', h2, h3, e1, e2, e3, e4⟩ := hs.pushM ((σ.past.length : Nat) : Int) hml
    have e1' : appE 1 8 (.slice A.ma A.mn A.mc) (.slice (some ⟨h.n, 0, none⟩) 1 1) (h.push (.cells [.int .i64 ((σ.past.length : Nat) : Int)] false false 1)) = some (.slice a' (A.mn + 1) opn, h2) := e1
    have c3' := (hs.fr (Fr.push [] h (.cells [.int .i64 ((σ.past.length : Nat) : Int)] false false 1))).c3
    have hpl := hs.plen
    simp only [Option.bind_some, hs.c3, hs.c2, hpl, c3', veqO_slice, cond_t, e1', asS_s, e2]
    exact Ok.some ⟨rfl, _, e3, e4⟩
theorem set_last (hs : SQ h s A σ) (hm : σ.marks.length ≤ 8) : Ok (C k_sets_Sets_int_last [ptr s] h) fun x h' => x = .tuple #[.int .i64 σ.last.1, .int .i64 σ.last.2.1] ∧ ∃ A', SQ h' s A' σ.last.2.2 ∧ Mv s A A' h h' ∧ A'.mn = σ.last.2.2.marks.length := by
  refine Ok.le ?_ sets_Sets_int_last_le
  simp only [F_sets_Sets_int_last, set_right hs, Option.bind_some, asB_b, Bool.not_true, cond_f, hs.c3, hs.mlen, St.last]
  by_cases a : σ.marks.length = 0
  · rw [dec_t (by omega), cond_t, if_pos a]
    exact Ok.some ⟨rfl, A, hs, .refl _ _ _, hs.mlen⟩
  · rw [dec_f (by omega), cond_f, if_neg a]
    refine Ok.le ?_ sets_Sets_int_last_j1_le
    have hw : IntKind.wrap .i64 (((σ.marks.length : Nat) : Int) - 1) = ((σ.marks.length - 1 : Nat) : Int) := by rw [wrap64 (by omega) (by omega)]; omega
    obtain ⟨e1, h3, e2, e3, e4, e5⟩ := hs.cutM (k := σ.marks.length - 1) (by omega) rfl
    obtain ⟨x, hx⟩ : ∃ x, σ.marks[σ.marks.length - 1]? = some x := ⟨_, List.getElem?_eq_getElem (by omega)⟩
    have hcx : (σ.marks.flatMap encI)[(σ.marks.length - 1) * 1 + 0]? = some (.int .i64 x) := by rw [flat_get_some encI_len (by decide) hx]; rfl
    obtain ⟨ad, ha, hld⟩ := hs.mo.rd.some (by intro e; rw [e] at hcx; simp at hcx)
    have hl := (hld ((σ.marks.length - 1) * 1 + 0)).1 _ _ hcx
    have hml := hs.mlen
    simp only [Option.bind_some, hs.c3, hml, hw, ha, inB_t (show (0 : Int) ≤ ((σ.marks.length - 1 : Nat) : Int) by omega) (show ((σ.marks.length - 1 : Nat) : Int) < ((σ.marks.length : Nat) : Int) by omega), cond_t, Int.toNat_natCast]
    rw [hml, ha] at e1
    rw [ha] at e2
    rw [Nat.add_zero] at hl
    simp only [hl, e1, Option.bind_some, asS_s, e2, hx, Option.getD_some]
    exact Ok.some ⟨rfl, _, e3, ⟨by omega, fun b _ hb => e5 b fun e => hb (.inl e), fun b hb => .inl hb⟩, by simp [List.length_take]⟩
theorem set_keep (hs : SQ h s A σ) (hm : σ.marks.length ≤ 8) : Ok (C k_sets_Sets_int_Keep [ptr s] h) fun x h' => x = .int .i64 σ.keep.1 ∧ ∃ A', SQ h' s A' σ.keep.2 ∧ Mv s A A' h h' := by
  refine Ok.le ?_ sets_Sets_int_Keep_le
  simp only [F_sets_Sets_int_Keep]
  refine Ok.bind (set_last hs hm) ?_
  rintro _ h1 ⟨rfl, A1, hs1, mv, hmn⟩
  simp only [asTu_t, Option.bind_some, hdO_c, asI_i64, List.isEmpty_nil, cond_t, St.keep]
  by_cases a : σ.marks.length = 0
  · have e : σ.last = (0, 136, σ) := by simp only [St.last, a, if_true]
    rw [if_pos a]
    rw [e] at hs1 ⊢
    have z : decide ((136 : Int) = 0) = false := rfl
    rw [z, cond_f]
    refine Ok.le ?_ sets_Sets_int_Keep_j1_le
    exact Ok.some ⟨rfl, A1, hs1, mv⟩
  · have e : σ.last.2.1 = 0 := by simp only [St.last, a, if_false]
    have e2 : σ.last.2.2.marks.length = σ.marks.length - 1 := by simp only [St.last, a, if_false, List.length_take]; omega
    have e3 : σ.last.2.2.past = σ.past := by simp only [St.last, a, if_false]
    rw [if_neg a, e]
    have z : decide ((0 : Int) = 0) = true := rfl
    rw [z, cond_t]
    simp only [hs1.c3, Option.bind_some, hmn, e2]
    by_cases b : σ.marks.length = 1
    · obtain ⟨h3, f1, f2, f3⟩ := hs1.nilP
      rw [dec_t (by omega), cond_t]
      simp only [f1, Option.bind_some, b, if_true]
      refine Ok.le ?_ sets_Sets_int_Keep_j1_le
      exact Ok.some ⟨rfl, _, f2, mv.trans f3⟩
    · rw [dec_f (by omega), cond_f]
      simp only [b, if_false]
      refine Ok.le ?_ sets_Sets_int_Keep_j1_le
      refine Ok.some ⟨rfl, A1, ?_, mv⟩
      rw [← e3]; exact hs1
theorem veqO_agg3 (k k' : IntKind) (x y : Int) (z : Bool) : veqO (some (.agg #[.int k x, .int k' y, .bool z])) (some (.agg #[.int k x, .int k' y, .bool z])) = true := by simp [veqO, veq, veqL2, veq2, veqL, veq1]
theorem take_rev {α : Type} {l : List α} {n : Nat} (hn : n < l.length) {x : α} (hx : l[l.length - 1]? = some x) : l.drop n = (l.take (l.length - 1)).drop n ++ [x] := by
  have h1 : l = l.take (l.length - 1) ++ [x] := by
    have h2 : l.drop (l.length - 1) = [x] := by
      have h3 : l.length - 1 < l.length := by omega
      rw [List.drop_eq_getElem_cons h3]
      have h4 := List.getElem?_eq_getElem h3
      rw [hx] at h4
      rw [← Option.some.inj h4, List.drop_of_length_le (by omega)]
    rw [← h2, List.take_append_drop]
  have h5 := congrArg (List.drop n) h1
  rw [h5, List.drop_append_of_le_length (by rw [List.length_take]; omega)]
theorem undo_loop (m : Int) (hm0 : 0 ≤ m) : ∀ (k : Nat) {h : AH} {A : SA} {σ : St}, SQ h s A σ → σ.past.length ≤ m.toNat + k → σ.past.length < 1000000 → Ok (sets_Sets_int_Undo_L1 (some ⟨s, 0, none⟩) m h) fun x h' => x = .int .i64 0 ∧ ∃ A', SQ h' s A' { σ with writes := backs σ.writes (σ.past.drop m.toNat), past := σ.past.take m.toNat } ∧ Mv s A A' h h' := by
  intro k
  induction k with
  | zero =>
    intro h A σ hs hk hp
    refine Ok.le ?_ sets_Sets_int_Undo_L1_le
    simp only [Option.bind_some, hs.c2, hs.plen]
    rw [dec_f (by omega), cond_f]
    refine Ok.le ?_ sets_Sets_int_Undo_j1_le
    refine Ok.some ⟨rfl, A, ?_, .refl _ _ _⟩
    rw [List.drop_of_length_le (by omega), List.take_of_length_le (by omega)]
    exact hs
  | succ k ih =>
    intro h A σ hs hk hp
    refine Ok.le ?_ sets_Sets_int_Undo_L1_le
    simp only [Option.bind_some, hs.c2, hs.plen]
    by_cases a : m < (σ.past.length : Nat)
    · rw [dec_t a, cond_t]
      refine Ok.le ?_ sets_Sets_int_Undo_j2_le
      have hw : IntKind.wrap .i64 (((σ.past.length : Nat) : Int) - 1) = ((σ.past.length - 1 : Nat) : Int) := by rw [wrap64 (by omega) (by omega)]; omega
      obtain ⟨x, hx⟩ : ∃ x, σ.past[σ.past.length - 1]? = some x := ⟨_, List.getElem?_eq_getElem (by omega)⟩
      have hc : ∀ j, j < 3 → (σ.past.flatMap encOld)[(σ.past.length - 1) * 3 + j]? = (encOld x)[j]? := fun j hj => flat_get_some encOld_len hj hx
      have hc0 : (σ.past.flatMap encOld)[(σ.past.length - 1) * 3]? = some (.int .i64 x.i) := hc 0 (by decide)
      have hc1 : (σ.past.flatMap encOld)[(σ.past.length - 1) * 3 + 1]? = some (.int .i64 x.v) := hc 1 (by decide)
      have hc2 : (σ.past.flatMap encOld)[(σ.past.length - 1) * 3 + 2]? = some (.bool x.none) := hc 2 (by decide)
      have hne : σ.past.flatMap encOld ≠ [] := by intro e; rw [e] at hc0; simp at hc0
      obtain ⟨ad, ha, hld⟩ := hs.po.rd.some hne
      have l0 := (hld _).1 _ _ hc0
      have l1 := (hld _).1 _ _ hc1
      have l2 := (hld _).2.1 _ hc2
      obtain ⟨h27, g1, g2, g3, g4⟩ := push_st h [.int .i64 0, .int .i64 0, .bool false] [.int .i64 x.i, .int .i64 x.v, .bool x.none] 3 rfl
      have hs21 := hs.fr (Fr.push [] h (.cells [.int .i64 0, .int .i64 0, .bool false] false false 3))
      obtain ⟨ad', ha', hld'⟩ := hs21.po.rd.some hne
      rw [ha] at ha'
      obtain rfl := Option.some.inj ha'
      have l0' := (hld' _).1 _ _ hc0
      have l1' := (hld' _).1 _ _ hc1
      have l2' := (hld' _).2.1 _ hc2
      have hs27 := hs.fr g3
      have hpl := hs.plen
      simp only [Option.bind_some, hs.c2, hs21.c2, hpl, hw, ha, inB_t (show (0 : Int) ≤ ((σ.past.length - 1 : Nat) : Int) by omega) (show ((σ.past.length - 1 : Nat) : Int) < ((σ.past.length : Nat) : Int) by omega), cond_t, Int.toNat_natCast, l0, l1, l2, l0', l1', l2', Nat.add_assoc, veqO_agg3, veqO_int, veqO_slice, g1, hs27.c2]
      obtain ⟨ec, h35, f1, f2, f3, f4⟩ := hs27.cutP (k := σ.past.length - 1) (by omega) rfl
      rw [hpl, ha] at ec
      rw [ha] at f1
      have hne27 : h.n ≠ s := Nat.ne_of_gt hs.sn
      have k35 : h35.get h.n = some (.cells [.int .i64 x.i, .int .i64 x.v, .bool x.none] false false 3) := by rw [f4 _ hne27]; exact g2
      simp only [ec, Option.bind_some, asS_s, f1, AH.ldB_of (o := 0 + 2) k35 rfl, f2.c1, AH.ldI_of (k := .i64) (o := 0 + 0) k35 rfl, AH.ldI_of (k := .i64) (o := 0 + 1) k35 rfl]
      have hmv : Mv s A { A with pn := σ.past.length - 1 } h h35 := ⟨by have := g3.n; omega, fun b hb ho => (f4 b fun e => ho (.inl e)).trans (g3.g b hb (by simp)), fun b hb => .inl hb⟩
      have hd : σ.past.drop m.toNat = (σ.past.take (σ.past.length - 1)).drop m.toNat ++ [x] := take_rev (by omega) hx
      have ht : (σ.past.take (σ.past.length - 1)).take m.toNat = σ.past.take m.toNat := by rw [List.take_take]; congr 1; omega
      have hb : backs σ.writes (σ.past.drop m.toNat) = backs (back σ.writes x) ((σ.past.take (σ.past.length - 1)).drop m.toNat) := by
        rw [hd, backs, List.reverse_append]; rfl
      rw [hb, ← ht]
      by_cases c : x.none = true
      · rw [c, cond_t]
        obtain ⟨h4, d1, d2, d3, d4⟩ := f2.delW x.i
        simp only [d1, Option.bind_some]
        refine Ok.mono (ih (σ := { σ with writes := adelL σ.writes x.i, past := σ.past.take (σ.past.length - 1) }) d2 (by simp only [List.length_take]; omega) (by simp only [List.length_take]; omega)) ?_
        rintro y h5 ⟨rfl, A', r1, r2⟩
        refine ⟨rfl, A', ?_, (hmv.trans (.one (.inr (.inr (.inl rfl))) d3 d4)).trans r2⟩
        simp only [back, c, if_true]
        exact r1
      · rw [Bool.eq_false_iff.mpr c, cond_f]
        obtain ⟨h4, d1, d2, d3, d4⟩ := f2.setW x.i x.v
        simp only [d1, Option.bind_some]
        refine Ok.mono (ih (σ := { σ with writes := aputL σ.writes x.i x.v, past := σ.past.take (σ.past.length - 1) }) d2 (by simp only [List.length_take]; omega) (by simp only [List.length_take]; omega)) ?_
        rintro y h5 ⟨rfl, A', r1, r2⟩
        refine ⟨rfl, A', ?_, (hmv.trans (.one (.inr (.inr (.inl rfl))) d3 d4)).trans r2⟩
        simp only [back, if_neg c]
        exact r1
    · rw [dec_f a, cond_f]
      refine Ok.le ?_ sets_Sets_int_Undo_j1_le
      refine Ok.some ⟨rfl, A, ?_, .refl _ _ _⟩
      rw [List.drop_of_length_le (by omega), List.take_of_length_le (by omega)]
      exact hs
theorem set_undo (hs : SQ h s A σ) (hm : σ.marks.length ≤ 8) (hp : σ.past.length < 1000000) (h0 : ∀ x ∈ σ.marks, 0 ≤ x) : Ok (C k_sets_Sets_int_Undo [ptr s] h) fun x h' => x = .int .i64 σ.undo.1 ∧ ∃ A', SQ h' s A' σ.undo.2 ∧ Mv s A A' h h' := by
  refine Ok.le ?_ sets_Sets_int_Undo_le
  simp only [F_sets_Sets_int_Undo]
  refine Ok.bind (set_last hs hm) ?_
  rintro _ h1 ⟨rfl, A1, hs1, mv, hmn⟩
  simp only [asTu_t, Option.bind_some, hdO_c, asI_i64, List.isEmpty_nil, cond_t, St.undo]
  by_cases a : σ.marks.length = 0
  · have e : σ.last = (0, 136, σ) := by simp only [St.last, a, if_true]
    rw [if_pos a]
    rw [e] at hs1 ⊢
    have z : (!decide ((136 : Int) = 0)) = true := rfl
    rw [z, cond_t]
    exact Ok.some ⟨rfl, A1, hs1, mv⟩
  · have e : σ.last.2.1 = 0 := by simp only [St.last, a, if_false]
    have e3 : σ.last.2.2.past = σ.past := by simp only [St.last, a, if_false]
    have e4 : σ.last.2.2.writes = σ.writes := by simp only [St.last, a, if_false]
    have e5 : 0 ≤ σ.last.1 := by
      simp only [St.last, a, if_false]
      rw [List.getElem?_eq_getElem (by omega)]
      exact h0 _ (List.getElem_mem _)
    rw [if_neg a, e]
    have z : (!decide ((0 : Int) = 0)) = false := rfl
    rw [z, cond_f]
    refine Ok.le ?_ sets_Sets_int_Undo_j3_le
    refine Ok.mono (undo_loop σ.last.1 e5 σ.past.length hs1 (by rw [e3]; omega) (by rw [e3]; exact hp)) ?_
    rintro y h5 ⟨rfl, A', r1, r2⟩
    rw [e3, e4] at r1
    exact ⟨rfl, A', r1, mv.trans r2⟩
theorem set_new (h : AH) : ∃ h', C k_sets_New_int [] h = some (ptr (h.n + 2), h') ∧ SQ h' (h.n + 2) ⟨h.n, h.n + 1, none, 0, 0, none, 0, 0⟩ {} ∧ h'.n = h.n + 3 ∧ Fr [] h h' := by
  let h1 := h.push (.map [] 0)
  let h2 := h1.push (.map [] 0)
  let h3 := h2.push (.cells [(.map (some h.n)), (.map (some h1.n)), (.slice none 0 0), (.slice none 0 0)] false false 4)
  have hf1 : Fr [] h h1 := Fr.push _ _ _
  have hf2 : Fr [] h1 h2 := Fr.push _ _ _
  have hf3 : Fr [] h2 h3 := Fr.push _ _ _
  have n1 : h1.n = h.n + 1 := rfl
  have n2 : h2.n = h.n + 2 := rfl
  have n3 : h3.n = h.n + 3 := rfl
  have mr := MI.new h
  have mw := MI.new h1
  refine ⟨h3, sets_New_int_le _ rfl, ⟨AH.get_push_eq h2 _, ?_, ?_, .nil, .nil, by rw [n3]; omega, by show h.n + 2 ≠ h.n; omega, by show h.n + 2 ≠ h.n + 1; omega, by show h.n ≠ h.n + 1; omega, fun e => e, fun e => e, fun e => e, fun e => e, fun e => e, fun e => e, fun b e => e.elim⟩, n3, (hf1.trans hf2).trans hf3⟩
  · exact mr.same ((hf2.trans hf3).g _ (by rw [n1]; omega) (by simp)) (by rw [n3]; show h.n + 1 ≤ _; omega)
  · exact mw.same (hf3.g _ (by rw [n2, n1]; omega) (by simp)) (by rw [n3]; show h1.n + 1 ≤ _; omega)
end
end Go.Lg.Try
