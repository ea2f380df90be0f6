/- What the functions of Sets[int] come to, over the abstract memory. -/
import Derived.Test.YtdkammcandclhaaFsets
import Derived.Test.YtdkammcandclhaaFmaps
import Derived.Test.YtdkammcandclhaaFcmp
import Derived.Test.YtdkammcandclhaaEv37
import Derived.Test.YtdkammcandclhaaEv38
set_option linter.unusedVariables false
set_option linter.unusedSimpArgs false
namespace Go.Lg.Try
set_option linter.unusedVariables false
set_option linter.unusedSimpArgs false
open Go Go.Proofs
structure Old where
  i : Int
  v : Int
  none : Bool
def encOld (o : Old) : List Value := [.int .i64 o.i, .int .i64 o.v, .bool o.none]
theorem encOld_len (o : Old) : (encOld o).length = 3 := rfl
/-- where the parts of the sets lie -/
structure SA where
  rb : Nat
  wb : Nat
  pa : Option Addr
  pn : Nat
  pc : Nat
  ma : Option Addr
  mn : Nat
  mc : Nat
structure SR (h : AH) (s : Nat) (A : SA) (reads writes : List (Int × Int)) (past : List Old) (marks : List Int) : Prop where
  g : h.get s = some (.cells [.map (some A.rb), .map (some A.wb), .slice A.pa A.pn A.pc, .slice A.ma A.mn A.mc] false false 4)
  r : MI h A.rb reads
  w : MI h A.wb writes
  po : OwS h 3 A.pa A.pn A.pc (past.flatMap encOld)
  mo : OwS h 1 A.ma A.mn A.mc (marks.flatMap encI)
  sn : s < h.n
  d1 : s ≠ A.rb
  d2 : s ≠ A.wb
  d3 : A.rb ≠ A.wb
  p1 : ¬ blk A.pa s
  p2 : ¬ blk A.pa A.rb
  p3 : ¬ blk A.pa A.wb
  m1 : ¬ blk A.ma s
  m2 : ¬ blk A.ma A.rb
  m3 : ¬ blk A.ma A.wb
  pm : ∀ b, blk A.pa b → ¬ blk A.ma b
def own (s : Nat) (A : SA) (b : Nat) : Prop := b = s ∨ b = A.rb ∨ b = A.wb ∨ blk A.pa b ∨ blk A.ma b
section
variable {h h' : AH} {s : Nat} {A : SA} {reads writes : List (Int × Int)} {past : List Old} {marks : List Int}
namespace SR
theorem plen (hs : SR h s A reads writes past marks) : A.pn = past.length := by have := hs.po.len; rw [flat_len encOld_len] at this; omega
theorem mlen (hs : SR h s A reads writes past marks) : A.mn = marks.length := by have := hs.mo.len; rw [flat_len encI_len] at this; omega
theorem c0 (hs : SR h s A reads writes past marks) : h.ldM s (0 + 0) = some (some A.rb) := AH.ldM_of hs.g rfl
theorem c1 (hs : SR h s A reads writes past marks) : h.ldM s (0 + 1) = some (some A.wb) := AH.ldM_of hs.g rfl
theorem c2 (hs : SR h s A reads writes past marks) : h.ldS s (0 + 2) = some (A.pa, A.pn, A.pc) := AH.ldS_of hs.g rfl
theorem c3 (hs : SR h s A reads writes past marks) : h.ldS s (0 + 3) = some (A.ma, A.mn, A.mc) := AH.ldS_of hs.g rfl
theorem same (hs : SR h s A reads writes past marks) (hg : ∀ b, b < h.n → own s A b → h'.get b = h.get b) (hn : h.n ≤ h'.n) : SR h' s A reads writes past marks :=
  ⟨by rw [hg s hs.sn (.inl rfl)]; exact hs.g, hs.r.same (hg _ hs.r.lt (.inr (.inl rfl))) hn, hs.w.same (hg _ hs.w.lt (.inr (.inr (.inl rfl)))) hn, hs.po.same (fun b h1 h2 => hg b h1 (.inr (.inr (.inr (.inl h2))))) hn, hs.mo.same (fun b h1 h2 => hg b h1 (.inr (.inr (.inr (.inr h2))))) hn, Nat.lt_of_lt_of_le hs.sn hn, hs.d1, hs.d2, hs.d3, hs.p1, hs.p2, hs.p3, hs.m1, hs.m2, hs.m3, hs.pm⟩
theorem fr (hs : SR h s A reads writes past marks) (hf : Fr [] h h') : SR h' s A reads writes past marks := hs.same (fun b hb _ => hf.g b hb (by simp)) hf.n
theorem lt (hs : SR h s A reads writes past marks) : ∀ b, own s A b → b < h.n := fun b hb => by
  rcases hb with rfl | rfl | rfl | hb | hb
  · exact hs.sn
  · exact hs.r.lt
  · exact hs.w.lt
  · exact hs.po.lt b hb
  · exact hs.mo.lt b hb
end SR
theorem set_right (hs : SR h s A reads writes past marks) : C k_sets_Sets_int_right [.pointer (some ⟨s, 0, none⟩)] h = some (.bool true, h) := by
  refine sets_Sets_int_right_le _ ?_
  simp only [F_sets_Sets_int_right, Option.isNone_some, Bool.not_false, cond_t, Option.bind_some, hs.c0]
def mayM (i : Int) : Int := if i < 0 ∨ 1024 ≤ i then 2 else 0
theorem set_may (hs : SR h s A reads writes past marks) (i : Int) : C k_sets_Sets_int_may [.pointer (some ⟨s, 0, none⟩), .int .i64 i] h = some (.int .i64 (mayM i), h) := by
  refine sets_Sets_int_may_le _ ?_
  simp only [F_sets_Sets_int_may, set_right hs, Option.bind_some, asB_b, Bool.not_true, cond_f, mayM]
  by_cases a : i < 0
  · rw [dec_t a, cond_t, if_pos (.inl a)]
  · rw [dec_f a, cond_f]
    by_cases b : i < 1024
    · rw [dec_t b, Bool.not_true, cond_f, if_neg (by omega)]
      exact sets_Sets_int_may_j1_le _ rfl
    · rw [dec_f b, Bool.not_false, cond_t, if_pos (.inr (by omega))]
theorem z2 : zeroOf Try.prog 2 = some (.int .i64 0) := by kernel_rfl
theorem z3 : zeroOf Try.prog 3 = some (.int .i64 0) := by kernel_rfl
/-- one of the maps has turned -/
theorem SR.setR (hs : SR h s A reads writes past marks) (i v : Int) : ∃ h', aput (.int .i64) (.map (some A.rb)) (.int .i64 i) (.int .i64 v) h = some h' ∧ SR h' s A (aputL reads i v) writes past marks ∧ h'.n = h.n ∧ ∀ b, b ≠ A.rb → h'.get b = h.get b := by
  obtain ⟨h', e1, e2, e3, e4⟩ := hs.r.put i v
  have hn : h.n ≤ h'.n := by omega
  exact ⟨h', e1, ⟨by rw [e4 s hs.d1]; exact hs.g, e2, hs.w.same (e4 _ (Ne.symm hs.d3)) hn, hs.po.same (fun b _ hb => e4 b (fun e => hs.p2 (e ▸ hb))) hn, hs.mo.same (fun b _ hb => e4 b (fun e => hs.m2 (e ▸ hb))) hn, by rw [e3]; exact hs.sn, hs.d1, hs.d2, hs.d3, hs.p1, hs.p2, hs.p3, hs.m1, hs.m2, hs.m3, hs.pm⟩, e3, e4⟩
theorem SR.setW (hs : SR h s A reads writes past marks) (i v : Int) : ∃ h', aput (.int .i64) (.map (some A.wb)) (.int .i64 i) (.int .i64 v) h = some h' ∧ SR h' s A reads (aputL writes i v) past marks ∧ h'.n = h.n ∧ ∀ b, b ≠ A.wb → h'.get b = h.get b := by
  obtain ⟨h', e1, e2, e3, e4⟩ := hs.w.put i v
  have hn : h.n ≤ h'.n := by omega
  exact ⟨h', e1, ⟨by rw [e4 s hs.d2]; exact hs.g, hs.r.same (e4 _ hs.d3) hn, e2, hs.po.same (fun b _ hb => e4 b (fun e => hs.p3 (e ▸ hb))) hn, hs.mo.same (fun b _ hb => e4 b (fun e => hs.m3 (e ▸ hb))) hn, by rw [e3]; exact hs.sn, hs.d1, hs.d2, hs.d3, hs.p1, hs.p2, hs.p3, hs.m1, hs.m2, hs.m3, hs.pm⟩, e3, e4⟩
/-! what is told -/
theorem set_seen (hs : SR h s A reads writes past marks) (i : Int) : C k_sets_Sets_int_Seen [.pointer (some ⟨s, 0, none⟩), .int .i64 i] h = some (.tuple #[.int .i64 (aval (alook reads i)), .bool (aok (alook reads i))], h) := by
  obtain ⟨es, m1, m2, m3⟩ := hs.r.map
  refine sets_Sets_int_Seen_le _ ?_
  simp only [F_sets_Sets_int_Seen, set_right hs, Option.bind_some, asB_b, Bool.not_true, cond_f]
  refine sets_Sets_int_Seen_j1_le _ ?_
  simp only [Option.bind_some, hs.c0, m1, look_eq z2 m3, asI_i64]
theorem set_value (hs : SR h s A reads writes past marks) (i : Int) : C k_sets_Sets_int_Value [.pointer (some ⟨s, 0, none⟩), .int .i64 i] h = some (.tuple #[.int .i64 (aval (alook writes i)), .bool (aok (alook writes i))], h) := by
  obtain ⟨es, m1, m2, m3⟩ := hs.w.map
  refine sets_Sets_int_Value_le _ ?_
  simp only [F_sets_Sets_int_Value, set_right hs, Option.bind_some, asB_b, Bool.not_true, cond_f]
  refine sets_Sets_int_Value_j1_le _ ?_
  simp only [Option.bind_some, hs.c1, m1, look_eq z3 m3, asI_i64]
/-! Read -/
def readM (reads : List (Int × Int)) (i v : Int) : Int × List (Int × Int) :=
  if i < 0 ∨ 1024 ≤ i then (2, reads) else if v < 0 then (2, reads) else match alook reads i with
    | some w => if w = v then (0, reads) else (131, reads)
    | none => if reads.length = 256 then (3, reads) else (0, aputL reads i v)
theorem aput_same {l : List (Int × Int)} {i v : Int} (h : alook l i = some v) : aputL l i v = l := by
  induction l with
  | nil => simp [alook] at h
  | cons p l ih =>
    unfold alook at h
    unfold aputL
    by_cases c : p.1 = i
    · rw [if_pos c] at h ⊢
      obtain rfl := Option.some.inj h
      rw [← c]
    · rw [if_neg c] at h ⊢
      rw [ih h]
theorem set_read (hs : SR h s A reads writes past marks) (i v : Int) : Ok (C k_sets_Sets_int_Read [.pointer (some ⟨s, 0, none⟩), .int .i64 i, .int .i64 v] h) fun x h' => x = .int .i64 (readM reads i v).1 ∧ SR h' s A (readM reads i v).2 writes past marks ∧ h'.n = h.n ∧ ∀ b, b ≠ A.rb → h'.get b = h.get b := by
  obtain ⟨es, m1, m2, m3⟩ := hs.r.map
  have stay : ∀ (P : Prop), P → P := fun _ h => h
  refine Ok.le ?_ sets_Sets_int_Read_le
  simp only [F_sets_Sets_int_Read, set_may hs, Option.bind_some, asI_i64, mayM, readM]
  by_cases a : i < 0 ∨ 1024 ≤ i
  · rw [if_pos a, if_pos a]
    have z : (!decide ((2 : Int) = 0)) = true := rfl
    rw [z, cond_t]
    exact Ok.some ⟨rfl, hs, rfl, fun _ _ => rfl⟩
  · rw [if_neg a, if_neg a]
    have z : (!decide ((0 : Int) = 0)) = false := rfl
    rw [z, cond_f]
    refine Ok.le ?_ sets_Sets_int_Read_j3_le
    simp only [Option.bind_some, hs.c0, m1, look_eq z2 m3, asI_i64]
    by_cases b : v < 0
    · rw [dec_t b, cond_t, if_pos b]
      exact Ok.some ⟨rfl, hs, rfl, fun _ _ => rfl⟩
    · rw [dec_f b, cond_f, if_neg b]
      obtain ⟨h1, e1, e2, e3, e4⟩ := hs.setR i v
      cases hl : alook reads i with
      | some w =>
        simp only [aok, Option.isSome_some, cond_t]
        refine Ok.le ?_ sets_Sets_int_Read_j2_le
        by_cases c : w = v
        · rw [dec_t (show aval (some w) = v from c), Bool.not_true, cond_f, cond_f, if_pos c]
          refine Ok.le ?_ sets_Sets_int_Read_j1_le
          simp only [Option.bind_some, hs.c0, e1]
          rw [aput_same (by rw [hl, c])] at e2
          exact Ok.some ⟨rfl, e2, e3, e4⟩
        · rw [dec_f (show ¬ aval (some w) = v from c), Bool.not_false, cond_t, if_neg c]
          exact Ok.some ⟨rfl, hs, rfl, fun _ _ => rfl⟩
      | none =>
        simp only [aok, Option.isSome_none, cond_f]
        refine Ok.le ?_ sets_Sets_int_Read_j2_le
        simp only [cond_f, Bool.not_false, cond_t, Option.bind_some, hs.c0, m1, m2]
        by_cases c : reads.length = 256
        · rw [dec_t (by omega), cond_t, if_pos c]
          exact Ok.some ⟨rfl, hs, rfl, fun _ _ => rfl⟩
        · rw [dec_f (by omega), cond_f, if_neg c]
          refine Ok.le ?_ sets_Sets_int_Read_j1_le
          simp only [Option.bind_some, hs.c0, e1]
          exact Ok.some ⟨rfl, e2, e3, e4⟩
end
end Go.Lg.Try

namespace Go.Lg.Try
set_option linter.unusedVariables false
set_option linter.unusedSimpArgs false
open Go Go.Proofs
/-- what a call on the sets may change -/
structure Mv (s : Nat) (A A' : SA) (h h' : AH) : Prop where
  n : h.n ≤ h'.n
  g : ∀ b, b < h.n → ¬ own s A b → h'.get b = h.get b
  o : ∀ b, own s A' b → own s A b ∨ h.n ≤ b
theorem Mv.refl (s : Nat) (A : SA) (h : AH) : Mv s A A h h := ⟨Nat.le_refl _, fun _ _ _ => rfl, fun _ hb => .inl hb⟩
theorem Mv.trans {s : Nat} {A B D : SA} {h h1 h2 : AH} (a : Mv s A B h h1) (b : Mv s B D h1 h2) : Mv s A D h h2 :=
  ⟨Nat.le_trans a.n b.n, fun x hx hn => (b.g x (Nat.lt_of_lt_of_le hx a.n) fun ho => (a.o x ho).elim hn fun hl => by omega).trans (a.g x hx hn), fun x hx => (b.o x hx).elim (a.o x) fun hl => .inr (Nat.le_trans a.n hl)⟩
theorem Mv.of {s : Nat} {A A' : SA} {h h' : AH} (hf : Fr [] h h') (ho : ∀ b, own s A' b → own s A b ∨ h.n ≤ b) : Mv s A A' h h' := ⟨hf.n, fun b hb _ => hf.g b hb (by simp), ho⟩
theorem Mv.fr {s : Nat} {A : SA} {h h' : AH} (hf : Fr [] h h') : Mv s A A h h' := .of hf fun _ hb => .inl hb
theorem Mv.one {s : Nat} {A : SA} {h h' : AH} {r : Nat} (hr : own s A r) (hn : h'.n = h.n) (hg : ∀ b, b ≠ r → h'.get b = h.get b) : Mv s A A h h' :=
  ⟨by omega, fun b _ hb => hg b fun e => hb (e ▸ hr), fun _ hb => .inl hb⟩
theorem st2 {h : AH} {s : Nat} {x y z v w : Value} (g : h.get s = some (.cells [x, y, z, w] false false 4)) : ∃ h', h.st s (0 + 2) [v] = some h' ∧ h'.get s = some (.cells [x, y, v, w] false false 4) ∧ h'.n = h.n ∧ ∀ b, b ≠ s → h'.get b = h.get b :=
  ⟨_, AH.st_of g (by simp), AH.get_set_eq _ _ _, rfl, fun b hb => AH.get_set_ne _ hb⟩
theorem st3 {h : AH} {s : Nat} {x y z v w : Value} (g : h.get s = some (.cells [x, y, z, w] false false 4)) : ∃ h', h.st s (0 + 3) [v] = some h' ∧ h'.get s = some (.cells [x, y, z, v] false false 4) ∧ h'.n = h.n ∧ ∀ b, b ≠ s → h'.get b = h.get b :=
  ⟨_, AH.st_of g (by simp), AH.get_set_eq _ _ _, rfl, fun b hb => AH.get_set_ne _ hb⟩
section
variable {h h' : AH} {s : Nat} {A : SA} {reads writes : List (Int × Int)} {past : List Old} {marks : List Int}
theorem SR.pushP (hs : SR h s A reads writes past marks) (x : Old) (hl : past.length < 1000000) : ∃ a' h2 h3, appE 3 24 (.slice A.pa A.pn A.pc) (.slice (some ⟨h.n, 0, none⟩) 1 1) (h.push (.cells (encOld x) false false 3)) = some (.slice a' (A.pn + 1) opn, h2) ∧
    h2.st s (0 + 2) [.slice a' (A.pn + 1) opn] = some h3 ∧ SR h3 s { A with pa := a', pn := A.pn + 1, pc := opn } reads writes (past ++ [x]) marks ∧ Mv s A { A with pa := a', pn := A.pn + 1, pc := opn } h h3 := by
  have hf1 : Fr [] h (h.push (.cells (encOld x) false false 3)) := Fr.push _ _ _
  have hs1 := hs.fr hf1
  have hpl := hs.plen
  obtain ⟨a', h2, e1, e2, e3, e4, e5⟩ := hs1.po.app (by_ := 24) (newCells_one (c := 1) (AH.get_push_eq h (.cells (encOld x) false false 3)) rfl) rfl (by decide) (by omega) (by omega)
  have nb : ∀ b, b < h.n → ¬ blk A.pa b → ¬ blk a' b := fun b hb hn hp => (e5 b hp).elim hn fun hl => by rw [AH.n_push] at hl; omega
  have hg2 : ∀ b, b < h.n → ¬ blk A.pa b → h2.get b = (h.push (.cells (encOld x) false false 3)).get b := fun b hb hn => e4 b (by rw [AH.n_push]; omega) hn
  obtain ⟨h3, f1, f2, f3, f4⟩ := st2 (v := .slice a' (A.pn + 1) opn) (by rw [hg2 s hs.sn hs.p1]; exact hs1.g)
  have hn2 : h.n ≤ h2.n := Nat.le_trans (Nat.le_succ _) e3
  have hn3 : h.n ≤ h3.n := by omega
  have hn4 : (h.push (.cells (encOld x) false false 3)).n ≤ h3.n := by rw [f3]; exact e3
  have gg : ∀ b, b < h.n → ¬ blk A.pa b → b ≠ s → h3.get b = (h.push (.cells (encOld x) false false 3)).get b := fun b hb hn hne => (f4 b hne).trans (hg2 b hb hn)
  refine ⟨a', h2, h3, e1, f1, ⟨f2, hs1.r.same (gg _ hs.r.lt hs.p2 (Ne.symm hs.d1)) hn4, hs1.w.same (gg _ hs.w.lt hs.p3 (Ne.symm hs.d2)) hn4, ?_, ?_, Nat.lt_of_lt_of_le hs.sn hn3, hs.d1, hs.d2, hs.d3, nb _ hs.sn hs.p1, nb _ hs.r.lt hs.p2, nb _ hs.w.lt hs.p3, hs.m1, hs.m2, hs.m3, fun b hb hm => ?_⟩, ⟨hn3, fun b hb ho => ?_, fun b ho => ?_⟩⟩
  · have : (past ++ [x]).flatMap encOld = past.flatMap encOld ++ encOld x := by simp
    rw [this]
    exact e2.same (fun b hb hk => f4 b fun e => nb _ hs.sn hs.p1 (e ▸ hk)) (by omega)
  · exact hs1.mo.same (fun b hb hk => gg b (hs.mo.lt b hk) (fun hp => hs.pm b hp hk) fun e => hs.m1 (e ▸ hk)) hn4
  · have hbm := hs.mo.lt b hm
    exact nb b hbm (fun hp => hs.pm b hp hm) hb
  · rw [gg b hb (fun hp => ho (.inr (.inr (.inr (.inl hp))))) (fun e => ho (.inl e)), AH.get_push_ne _ (by omega)]
  · rcases ho with ho | ho | ho | ho | ho
    · exact .inl (.inl ho)
    · exact .inl (.inr (.inl ho))
    · exact .inl (.inr (.inr (.inl ho)))
    · exact (e5 b ho).elim (fun h => .inl (.inr (.inr (.inr (.inl h))))) fun h => .inr (by rw [AH.n_push] at h; omega)
    · exact .inl (.inr (.inr (.inr (.inr ho))))
/-- no past -/
theorem SR.nilP (hs : SR h s A reads writes past marks) : ∃ h3, h.st s (0 + 2) [.slice none 0 0] = some h3 ∧ SR h3 s { A with pa := none, pn := 0, pc := 0 } reads writes [] marks ∧ Mv s A { A with pa := none, pn := 0, pc := 0 } h h3 := by
  obtain ⟨h3, f1, f2, f3, f4⟩ := st2 (v := .slice none 0 0) hs.g
  have hn : h.n ≤ h3.n := by omega
  refine ⟨h3, f1, ⟨f2, hs.r.same (f4 _ (Ne.symm hs.d1)) hn, hs.w.same (f4 _ (Ne.symm hs.d2)) hn, .nil, hs.mo.same (fun b _ hb => f4 b fun e => hs.m1 (e ▸ hb)) hn, by rw [f3]; exact hs.sn, hs.d1, hs.d2, hs.d3, fun h => h, fun h => h, fun h => h, hs.m1, hs.m2, hs.m3, fun b hb => hb.elim⟩, hn, fun b hb ho => f4 b fun e => ho (.inl e), fun b ho => .inl ?_⟩
  rcases ho with ho | ho | ho | ho | ho
  · exact .inl ho
  · exact .inr (.inl ho)
  · exact .inr (.inr (.inl ho))
  · exact ho.elim
  · exact .inr (.inr (.inr (.inr ho)))
end
end Go.Lg.Try

namespace Go.Lg.Try
set_option linter.unusedVariables false
set_option linter.unusedSimpArgs false
open Go Go.Proofs
structure St where
  reads : List (Int × Int) := []
  writes : List (Int × Int) := []
  past : List Old := []
  marks : List Int := []
abbrev SQ (h : AH) (s : Nat) (A : SA) (σ : St) : Prop := SR h s A σ.reads σ.writes σ.past σ.marks
def St.read (σ : St) (i v : Int) : Int × St := ((readM σ.reads i v).1, { σ with reads := (readM σ.reads i v).2 })
def oldOf (writes : List (Int × Int)) (i : Int) : Old := ⟨i, aval (alook writes i), !aok (alook writes i)⟩
def St.write (σ : St) (i v : Int) : Int × St :=
  if i < 0 ∨ 1024 ≤ i then (2, σ) else if aok (alook σ.writes i) = false ∧ σ.writes.length = 256 then (3, σ)
  else (0, { σ with writes := aputL σ.writes i v, past := if σ.marks.length = 0 then σ.past else σ.past ++ [oldOf σ.writes i] })
def St.mark (σ : St) : Int × St := if σ.marks.length = 8 then (3, σ) else (0, { σ with marks := σ.marks ++ [((σ.past.length : Nat) : Int)] })
def St.last (σ : St) : Int × Int × St := if σ.marks.length = 0 then (0, 136, σ) else ((σ.marks[σ.marks.length - 1]?).getD 0, 0, { σ with marks := σ.marks.take (σ.marks.length - 1) })
def St.keep (σ : St) : Int × St := if σ.marks.length = 0 then (136, σ) else (0, { σ.last.2.2 with past := if σ.marks.length = 1 then [] else σ.past })
def back (w : List (Int × Int)) (o : Old) : List (Int × Int) := if o.none then adelL w o.i else aputL w o.i o.v
def backs (w : List (Int × Int)) (p : List Old) : List (Int × Int) := p.reverse.foldl back w
def St.undo (σ : St) : Int × St := if σ.marks.length = 0 then (136, σ) else (0, { σ.last.2.2 with writes := backs σ.writes (σ.past.drop σ.last.1.toNat), past := σ.past.take σ.last.1.toNat })
section
variable {h h' : AH} {s : Nat} {A : SA} {σ : St}
abbrev ptr (s : Nat) : Value := .pointer (some ⟨s, 0, none⟩)
theorem set_rd (hs : SQ h s A σ) (i v : Int) : Ok (C k_sets_Sets_int_Read [ptr s, .int .i64 i, .int .i64 v] h) fun x h' => x = .int .i64 (σ.read i v).1 ∧ SQ h' s A (σ.read i v).2 ∧ Mv s A A h h' :=
  Ok.mono (set_read hs i v) fun x h' ⟨e1, e2, e3, e4⟩ => ⟨e1, e2, .one (.inr (.inl rfl)) e3 e4⟩
theorem set_write (hs : SQ h s A σ) (hp : σ.past.length < 1000000) (i v : Int) : Ok (C k_sets_Sets_int_Write [ptr s, .int .i64 i, .int .i64 v] h) fun x h' => x = .int .i64 (σ.write i v).1 ∧ ∃ A', SQ h' s A' (σ.write i v).2 ∧ Mv s A A' h h' := by
  obtain ⟨es, m1, m2, m3⟩ := hs.w.map
  refine Ok.le ?_ sets_Sets_int_Write_le
  simp only [F_sets_Sets_int_Write, set_may hs, Option.bind_some, asI_i64, mayM, St.write]
  by_cases a : i < 0 ∨ 1024 ≤ i
  · rw [if_pos a, if_pos a]
    have z : (!decide ((2 : Int) = 0)) = true := rfl
    rw [z, cond_t]
    exact Ok.some ⟨rfl, A, hs, .refl _ _ _⟩
  · rw [if_neg a, if_neg a]
    have z : (!decide ((0 : Int) = 0)) = false := rfl
    rw [z, cond_f]
    refine Ok.le ?_ sets_Sets_int_Write_j3_le
    simp only [Option.bind_some, hs.c1, m1, look_eq z3 m3, asI_i64]
    have j2 : ¬(aok (alook σ.writes i) = false ∧ σ.writes.length = 256) → Ok (sets_Sets_int_Write_j2 (some ⟨s, 0, none⟩) h i (aval (alook σ.writes i)) v (aok (alook σ.writes i))) fun x h' => x = .int .i64 (if aok (alook σ.writes i) = false ∧ σ.writes.length = 256 then (3, σ) else (0, { σ with writes := aputL σ.writes i v, past := if σ.marks.length = 0 then σ.past else σ.past ++ [oldOf σ.writes i] })).1 ∧ ∃ A', SQ h' s A' (if aok (alook σ.writes i) = false ∧ σ.writes.length = 256 then ((3 : Int), σ) else (0, { σ with writes := aputL σ.writes i v, past := if σ.marks.length = 0 then σ.past else σ.past ++ [oldOf σ.writes i] })).2 ∧ Mv s A A' h h' := by
      intro b
      rw [if_neg b]
      refine Ok.le ?_ sets_Sets_int_Write_j2_le
      simp only [Option.bind_some, hs.c3, hs.c2, hs.mlen]
      by_cases c : σ.marks.length = 0
      · rw [dec_f (by omega), cond_f]
        simp only [c, if_true]
        refine Ok.le ?_ sets_Sets_int_Write_j1_le
        obtain ⟨h1, e1, e2, e3, e4⟩ := hs.setW i v
        simp only [Option.bind_some, hs.c1, e1]
        exact Ok.some ⟨rfl, A, e2, .one (.inr (.inr (.inl rfl))) e3 e4⟩
      · rw [dec_t (by omega), cond_t]
        simp only [c, if_false]
        obtain ⟨a', h2, h3, e1, e2, e3, e4⟩ := hs.pushP (oldOf σ.writes i) hp
        have e1' : appE 3 24 (.slice A.pa A.pn A.pc) (.slice (some ⟨h.n, 0, none⟩) 1 1) (h.push (.cells [.int .i64 i, .int .i64 (aval (alook σ.writes i)), .bool !aok (alook σ.writes i)] false false 3)) = some (.slice a' (A.pn + 1) opn, h2) := e1
        simp only [e1', Option.bind_some, asS_s, e2]
        refine Ok.le ?_ sets_Sets_int_Write_j1_le
        obtain ⟨h4, f1, f2, f3, f4⟩ := e3.setW i v
        simp only [Option.bind_some, e3.c1, f1]
        exact Ok.some ⟨rfl, _, f2, e4.trans (.one (.inr (.inr (.inl rfl))) f3 f4)⟩
    cases hk : aok (alook σ.writes i) with
    | true =>
      rw [Bool.not_true, cond_f]
      rw [hk] at j2
      exact j2 (by simp)
    | false =>
      rw [Bool.not_false, cond_t]
      simp only [Option.bind_some, hs.c1, m1, m2]
      by_cases c : σ.writes.length = 256
      · rw [dec_t (by omega), cond_t, if_pos ⟨trivial, c⟩]
        exact Ok.some ⟨rfl, A, hs, .refl _ _ _⟩
      · rw [dec_f (by omega), cond_f]
        rw [hk] at j2
        have j3 := j2 (by simp [c])
        simp only [true_and] at j3 ⊢
        exact j3
theorem set_new (h : AH) : ∃ h', C k_sets_New_int [] h = some (ptr (h.n + 2), h') ∧ SQ h' (h.n + 2) ⟨h.n, h.n + 1, none, 0, 0, none, 0, 0⟩ {} ∧ h'.n = h.n + 3 ∧ Fr [] h h' := by
  let h1 := h.push (.map [] 0)
  let h2 := h1.push (.map [] 0)
  let h3 := h2.push (.cells [(.map (some h.n)), (.map (some h1.n)), (.slice none 0 0), (.slice none 0 0)] false false 4)
  have hf1 : Fr [] h h1 := Fr.push _ _ _
  have hf2 : Fr [] h1 h2 := Fr.push _ _ _
  have hf3 : Fr [] h2 h3 := Fr.push _ _ _
  have n1 : h1.n = h.n + 1 := rfl
  have n2 : h2.n = h.n + 2 := rfl
  have n3 : h3.n = h.n + 3 := rfl
  have mr := MI.new h
  have mw := MI.new h1
  refine ⟨h3, sets_New_int_le _ rfl, ⟨AH.get_push_eq h2 _, ?_, ?_, .nil, .nil, by rw [n3]; omega, by show h.n + 2 ≠ h.n; omega, by show h.n + 2 ≠ h.n + 1; omega, by show h.n ≠ h.n + 1; omega, fun e => e, fun e => e, fun e => e, fun e => e, fun e => e, fun e => e, fun b e => e.elim⟩, n3, (hf1.trans hf2).trans hf3⟩
  · exact mr.same ((hf2.trans hf3).g _ (by rw [n1]; omega) (by simp)) (by rw [n3]; show h.n + 1 ≤ _; omega)
  · exact mw.same (hf3.g _ (by rw [n2, n1]; omega) (by simp)) (by rw [n3]; show h1.n + 1 ≤ _; omega)
end
end Go.Lg.Try

namespace Go.Lg.Try
set_option linter.unusedVariables false
set_option linter.unusedSimpArgs false
open Go Go.Proofs
theorem asG_fn (x : Option (FuncId × List Value × List Value)) : asG (fnV x) = some x := by rcases x with _ | ⟨a, b, c⟩ <;> rfl
theorem flatI (l : List Int) : l.flatMap encI = l.map (Value.int .i64) := by
  induction l with
  | nil => rfl
  | cons x l ih => simp only [List.flatMap_cons, ih, List.map_cons]; rfl
def gOf (h : AH) : List Int → AH
  | [] => h
  | x :: p => h.push (.cells ((sortI (x :: p)).map (Value.int .i64)) true false 1)
def aOf (h : AH) : List Int → Option Addr × Nat
  | [] => (none, 0)
  | _ :: _ => (some ⟨h.n, 0, none⟩, opn)
theorem gOf_perm {h : AH} {p q : List Int} (hp : p.Perm q) : gOf h p = gOf h q ∧ aOf h p = aOf h q := by
  cases p with
  | nil =>
    cases q with
    | nil => exact ⟨rfl, rfl⟩
    | cons _ _ => have := hp.length_eq; simp at this
  | cons x p =>
    cases q with
    | nil => have := hp.length_eq; simp at this
    | cons _ _ => exact ⟨by simp only [gOf, sortI_perm hp], rfl⟩
/-- what order does to what Collect gives -/
theorem order_of {h : AH} {p : List Int} (hl : p.length ≤ 1000000) : ((asS (outC h p).1).bind fun t => C k_sets_order [.slice t.1 t.2.1 t.2.2] (outC h p).2) = some (.slice (aOf h p).1 p.length (aOf h p).2, gOf h p) := by
  cases p with
  | nil =>
    refine sets_order_le _ ?_
    simp only [F_sets_order]
    rw [show sortF 93 [.slice none 0 0, fnV (some (93, [], []))] (outC h []).2 = some [(.tuple #[], h)] from sort_nil 93]
    simp only [sumK, List.map_cons, List.map_nil, allR_one]
    rfl
  | cons x p =>
    refine sets_order_le _ ?_
    simp only [F_sets_order]
    rw [show sortF 93 [.slice (some ⟨h.n, 0, none⟩) (x :: p).length opn, fnV (some (93, [], []))] (outC h (x :: p)).2 = _ from sort_eq 93 (AH.get_push_eq _ _) hl (by simp)]
    have hps : (outC h (x :: p)).2.set h.n (some (.cells ((sortI (x :: p)).map (Value.int .i64)) true false 1)) = gOf h (x :: p) := AH.push_set _ _ _
    simp only [sumK, List.map_cons, List.map_nil, allR_one] at *
    rw [hps]
    rfl
section
variable {h h' : AH} {s : Nat} {A : SA} {σ : St}
/-- a fresh list -/
structure Fresh (h h' : AH) (a : Option Addr) (n c : Nat) (l : List Int) : Prop where
  o : Ow h' 1 a n c (l.flatMap encI)
  f : Fr [] h h'
  b : ∀ b, blk a b → h.n ≤ b
  e : n = l.length
theorem keys_out {h1 : AH} {r fk : Nat} {l : List (Int × Int)} (hfk : [96, 97].any (Nat.beq fk) = true) (hm : MI h r l) (hw : Wk (l.map Prod.fst)) (hl : l.length ≤ 1000000) (e1 : h1 = h.push (.cells [.map (some r)] false false 1)) {X : Res} :
    Ok (sumK (collectF [96, 97] [fnV (some (fk, [], [.pointer (some ⟨h.n, 0, none⟩)]))] h1) (fun l11 => allR (l11.map fun q10 => ((asS q10.1).bind fun t12 => ((C k_sets_order [(.slice t12.1 t12.2.1 t12.2.2)] q10.2).bind fun r13 => ((asS r13.1).bind fun t14 => (some ((.slice t14.1 t14.2.1 t14.2.2), r13.2))))))) X) fun x h' => ∃ a c, x = .slice a l.length c ∧ Fresh h h' a l.length c (sortI (l.map Prod.fst)) := by
  have hf1 : Fr [] h h1 := e1 ▸ Fr.push _ _ _
  have hm1 : MI h1 r l := hm.same (hf1.g _ hm.lt (by simp)) hf1.n
  have hc := collect_eq (fks := [96, 97]) (fk := fk) hfk (h := h1) (bx := h.n) (by rw [e1]; exact AH.get_push_eq _ _) hm1 hw hl
  rw [show collectF [96, 97] [fnV (some (fk, [], [.pointer (some ⟨h.n, 0, none⟩)]))] h1 = some ((permsL (l.map Prod.fst)).map (outC h1)) from hc]
  simp only [sumK, List.map_map]
  let ks := l.map Prod.fst
  have hks : ks.length = l.length := List.length_map _
  have key : ∀ p, p.Perm ks → (asS (outC h1 p).1).bind (fun t12 => ((C k_sets_order [(.slice t12.1 t12.2.1 t12.2.2)] (outC h1 p).2).bind fun r13 => ((asS r13.1).bind fun t14 => (some ((Value.slice t14.1 t14.2.1 t14.2.2), r13.2))))) = some (.slice (aOf h1 ks).1 l.length (aOf h1 ks).2, gOf h1 ks) := by
    intro p hp
    have k1 := order_of (h := h1) (p := p) (by rw [hp.length_eq]; omega)
    rw [(gOf_perm hp).1, (gOf_perm hp).2, hp.length_eq, hks] at k1
    generalize (outC h1 p).1 = v at k1
    generalize (outC h1 p).2 = gv at k1
    cases hv : asS v with
    | none => rw [hv] at k1; simp at k1
    | some t =>
      rw [hv] at k1
      simp only [Option.bind_some] at k1 ⊢
      rw [k1]
      simp only [Option.bind_some, asS_s]
  have hne : ∃ p ps, permsL ks = p :: ps := by
    have := mem_permsL (List.Perm.refl ks)
    cases hq : permsL ks with
    | nil => rw [hq] at this; simp at this
    | cons p ps => exact ⟨p, ps, rfl⟩
  obtain ⟨p, ps, hps⟩ := hne
  have hall : ∀ q ∈ permsL ks, q.Perm ks := fun q hq => permsL_perm hq
  show Ok (allR (List.map _ (permsL ks))) _
  rw [hps] at hall ⊢
  simp only [List.map_cons, Function.comp]
  have hp1 := key p (hall p (by simp))
  rw [allR_same (r := (asS (outC h1 p).1).bind (fun t12 => ((C k_sets_order [(.slice t12.1 t12.2.1 t12.2.2)] (outC h1 p).2).bind fun r13 => ((asS r13.1).bind fun t14 => (some ((Value.slice t14.1 t14.2.1 t14.2.2), r13.2))))))]
  · rw [hp1]
    refine Ok.some ⟨_, _, rfl, ?_⟩
    cases hq : ks with
    | nil =>
      have hl0 : l = [] := by cases l with | nil => rfl | cons _ _ => simp [ks] at hq
      subst hl0
      exact ⟨by rw [show sortI (List.map Prod.fst ([] : List (Int × Int))) = [] from List.eq_nil_of_length_eq_zero (sortI_len _)]; exact .nil, hf1, fun b hb => hb.elim, by rw [sortI_len]; rfl⟩
    | cons y q =>
      have hn1 : h1.n = h.n + 1 := by rw [e1]; rfl
      refine ⟨?_, ?_, fun b hb => ?_, by rw [sortI_len, List.length_map]⟩
      · rw [flatI, show l.map Prod.fst = y :: q from hq]
        exact .mk (AH.get_push_eq _ _) (by rw [List.length_map, sortI_len, ← hq]; omega) (by show h1.n < h1.n + 1; omega)
      · exact hf1.trans (Fr.push _ _ _)
      · obtain rfl : h1.n = b := hb
        omega
  · intro x hx
    obtain ⟨q, hq, rfl⟩ := List.mem_map.mp hx
    exact (key q (hall q (List.mem_cons_of_mem _ hq))).trans hp1.symm
theorem set_writes (hs : SQ h s A σ) (hw : Wk (σ.writes.map Prod.fst)) (hl : σ.writes.length ≤ 1000000) : Ok (C k_sets_Sets_int_Writes [ptr s] h) fun x h' => ∃ a c, x = .slice a σ.writes.length c ∧ Fresh h h' a σ.writes.length c (sortI (σ.writes.map Prod.fst)) := by
  refine Ok.le ?_ sets_Sets_int_Writes_le
  simp only [F_sets_Sets_int_Writes, set_right hs, Option.bind_some, asB_b, Bool.not_true, cond_f]
  refine Ok.le ?_ sets_Sets_int_Writes_j1_le
  simp only [Option.bind_some, hs.c1]
  rw [maps_Keys_map_int_int_int_int_le _ rfl]
  simp only [Option.bind_some, asG_fn]
  exact keys_out rfl hs.w hw hl rfl
theorem set_reads (hs : SQ h s A σ) (hw : Wk (σ.reads.map Prod.fst)) (hl : σ.reads.length ≤ 1000000) : Ok (C k_sets_Sets_int_Reads [ptr s] h) fun x h' => ∃ a c, x = .slice a σ.reads.length c ∧ Fresh h h' a σ.reads.length c (sortI (σ.reads.map Prod.fst)) := by
  refine Ok.le ?_ sets_Sets_int_Reads_le
  simp only [F_sets_Sets_int_Reads, set_right hs, Option.bind_some, asB_b, Bool.not_true, cond_f]
  refine Ok.le ?_ sets_Sets_int_Reads_j1_le
  simp only [Option.bind_some, hs.c0]
  rw [maps_Keys_map_int_int64_int_int64_le _ rfl]
  simp only [Option.bind_some, asG_fn]
  exact keys_out rfl hs.r hw hl rfl
end
end Go.Lg.Try

namespace Go.Lg.Try
set_option linter.unusedVariables false
set_option linter.unusedSimpArgs false
open Go Go.Proofs
theorem Rd.same {h h' : AH} {a : Option Addr} {cs : List Value} (hr : Rd h a cs) (hg : ∀ b, b < h.n → blk a b → h'.get b = h.get b) (hn : h.n ≤ h'.n) : Rd h' a cs := by
  rcases hr with rfl | ⟨ad, c, op, ro, e, rfl, h1, h2, h3⟩
  · exact .inl rfl
  · exact .inr ⟨ad, c, op, ro, e, rfl, by rw [hg _ h2 rfl]; exact h1, Nat.lt_of_lt_of_le h2 hn, h3⟩
structure SOp where
  kind : Int
  i : Int
  v : Int
  ver : Int
structure Wf (σ : St) (N : Nat) : Prop where
  rk : ∀ i ∈ σ.reads.map Prod.fst, 0 ≤ i ∧ i < 1024
  wk : ∀ i ∈ σ.writes.map Prod.fst, 0 ≤ i ∧ i < 1024
  pk : ∀ o ∈ σ.past, 0 ≤ o.i ∧ o.i < 1024
  ml : σ.marks.length ≤ 8
  m0 : ∀ x ∈ σ.marks, 0 ≤ x
  sz : σ.reads.length + σ.writes.length + σ.past.length ≤ N
theorem wk_of {l : List Int} (h : ∀ i ∈ l, 0 ≤ i ∧ i < 1024) : Wk l := fun x hx => by
  have := h x hx
  have e1 : IntKind.min .i64 = -9223372036854775808 := by decide
  have e2 : IntKind.max .i64 = 9223372036854775807 := by decide
  simp only [Lit.wf, Bool.and_eq_true, decide_eq_true_eq, e1, e2]
  omega
theorem put_keys {l : List (Int × Int)} (h : ∀ i ∈ l.map Prod.fst, 0 ≤ i ∧ i < 1024) {i : Int} (hi : 0 ≤ i ∧ i < 1024) (v : Int) : ∀ j ∈ (aputL l i v).map Prod.fst, 0 ≤ j ∧ j < 1024 := by
  intro j hj
  rw [keys_put] at hj
  split at hj
  · exact h j hj
  · rcases List.mem_append.mp hj with hj | hj
    · exact h j hj
    · obtain rfl : j = i := by simpa using hj
      exact hi
theorem put_len (l : List (Int × Int)) (i v : Int) : (aputL l i v).length ≤ l.length + 1 := by
  rw [len_put]; split <;> omega
theorem del_keys {l : List (Int × Int)} (h : ∀ i ∈ l.map Prod.fst, 0 ≤ i ∧ i < 1024) (i : Int) : ∀ j ∈ (adelL l i).map Prod.fst, 0 ≤ j ∧ j < 1024 := by
  intro j hj
  rw [keys_del] at hj
  exact h j (List.mem_of_mem_erase hj)
theorem del_len (l : List (Int × Int)) (i : Int) : (adelL l i).length ≤ l.length := by
  have := congrArg List.length (keys_del i l)
  rw [List.length_map] at this
  rw [this]
  exact Nat.le_trans (List.length_erase_le) (by rw [List.length_map]; exact Nat.le_refl _)
theorem backs_ok : ∀ (p : List Old) {w : List (Int × Int)}, (∀ i ∈ w.map Prod.fst, 0 ≤ i ∧ i < 1024) → (∀ o ∈ p, 0 ≤ o.i ∧ o.i < 1024) → (∀ i ∈ (p.foldl back w).map Prod.fst, 0 ≤ i ∧ i < 1024) ∧ (p.foldl back w).length ≤ w.length + p.length := by
  intro p
  induction p with
  | nil => intro w hw _; exact ⟨hw, by simp⟩
  | cons o p ih =>
    intro w hw hp
    have ho := hp o (by simp)
    have h1 : (∀ i ∈ (back w o).map Prod.fst, 0 ≤ i ∧ i < 1024) ∧ (back w o).length ≤ w.length + 1 := by
      unfold back
      split
      · exact ⟨del_keys hw _, by have := del_len w o.i; omega⟩
      · exact ⟨put_keys hw ho _, put_len _ _ _⟩
    obtain ⟨a, b⟩ := ih h1.1 fun o ho => hp o (by simp [ho])
    exact ⟨a, by simp only [List.foldl_cons, List.length_cons]; omega⟩
def pstep (b : Bool) (σ : St) (x : SOp) : St :=
  if x.kind = 0 ∨ x.kind = 1 then (σ.read x.i x.ver).2 else if x.kind = 2 ∨ x.kind = 3 then (σ.write x.i x.v).2
  else if x.kind = 4 then (if b then σ.mark.2 else σ) else if x.kind = 5 then (if b then σ.keep.2 else σ) else if x.kind = 6 then (if b then σ.undo.2 else σ) else σ
section
variable {σ : St} {N : Nat}
theorem Wf.more (w : Wf σ N) {M : Nat} (h : N ≤ M) : Wf σ M := ⟨w.rk, w.wk, w.pk, w.ml, w.m0, Nat.le_trans w.sz h⟩
theorem Wf.read (w : Wf σ N) (i v : Int) : Wf (σ.read i v).2 (N + 2) := by
  unfold St.read readM
  have hsz := w.sz
  by_cases a : i < 0 ∨ 1024 ≤ i
  · simp only [if_pos a]; exact w.more (by omega)
  · simp only [if_neg a]
    split
    · exact w.more (by omega)
    · split
      · split <;> exact w.more (by omega)
      · split
        · exact w.more (by omega)
        · exact ⟨put_keys w.rk (by omega) v, w.wk, w.pk, w.ml, w.m0, by have := put_len σ.reads i v; simp only; omega⟩
theorem Wf.write (w : Wf σ N) (i v : Int) : Wf (σ.write i v).2 (N + 2) := by
  unfold St.write
  have hsz := w.sz
  by_cases a : i < 0 ∨ 1024 ≤ i
  · simp only [if_pos a]; exact w.more (by omega)
  · simp only [if_neg a]
    split
    · exact w.more (by omega)
    · have hp := put_len σ.writes i v
      refine ⟨w.rk, put_keys w.wk (by omega) v, ?_, w.ml, w.m0, ?_⟩
      · intro o ho
        simp only at ho
        split at ho
        · exact w.pk o ho
        · rcases List.mem_append.mp ho with ho | ho
          · exact w.pk o ho
          · obtain rfl : o = oldOf σ.writes i := by simpa using ho
            show 0 ≤ i ∧ i < 1024
            omega
      · simp only
        split
        · omega
        · rw [List.length_append, List.length_singleton]; omega
theorem Wf.mark (w : Wf σ N) : Wf σ.mark.2 (N + 2) := by
  unfold St.mark
  have := w.ml
  split
  · exact w.more (by omega)
  · refine ⟨w.rk, w.wk, w.pk, by simp only [List.length_append, List.length_singleton]; omega, fun x hx => ?_, by have := w.sz; simp only; omega⟩
    rcases List.mem_append.mp hx with hx | hx
    · exact w.m0 x hx
    · obtain rfl : x = ((σ.past.length : Nat) : Int) := by simpa using hx
      omega
theorem Wf.keep (w : Wf σ N) : Wf σ.keep.2 (N + 2) := by
  unfold St.keep
  have hsz := w.sz
  split
  · exact w.more (by omega)
  · rename_i c
    have e : σ.last.2.2 = { σ with marks := σ.marks.take (σ.marks.length - 1) } := by simp only [St.last, if_neg c]
    have hm := w.ml
    refine ⟨by rw [e]; exact w.rk, by rw [e]; exact w.wk, fun o ho => ?_, by rw [e]; simp only [List.length_take]; omega, fun x hx => ?_, ?_⟩
    · simp only at ho
      split at ho
      · simp at ho
      · exact w.pk o ho
    · rw [e] at hx; exact w.m0 x (List.mem_of_mem_take hx)
    · rw [e]; simp only
      split
      · simp only [List.length_nil]; omega
      · omega
theorem Wf.undo (w : Wf σ N) : Wf σ.undo.2 (N + 2) := by
  unfold St.undo
  have hsz := w.sz
  split
  · exact w.more (by omega)
  · rename_i c
    have e : σ.last.2.2 = { σ with marks := σ.marks.take (σ.marks.length - 1) } := by simp only [St.last, if_neg c]
    have hm := w.ml
    obtain ⟨b1, b2⟩ := backs_ok (σ.past.drop σ.last.1.toNat).reverse w.wk (fun o ho => w.pk o (List.mem_of_mem_drop (List.mem_reverse.mp ho)))
    refine ⟨by rw [e]; exact w.rk, b1, fun o ho => w.pk o (List.mem_of_mem_take ho), by rw [e]; simp only [List.length_take]; omega, fun x hx => ?_, ?_⟩
    · rw [e] at hx; exact w.m0 x (List.mem_of_mem_take hx)
    · rw [e]; simp only
      rw [List.length_reverse, List.length_drop] at b2
      unfold backs
      rw [List.length_take]
      omega
theorem Wf.step (w : Wf σ N) (b : Bool) (x : SOp) : Wf (pstep b σ x) (N + 2) := by
  unfold pstep
  split
  · exact w.read _ _
  · split
    · exact w.write _ _
    · split
      · split
        · exact w.mark
        · exact w.more (by omega)
      · split
        · split
          · exact w.keep
          · exact w.more (by omega)
        · split
          · split
            · exact w.undo
            · exact w.more (by omega)
          · exact w.more (by omega)
theorem Wf.new : Wf {} 0 := ⟨fun _ h => by simp at h, fun _ h => by simp at h, fun _ h => by simp at h, by simp, fun _ h => by simp at h, by simp⟩
end
end Go.Lg.Try

namespace Go.Lg.Try
set_option linter.unusedVariables false
set_option linter.unusedSimpArgs false
open Go Go.Proofs
theorem aput_back {l : List (Int × Int)} {i x : Int} (v : Int) (h : alook l i = some x) : aputL (aputL l i v) i x = l := by
  induction l with
  | nil => simp [alook] at h
  | cons p l ih =>
    unfold alook at h
    by_cases c : p.1 = i
    · rw [if_pos c] at h
      obtain rfl := Option.some.inj h
      subst c
      simp [aputL]
    · rw [if_neg c] at h
      have := ih h
      simp [aputL, c, this]
theorem adel_back {l : List (Int × Int)} {i : Int} (v : Int) (h : alook l i = none) : adelL (aputL l i v) i = l := by
  induction l with
  | nil => simp [aputL, adelL]
  | cons p l ih =>
    unfold alook at h
    by_cases c : p.1 = i
    · rw [if_pos c] at h; simp at h
    · rw [if_neg c] at h
      have := ih h
      simp [aputL, adelL, c, this]
theorem back_put (l : List (Int × Int)) (i v : Int) : back (aputL l i v) (oldOf l i) = l := by
  unfold back oldOf
  cases h : alook l i with
  | none => simp only [aok, Option.isSome_none, Bool.not_false, if_true]; exact adel_back v h
  | some x => simp only [aok, Option.isSome_some, Bool.not_true, Bool.false_eq_true, if_false]; exact aput_back v h
theorem backs_append (w : List (Int × Int)) (a b : List Old) : backs w (a ++ b) = backs (backs w b) a := by
  unfold backs; rw [List.reverse_append, List.foldl_append]
theorem backs_one (w : List (Int × Int)) (o : Old) : backs w [o] = back w o := rfl
/-- the marks from one on, and what taking back to it leaves -/
structure Jv (σ : St) (D n : Nat) (w0 : List (Int × Int)) : Prop where
  dl : D < σ.marks.length
  at_ : σ.marks[D]? = some (n : Int)
  ge : ∀ j x, D ≤ j → σ.marks[j]? = some x → (n : Int) ≤ x ∧ x ≤ (σ.past.length : Nat)
  bk : backs σ.writes (σ.past.drop n) = w0
namespace Jv
variable {σ : St} {D n : Nat} {w0 : List (Int × Int)}
theorem pn (j : Jv σ D n w0) : n ≤ σ.past.length := by have := (j.ge D n (Nat.le_refl _) j.at_).2; omega
theorem read (j : Jv σ D n w0) (i v : Int) : Jv (σ.read i v).2 D n w0 := ⟨j.dl, j.at_, j.ge, j.bk⟩
theorem write (j : Jv σ D n w0) (i v : Int) : Jv (σ.write i v).2 D n w0 := by
  have hn := j.pn
  unfold St.write
  split
  · exact j
  · split
    · exact j
    · have hm : ¬σ.marks.length = 0 := by have := j.dl; omega
      simp only [hm, if_false]
      refine ⟨j.dl, j.at_, fun k x hk hx => ?_, ?_⟩
      · have := j.ge k x hk hx
        simp only [List.length_append, List.length_singleton]
        omega
      · show backs (aputL σ.writes i v) ((σ.past ++ [oldOf σ.writes i]).drop n) = w0
        rw [List.drop_append_of_le_length hn, backs_append, backs_one, back_put]
        exact j.bk
theorem mark (j : Jv σ D n w0) : Jv σ.mark.2 D n w0 := by
  have hn := j.pn
  unfold St.mark
  split
  · exact j
  · have hd := j.dl
    refine ⟨by simp only [List.length_append]; omega, ?_, fun k x hk hx => ?_, j.bk⟩
    · show (σ.marks ++ [_])[D]? = _
      rw [List.getElem?_append_left hd]; exact j.at_
    · simp only at hx ⊢
      by_cases c : k < σ.marks.length
      · rw [List.getElem?_append_left c] at hx; exact j.ge k x hk hx
      · rw [List.getElem?_append_right (by omega)] at hx
        have hk0 : k - σ.marks.length = 0 := by
          by_cases e : k - σ.marks.length = 0
          · exact e
          · rw [List.getElem?_eq_none (by simp; omega)] at hx; simp at hx
        rw [hk0] at hx
        obtain rfl : ((σ.past.length : Nat) : Int) = x := by simpa using hx
        omega
theorem keep (j : Jv σ D n w0) (h : D + 1 < σ.marks.length) : Jv σ.keep.2 D n w0 := by
  unfold St.keep St.last
  have h0 : ¬σ.marks.length = 0 := by omega
  have h1 : ¬σ.marks.length = 1 := by omega
  simp only [h0, h1, if_false]
  refine ⟨by simp only [List.length_take]; omega, ?_, fun k x hk hx => ?_, j.bk⟩
  · show (σ.marks.take _)[D]? = _
    rw [List.getElem?_take_of_lt (by omega)]; exact j.at_
  · simp only at hx
    have hk1 : k < σ.marks.length - 1 := by have := (List.getElem?_eq_some_iff.mp hx).1; rw [List.length_take] at this; omega
    rw [List.getElem?_take_of_lt hk1] at hx
    exact j.ge k x hk hx
/-- the marks between are in order -/
theorem undo (j : Jv σ D n w0) (h : D + 1 < σ.marks.length) (hs : ∀ (k m : Nat) (x y : Int), k ≤ m → σ.marks[k]? = some x → σ.marks[m]? = some y → x ≤ y) : Jv σ.undo.2 D n w0 := by
  unfold St.undo St.last
  have h0 : ¬σ.marks.length = 0 := by omega
  simp only [h0, if_false]
  obtain ⟨x, hx⟩ : ∃ x, σ.marks[σ.marks.length - 1]? = some x := ⟨_, List.getElem?_eq_getElem (by omega)⟩
  have hr := j.ge _ x (by omega) hx
  rw [hx, Option.getD_some]
  obtain ⟨k, rfl⟩ : ∃ k : Nat, x = k := ⟨x.toNat, by omega⟩
  rw [Int.toNat_natCast]
  refine ⟨by simp only [List.length_take]; omega, ?_, fun m y hm hy => ?_, ?_⟩
  · show (σ.marks.take _)[D]? = _
    rw [List.getElem?_take_of_lt (by omega)]; exact j.at_
  · simp only at hy ⊢
    have hk1 : m < σ.marks.length - 1 := by have := (List.getElem?_eq_some_iff.mp hy).1; rw [List.length_take] at this; omega
    rw [List.getElem?_take_of_lt hk1] at hy
    have h3 := j.ge m y hm hy
    have h4 := hs m (σ.marks.length - 1) y k (by omega) hy hx
    rw [List.length_take]
    omega
  · show backs (backs σ.writes (σ.past.drop k)) ((σ.past.take k).drop n) = w0
    rw [← backs_append, ← j.bk]
    congr 1
    have : σ.past.drop n = (σ.past.take k ++ σ.past.drop k).drop n := by rw [List.take_append_drop]
    rw [this, List.drop_append_of_le_length (by rw [List.length_take]; omega)]
end Jv
/-- the marks are in order -/
structure Mo (σ : St) : Prop where
  s : ∀ (k m : Nat) (x y : Int), k ≤ m → σ.marks[k]? = some x → σ.marks[m]? = some y → x ≤ y
  b : ∀ x ∈ σ.marks, x ≤ (σ.past.length : Nat)
namespace Mo
variable {σ : St}
theorem new : Mo {} := ⟨fun _ _ _ _ _ h => by simp at h, fun _ h => by simp at h⟩
theorem read (o : Mo σ) (i v : Int) : Mo (σ.read i v).2 := ⟨o.s, o.b⟩
theorem write (o : Mo σ) (i v : Int) : Mo (σ.write i v).2 := by
  unfold St.write
  split
  · exact o
  · split
    · exact o
    · refine ⟨o.s, fun x hx => ?_⟩
      have := o.b x hx
      simp only
      split
      · exact this
      · rw [List.length_append, List.length_singleton]; omega
theorem mark (o : Mo σ) : Mo σ.mark.2 := by
  unfold St.mark
  split
  · exact o
  · have last : ∀ (m : Nat) (y : Int), (σ.marks ++ [((σ.past.length : Nat) : Int)])[m]? = some y → m < σ.marks.length ∧ σ.marks[m]? = some y ∨ m = σ.marks.length ∧ y = (σ.past.length : Nat) := by
      intro m y hy
      by_cases c : m < σ.marks.length
      · rw [List.getElem?_append_left c] at hy; exact .inl ⟨c, hy⟩
      · rw [List.getElem?_append_right (by omega)] at hy
        have hk0 : m - σ.marks.length = 0 := by
          by_cases e : m - σ.marks.length = 0
          · exact e
          · rw [List.getElem?_eq_none (by simp; omega)] at hy; simp at hy
        rw [hk0] at hy
        exact .inr ⟨by omega, by simpa using hy.symm⟩
    refine ⟨fun k m x y hkm hx hy => ?_, fun x hx => ?_⟩
    · rcases last m y hy with ⟨h1, h2⟩ | ⟨h1, h2⟩
      · rcases last k x hx with ⟨g1, g2⟩ | ⟨g1, g2⟩
        · exact o.s k m x y hkm g2 h2
        · omega
      · rcases last k x hx with ⟨g1, g2⟩ | ⟨g1, g2⟩
        · rw [h2]; exact o.b x (List.mem_of_getElem? g2)
        · omega
    · rcases List.mem_append.mp hx with hx | hx
      · exact o.b x hx
      · obtain rfl : x = ((σ.past.length : Nat) : Int) := by simpa using hx
        exact Int.le_refl _
theorem sub (o : Mo σ) {k : Nat} {P : List Old} {w : List (Int × Int)} (h : ∀ x ∈ σ.marks.take k, x ≤ (P.length : Nat)) : Mo { σ with writes := w, past := P, marks := σ.marks.take k } := by
  refine ⟨fun a b x y hab hx hy => ?_, h⟩
  simp only at hx hy
  have h1 : a < k := by have := (List.getElem?_eq_some_iff.mp hx).1; rw [List.length_take] at this; omega
  have h2 : b < k := by have := (List.getElem?_eq_some_iff.mp hy).1; rw [List.length_take] at this; omega
  rw [List.getElem?_take_of_lt h1] at hx
  rw [List.getElem?_take_of_lt h2] at hy
  exact o.s a b x y hab hx hy
theorem keep (o : Mo σ) : Mo σ.keep.2 := by
  unfold St.keep St.last
  split
  · exact o
  · rename_i c
    simp only [c, if_false]
    refine o.sub (fun x hx => ?_)
    split
    · rename_i d
      rw [d] at hx; simp at hx
    · exact o.b x (List.mem_of_mem_take hx)
theorem undo (o : Mo σ) (h0 : ∀ x ∈ σ.marks, 0 ≤ x) : Mo σ.undo.2 := by
  unfold St.undo St.last
  split
  · exact o
  · rename_i c
    simp only [c, if_false]
    obtain ⟨y, hy⟩ : ∃ y, σ.marks[σ.marks.length - 1]? = some y := ⟨_, List.getElem?_eq_getElem (by omega)⟩
    refine o.sub (fun x hx => ?_)
    rw [hy, Option.getD_some, List.length_take]
    have hyb := o.b y (List.mem_of_getElem? hy)
    have hy0 := h0 y (List.mem_of_getElem? hy)
    obtain ⟨k, hk⟩ := List.getElem?_of_mem (List.mem_of_mem_take hx)
    have hkl := (List.getElem?_eq_some_iff.mp hk).1
    have := o.s k (σ.marks.length - 1) x y (by omega) hk hy
    omega
theorem step (o : Mo σ) {N : Nat} (w : Wf σ N) (b : Bool) (x : SOp) : Mo (pstep b σ x) := by
  unfold pstep
  split
  · exact o.read _ _
  · split
    · exact o.write _ _
    · split
      · split
        · exact o.mark
        · exact o
      · split
        · split
          · exact o.keep
          · exact o
        · split
          · split
            · exact o.undo w.m0
            · exact o
          · exact o
end Mo
end Go.Lg.Try
