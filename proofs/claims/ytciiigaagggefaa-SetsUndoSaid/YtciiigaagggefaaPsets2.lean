/- Sets[int]: what turns them, and the walks of Write, Mark, Keep, Undo, New. -/
import Derived.Test.YtciiigaagggefaaPsets
namespace Go.Lg.Try
set_option linter.unusedVariables false
set_option linter.unusedSimpArgs false
open Go Go.Proofs
/-- what a call on the sets may change -/
structure Mv (s : Nat) (A A' : SA) (h h' : AH) : Prop where
  n : h.n ≤ h'.n
  g : ∀ b, b < h.n → ¬ own s A b → h'.get b = h.get b
  o : ∀ b, own s A' b → own s A b ∨ h.n ≤ b
theorem Mv.refl (s : Nat) (A : SA) (h : AH) : Mv s A A h h := ⟨Nat.le_refl _, fun _ _ _ => rfl, fun _ hb => .inl hb⟩
theorem Mv.trans {s : Nat} {A B D : SA} {h h1 h2 : AH} (a : Mv s A B h h1) (b : Mv s B D h1 h2) : Mv s A D h h2 :=
  ⟨Nat.le_trans a.n b.n, fun x hx hn => (b.g x (Nat.lt_of_lt_of_le hx a.n) fun ho => (a.o x ho).elim hn fun hl => by omega).trans (a.g x hx hn), fun x hx => (b.o x hx).elim (a.o x) fun hl => .inr (Nat.le_trans a.n hl)⟩
theorem Mv.of {s : Nat} {A A' : SA} {h h' : AH} (hf : Fr [] h h') (ho : ∀ b, own s A' b → own s A b ∨ h.n ≤ b) : Mv s A A' h h' := ⟨hf.n, fun b hb _ => hf.g b hb (by simp), ho⟩
theorem Mv.fr {s : Nat} {A : SA} {h h' : AH} (hf : Fr [] h h') : Mv s A A h h' := .of hf fun _ hb => .inl hb
theorem Mv.one {s : Nat} {A : SA} {h h' : AH} {r : Nat} (hr : own s A r) (hn : h'.n = h.n) (hg : ∀ b, b ≠ r → h'.get b = h.get b) : Mv s A A h h' :=
  ⟨by omega, fun b _ hb => hg b fun e => hb (e ▸ hr), fun _ hb => .inl hb⟩
theorem st2 {h : AH} {s : Nat} {x y z v w : Value} (g : h.get s = some (.cells [x, y, z, w] false false 4)) : ∃ h', h.st s (0 + 2) [v] = some h' ∧ h'.get s = some (.cells [x, y, v, w] false false 4) ∧ h'.n = h.n ∧ ∀ b, b ≠ s → h'.get b = h.get b :=
  ⟨_, AH.st_of g (by simp), AH.get_set_eq _ _ _, rfl, fun b hb => AH.get_set_ne _ hb⟩
theorem st3 {h : AH} {s : Nat} {x y z v w : Value} (g : h.get s = some (.cells [x, y, z, w] false false 4)) : ∃ h', h.st s (0 + 3) [v] = some h' ∧ h'.get s = some (.cells [x, y, z, v] false false 4) ∧ h'.n = h.n ∧ ∀ b, b ≠ s → h'.get b = h.get b :=
  ⟨_, AH.st_of g (by simp), AH.get_set_eq _ _ _, rfl, fun b hb => AH.get_set_ne _ hb⟩
section
variable {h h' : AH} {s : Nat} {A : SA} {reads writes : List (Int × Int)} {past : List Old} {marks : List Int}
theorem SR.pushP (hs : SR h s A reads writes past marks) (x : Old) (hl : past.length < 1000000) : ∃ a' h2 h3, appE 3 24 (.slice A.pa A.pn A.pc) (.slice (some ⟨h.n, 0, none⟩) 1 1) (h.push (.cells (encOld x) false false 3)) = some (.slice a' (A.pn + 1) opn, h2) ∧
    h2.st s (0 + 2) [.slice a' (A.pn + 1) opn] = some h3 ∧ SR h3 s { A with pa := a', pn := A.pn + 1, pc := opn } reads writes (past ++ [x]) marks ∧ Mv s A { A with pa := a', pn := A.pn + 1, pc := opn } h h3 := by
  have hf1 : Fr [] h (h.push (.cells (encOld x) false false 3)) := Fr.push _ _ _
  have hs1 := hs.fr hf1
  have hpl := hs.plen
  obtain ⟨a', h2, e1, e2, e3, e4, e5⟩ := hs1.po.app (by_ := 24) (newCells_one (c := 1) (AH.get_push_eq h (.cells (encOld x) false false 3)) rfl) rfl (by decide) (by omega) (by omega)
  have nb : ∀ b, b < h.n → ¬ blk A.pa b → ¬ blk a' b := fun b hb hn hp => (e5 b hp).elim hn fun hl => by rw [AH.n_push] at hl; omega
  have hg2 : ∀ b, b < h.n → ¬ blk A.pa b → h2.get b = (h.push (.cells (encOld x) false false 3)).get b := fun b hb hn => e4 b (by rw [AH.n_push]; omega) hn
  obtain ⟨h3, f1, f2, f3, f4⟩ := st2 (v := .slice a' (A.pn + 1) opn) (by rw [hg2 s hs.sn hs.p1]; exact hs1.g)
  have hn2 : h.n ≤ h2.n := Nat.le_trans (Nat.le_succ _) e3
  have hn3 : h.n ≤ h3.n := by omega
  have hn4 : (h.push (.cells (encOld x) false false 3)).n ≤ h3.n := by rw [f3]; exact e3
  have gg : ∀ b, b < h.n → ¬ blk A.pa b → b ≠ s → h3.get b = (h.push (.cells (encOld x) false false 3)).get b := fun b hb hn hne => (f4 b hne).trans (hg2 b hb hn)
  refine ⟨a', h2, h3, e1, f1, ⟨f2, hs1.r.same (gg _ hs.r.lt hs.p2 (Ne.symm hs.d1)) hn4, hs1.w.same (gg _ hs.w.lt hs.p3 (Ne.symm hs.d2)) hn4, ?_, ?_, Nat.lt_of_lt_of_le hs.sn hn3, hs.d1, hs.d2, hs.d3, nb _ hs.sn hs.p1, nb _ hs.r.lt hs.p2, nb _ hs.w.lt hs.p3, hs.m1, hs.m2, hs.m3, fun b hb hm => ?_⟩, ⟨hn3, fun b hb ho => ?_, fun b ho => ?_⟩⟩
  · have : (past ++ [x]).flatMap encOld = past.flatMap encOld ++ encOld x := by simp
    rw [this]
    exact e2.same (fun b hb hk => f4 b fun e => nb _ hs.sn hs.p1 (e ▸ hk)) (by omega)
  · exact hs1.mo.same (fun b hb hk => gg b (hs.mo.lt b hk) (fun hp => hs.pm b hp hk) fun e => hs.m1 (e ▸ hk)) hn4
  · have hbm := hs.mo.lt b hm
    exact nb b hbm (fun hp => hs.pm b hp hm) hb
  · rw [gg b hb (fun hp => ho (.inr (.inr (.inr (.inl hp))))) (fun e => ho (.inl e)), AH.get_push_ne _ (by omega)]
  · rcases ho with ho | ho | ho | ho | ho
    · exact .inl (.inl ho)
    · exact .inl (.inr (.inl ho))
    · exact .inl (.inr (.inr (.inl ho)))
    · exact (e5 b ho).elim (fun h => .inl (.inr (.inr (.inr (.inl h))))) fun h => .inr (by rw [AH.n_push] at h; omega)
    · exact .inl (.inr (.inr (.inr (.inr ho))))
theorem SR.pushM (hs : SR h s A reads writes past marks) (x : Int) (hl : marks.length < 1000000) : ∃ a' h2 h3, appE 1 8 (.slice A.ma A.mn A.mc) (.slice (some ⟨h.n, 0, none⟩) 1 1) (h.push (.cells (encI x) false false 1)) = some (.slice a' (A.mn + 1) opn, h2) ∧
    h2.st s (0 + 3) [.slice a' (A.mn + 1) opn] = some h3 ∧ SR h3 s { A with ma := a', mn := A.mn + 1, mc := opn } reads writes past (marks ++ [x]) ∧ Mv s A { A with ma := a', mn := A.mn + 1, mc := opn } h h3 := by
  have hf1 : Fr [] h (h.push (.cells (encI x) false false 1)) := Fr.push _ _ _
  have hs1 := hs.fr hf1
  have hml := hs.mlen
  obtain ⟨a', h2, e1, e2, e3, e4, e5⟩ := hs1.mo.app (by_ := 8) (newCells_one (c := 1) (AH.get_push_eq h (.cells (encI x) false false 1)) rfl) rfl (by decide) (by omega) (by omega)
  have nb : ∀ b, b < h.n → ¬ blk A.ma b → ¬ blk a' b := fun b hb hn hp => (e5 b hp).elim hn fun hl => by rw [AH.n_push] at hl; omega
  have hg2 : ∀ b, b < h.n → ¬ blk A.ma b → h2.get b = (h.push (.cells (encI x) false false 1)).get b := fun b hb hn => e4 b (by rw [AH.n_push]; omega) hn
  obtain ⟨h3, f1, f2, f3, f4⟩ := st3 (v := .slice a' (A.mn + 1) opn) (by rw [hg2 s hs.sn hs.m1]; exact hs1.g)
  have hn2 : h.n ≤ h2.n := Nat.le_trans (Nat.le_succ _) e3
  have hn3 : h.n ≤ h3.n := by omega
  have hn4 : (h.push (.cells (encI x) false false 1)).n ≤ h3.n := by rw [f3]; exact e3
  have gg : ∀ b, b < h.n → ¬ blk A.ma b → b ≠ s → h3.get b = (h.push (.cells (encI x) false false 1)).get b := fun b hb hn hne => (f4 b hne).trans (hg2 b hb hn)
  refine ⟨a', h2, h3, e1, f1, ⟨f2, hs1.r.same (gg _ hs.r.lt hs.m2 (Ne.symm hs.d1)) hn4, hs1.w.same (gg _ hs.w.lt hs.m3 (Ne.symm hs.d2)) hn4, ?_, ?_, Nat.lt_of_lt_of_le hs.sn hn3, hs.d1, hs.d2, hs.d3, hs.p1, hs.p2, hs.p3, nb _ hs.sn hs.m1, nb _ hs.r.lt hs.m2, nb _ hs.w.lt hs.m3, fun b hb hm => ?_⟩, ⟨hn3, fun b hb ho => ?_, fun b ho => ?_⟩⟩
  · exact hs1.po.same (fun b hb hk => gg b (hs.po.lt b hk) (fun hp => hs.pm b hk hp) fun e => hs.p1 (e ▸ hk)) hn4
  · have : (marks ++ [x]).flatMap encI = marks.flatMap encI ++ encI x := by simp
    rw [this]
    exact e2.same (fun b hb hk => f4 b fun e => nb _ hs.sn hs.m1 (e ▸ hk)) (by omega)
  · have hbm := hs.po.lt b hb
    exact nb b hbm (fun hp => hs.pm b hb hp) hm
  · rw [gg b hb (fun hp => ho (.inr (.inr (.inr (.inr hp))))) (fun e => ho (.inl e)), AH.get_push_ne _ (by omega)]
  · rcases ho with ho | ho | ho | ho | ho
    · exact .inl (.inl ho)
    · exact .inl (.inr (.inl ho))
    · exact .inl (.inr (.inr (.inl ho)))
    · exact .inl (.inr (.inr (.inr (.inl ho))))
    · exact (e5 b ho).elim (fun h => .inl (.inr (.inr (.inr (.inr h))))) fun h => .inr (by rw [AH.n_push] at h; omega)
/-- the past is cut -/
theorem SR.cutP (hs : SR h s A reads writes past marks) {k : Nat} (hk : k ≤ past.length) {i : Int} (hi : i = k) : slcE 3 A.pa A.pn A.pc none (some (.int .i64 i)) none h = some (.slice A.pa k A.pc, h) ∧
    ∃ h3, h.st s (0 + 2) [.slice A.pa k A.pc] = some h3 ∧ SR h3 s { A with pn := k } reads writes (past.take k) marks ∧ h3.n = h.n ∧ ∀ b, b ≠ s → h3.get b = h.get b := by
  obtain ⟨e1, e2⟩ := hs.po.cut (by decide) (k := k) (by rw [hs.plen]; exact hk) hi
  obtain ⟨h3, f1, f2, f3, f4⟩ := st2 (v := .slice A.pa k A.pc) hs.g
  have hn : h.n ≤ h3.n := by omega
  refine ⟨e1, h3, f1, ⟨f2, hs.r.same (f4 _ (Ne.symm hs.d1)) hn, hs.w.same (f4 _ (Ne.symm hs.d2)) hn, ?_, hs.mo.same (fun b _ hb => f4 b fun e => hs.m1 (e ▸ hb)) hn, by rw [f3]; exact hs.sn, hs.d1, hs.d2, hs.d3, hs.p1, hs.p2, hs.p3, hs.m1, hs.m2, hs.m3, hs.pm⟩, f3, f4⟩
  have : (past.take k).flatMap encOld = (past.flatMap encOld).take (k * 3) := by
    rw [← List.take_append_drop k past, List.flatMap_append, List.take_append_drop, List.take_left' (by rw [flat_len encOld_len, List.length_take]; omega)]
  rw [this]
  exact e2.same (fun b _ hb => f4 b fun e => hs.p1 (e ▸ hb)) hn
theorem SR.cutM (hs : SR h s A reads writes past marks) {k : Nat} (hk : k ≤ marks.length) {i : Int} (hi : i = k) : slcE 1 A.ma A.mn A.mc none (some (.int .i64 i)) none h = some (.slice A.ma k A.mc, h) ∧
    ∃ h3, h.st s (0 + 3) [.slice A.ma k A.mc] = some h3 ∧ SR h3 s { A with mn := k } reads writes past (marks.take k) ∧ h3.n = h.n ∧ ∀ b, b ≠ s → h3.get b = h.get b := by
  obtain ⟨e1, e2⟩ := hs.mo.cut (by decide) (k := k) (by rw [hs.mlen]; exact hk) hi
  obtain ⟨h3, f1, f2, f3, f4⟩ := st3 (v := .slice A.ma k A.mc) hs.g
  have hn : h.n ≤ h3.n := by omega
  refine ⟨e1, h3, f1, ⟨f2, hs.r.same (f4 _ (Ne.symm hs.d1)) hn, hs.w.same (f4 _ (Ne.symm hs.d2)) hn, hs.po.same (fun b _ hb => f4 b fun e => hs.p1 (e ▸ hb)) hn, ?_, by rw [f3]; exact hs.sn, hs.d1, hs.d2, hs.d3, hs.p1, hs.p2, hs.p3, hs.m1, hs.m2, hs.m3, hs.pm⟩, f3, f4⟩
  have : (marks.take k).flatMap encI = (marks.flatMap encI).take (k * 1) := by
    rw [← List.take_append_drop k marks, List.flatMap_append, List.take_append_drop, List.take_left' (by rw [flat_len encI_len, List.length_take]; omega)]
  rw [this]
  exact e2.same (fun b _ hb => f4 b fun e => hs.m1 (e ▸ hb)) hn
/-- no past -/
theorem SR.nilP (hs : SR h s A reads writes past marks) : ∃ h3, h.st s (0 + 2) [.slice none 0 0] = some h3 ∧ SR h3 s { A with pa := none, pn := 0, pc := 0 } reads writes [] marks ∧ Mv s A { A with pa := none, pn := 0, pc := 0 } h h3 := by
  obtain ⟨h3, f1, f2, f3, f4⟩ := st2 (v := .slice none 0 0) hs.g
  have hn : h.n ≤ h3.n := by omega
  refine ⟨h3, f1, ⟨f2, hs.r.same (f4 _ (Ne.symm hs.d1)) hn, hs.w.same (f4 _ (Ne.symm hs.d2)) hn, .nil, hs.mo.same (fun b _ hb => f4 b fun e => hs.m1 (e ▸ hb)) hn, by rw [f3]; exact hs.sn, hs.d1, hs.d2, hs.d3, fun h => h, fun h => h, fun h => h, hs.m1, hs.m2, hs.m3, fun b hb => hb.elim⟩, hn, fun b hb ho => f4 b fun e => ho (.inl e), fun b ho => .inl ?_⟩
  rcases ho with ho | ho | ho | ho | ho
  · exact .inl ho
  · exact .inr (.inl ho)
  · exact .inr (.inr (.inl ho))
  · exact ho.elim
  · exact .inr (.inr (.inr (.inr ho)))
end
end Go.Lg.Try
