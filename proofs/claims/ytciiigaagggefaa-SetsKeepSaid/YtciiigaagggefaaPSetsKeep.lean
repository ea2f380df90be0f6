/- SetsKeep: keeping a scope is the same as never having opened it. -/
import Derived.Test.YtciiigaagggefaaPsetsPlay
import Derived.Test.YtciiigaagggefaaPkitInts
import Derived.Test.YtciiigaagggefaaPokS
namespace Go.Lg.Try
set_option linter.unusedVariables false
set_option linter.unusedSimpArgs false
open Go Go.Proofs
namespace Keep
def Rel (σ τ : St) : Prop := σ.reads = τ.reads ∧ σ.writes = τ.writes
theorem Rel.step {σ τ : St} (h : Rel σ τ) (x : SOp) : Rel (pstep false σ x) (pstep false τ x) := by
  obtain ⟨h1, h2⟩ := h
  unfold pstep
  split
  · exact ⟨by simp only [St.read, h1], h2⟩
  · split
    · unfold St.write
      rw [h2]
      split
      · exact ⟨h1, h2⟩
      · split
        · exact ⟨h1, h2⟩
        · exact ⟨h1, rfl⟩
    · simp only [Bool.false_eq_true, if_false, ite_self]
      exact ⟨h1, h2⟩
theorem Rel.plays : ∀ (l : List SOp) {σ τ : St}, Rel σ τ → Rel (plays false σ l) (plays false τ l)
  | [], _, _, h => h
  | x :: l, _, _, h => Rel.plays l (h.step x)
theorem marks_step (σ : St) (x : SOp) : (pstep false σ x).marks = σ.marks := by
  unfold pstep
  split
  · rfl
  · split
    · unfold St.write
      split
      · rfl
      · split <;> rfl
    · simp only [Bool.false_eq_true, if_false, ite_self]
theorem marks_plays : ∀ (l : List SOp) (σ : St), (plays false σ l).marks = σ.marks
  | [], _ => rfl
  | x :: l, σ => (marks_plays l _).trans (marks_step σ x)
def Q : Value → AH → Prop := fun v _ => v = .bool true
section
variable {p q : Nat} {A B : SA} {σ τ : St} {a : Option Addr} {c35 : Nat} {ks : List Int}
theorem loop (hrel : σ.writes = τ.writes) (hk : ∀ i ∈ ks, i ∈ τ.writes.map Prod.fst) (hl : ks.length < 1000000) {h : AH} (hs : SQ h p A σ) (ht : SQ h q B τ) (hr : Rd h a (ks.flatMap encI)) :
    ∀ (n k : Nat), ks.length - k = n → k ≤ ks.length → Ok (law15_SetsKeep_L1 (some ⟨p, 0, none⟩) (some ⟨q, 0, none⟩) a ks.length c35 ((ks.length : Nat) : Int) k h) Q := by
  intro n
  induction n with
  | zero =>
    intro k hn hk'
    refine Ok.le ?_ law15_SetsKeep_L1_le
    refine Ok.le ?_ law15_SetsKeep_j4_le
    rw [dec_f (by omega), cond_f]
    refine Ok.le ?_ law15_SetsKeep_j1_le
    simp only [C_closed (f := k_law15_awake) rfl h, Option.bind_some, asB_b]
    exact Ok.some rfl
  | succ n ih =>
    intro k hn hk'
    have hkl : k < ks.length := by omega
    obtain ⟨x, hx⟩ : ∃ x, ks[k]? = some x := ⟨_, List.getElem?_eq_getElem hkl⟩
    obtain ⟨ad, rfl, r0⟩ := rd_int hr hx
    have hmem : x ∈ ks := List.mem_of_getElem? hx
    obtain ⟨v, hv⟩ := alook_mem.mpr (hk x hmem)
    refine Ok.le ?_ law15_SetsKeep_L1_le
    refine Ok.le ?_ law15_SetsKeep_j4_le
    rw [dec_t (by omega), cond_t]
    refine Ok.le ?_ law15_SetsKeep_j3_le
    simp only [Option.bind_some, inB_t (show (0 : Int) ≤ ((k : Nat) : Int) by omega) (show ((k : Nat) : Int) < ((ks.length : Nat) : Int) by omega), cond_t, Int.toNat_natCast, r0, set_value hs, set_value ht, asTu_t, hdO_c, asI_i64, asB_b, List.isEmpty_nil, hrel, hv, aok, Option.isSome_some, Bool.not_true, cond_f, decide_true]
    refine Ok.le ?_ law15_SetsKeep_j2_le
    have hwr : IntKind.wrap .i64 (((k : Nat) : Int) + 1) = ((k + 1 : Nat) : Int) := by rw [wrap64 (by omega) (by omega)]; omega
    rw [hwr]
    exact ih (k + 1) (by omega) (by omega)
end
theorem main (h : AH) {a1 : Option Addr} {l2 c3 : Nat} {ops : List SOp} (hs : SlIn h encSOp (fun _ => True) a1 l2 c3 ops) : Ok (C k_law15_SetsKeep [.slice a1 l2 c3] h) Q := by
  refine Ok.le ?_ law15_SetsKeep_le
  unfold F_law15_SetsKeep
  obtain ⟨h1, e1, s1, n1, f1⟩ := set_new h
  obtain ⟨h2, e2, t2, n2, f2⟩ := set_new h1
  simp only [e1, e2, Option.bind_some, asP_p, Option.isNone_some, cond_f]
  have s2 := s1.fr f2
  refine Ok.bind (set_mark s2 (by decide)) ?_
  rintro _ h3 ⟨rfl, A3, s3, m3⟩
  have em : St.mark {} = (0, { marks := [0] }) := rfl
  rw [em] at s3 ⊢
  simp only [asI_i64, Option.bind_some, decide_true, Bool.not_true, cond_f]
  refine Ok.le ?_ law15_SetsKeep_j6_le
  have hlt1 : ∀ b, blk a1 b → b < h.n := hs.lt
  have own1 : ∀ b, own (h.n + 2) ⟨h.n, h.n + 1, none, 0, 0, none, 0, 0⟩ b → h.n ≤ b ∧ b < h.n + 3 := fun b hb => by
    rcases hb with hb | hb | hb | hb | hb
    · omega
    · simp only at hb; omega
    · simp only at hb; omega
    · exact hb.elim
    · exact hb.elim
  have own2 : ∀ b, own (h1.n + 2) ⟨h1.n, h1.n + 1, none, 0, 0, none, 0, 0⟩ b → h.n + 3 ≤ b ∧ b < h2.n := fun b hb => by
    rcases hb with hb | hb | hb | hb | hb
    · omega
    · simp only at hb; omega
    · simp only at hb; omega
    · exact hb.elim
    · exact hb.elim
  have dis2 : ∀ b, own (h.n + 2) ⟨h.n, h.n + 1, none, 0, 0, none, 0, 0⟩ b → own (h1.n + 2) ⟨h1.n, h1.n + 1, none, 0, 0, none, 0, 0⟩ b → False := fun b x y => by have := own1 b x; have := own2 b y; omega
  have t3 := t2.same (h' := h3) (fun b hb ho => m3.g b hb fun ho' => dis2 b ho' ho) m3.n
  have dis3 : ∀ b, own (h.n + 2) A3 b → own (h1.n + 2) ⟨h1.n, h1.n + 1, none, 0, 0, none, 0, 0⟩ b → False := fun b x y => (m3.o b x).elim (fun z => dis2 b z y) fun z => by have := own2 b y; omega
  have far3 : ∀ b, own (h.n + 2) A3 b → h.n ≤ b := fun b x => (m3.o b x).elim (fun z => (own1 b z).1) fun z => by omega
  have r3 : Rd h3 a1 (ops.flatMap encSOp) := Rd.same ((hs.rd.fr f1 (by simp)).fr f2 (by simp)) (fun b hb hbl => m3.g b hb fun ho => by have := hs.lt b hbl; have := own1 b ho; omega) m3.n
  have w3 : Wf { marks := [0] } 2 := Wf.new.mark
  refine Ok.bind (play_ok hs.len s3 w3 (by decide) r3 (fun b hb ho => by have := far3 b ho; have := hs.lt b hb; omega) (fun b hb => by have := hs.lt b hb; have := m3.n; omega)) ?_
  rintro _ h4 ⟨rfl, A4, s4, m4⟩
  simp only [asTu_t, Option.bind_some, List.isEmpty_nil, cond_t]
  have t4 := t3.same (h' := h4) (fun b hb ho => m4.g b hb fun ho' => dis3 b ho' ho) m4.n
  have dis4 : ∀ b, own (h.n + 2) A4 b → own (h1.n + 2) ⟨h1.n, h1.n + 1, none, 0, 0, none, 0, 0⟩ b → False := fun b x y => (m4.o b x).elim (fun z => dis3 b z y) fun z => by have := own2 b y; have := m3.n; omega
  have r4 : Rd h4 a1 (ops.flatMap encSOp) := Rd.same r3 (fun b hb hbl => m4.g b hb fun ho => by have := hs.lt b hbl; have := far3 b ho; omega) m4.n
  refine Ok.bind (play_ok hs.len t4 Wf.new (by decide) r4 (fun b hb ho => by have := (own2 b ho).1; have := hs.lt b hb; omega) (fun b hb => by have := hs.lt b hb; have := m3.n; have := m4.n; omega)) ?_
  rintro _ h5 ⟨rfl, B5, t5, m5⟩
  simp only [asTu_t, Option.bind_some, List.isEmpty_nil, cond_t]
  have s5 := s4.same (h' := h5) (fun b hb ho => m5.g b hb fun ho' => dis4 b ho ho') m5.n
  have dis5 : ∀ b, own (h.n + 2) A4 b → own (h1.n + 2) B5 b → False := fun b x y => (m5.o b y).elim (fun z => dis4 b x z) fun z => by have := s4.lt b x; omega
  have hrel : Rel (plays false { marks := [0] } (ops.take 200)) (plays false {} (ops.take 200)) := Rel.plays _ ⟨rfl, rfl⟩
  have hmk : (plays false { marks := [0] } (ops.take 200)).marks = [0] := marks_plays _ _
  have w4 := w3.plays false (ops.take 200)
  have w5 := Wf.new.plays false (ops.take 200)
  have hl200 : (ops.take 200).length ≤ 200 := by rw [List.length_take]; omega
  generalize plays false { marks := [0] } (ops.take 200) = σ at s5 hrel hmk w4
  generalize plays false {} (ops.take 200) = τ at t5 hrel w5
  refine Ok.bind (set_keep s5 w4.ml) ?_
  rintro _ h6 ⟨rfl, A6, s6, m6⟩
  have hml : σ.marks.length = 1 := by rw [hmk]; rfl
  have ek1 : σ.keep.1 = 0 := by simp only [St.keep, hml]; rfl
  have ek2 : σ.keep.2.reads = σ.reads ∧ σ.keep.2.writes = σ.writes := by simp only [St.keep, hml, St.last]; exact ⟨rfl, rfl⟩
  have t6 := t5.same (h' := h6) (fun b hb ho => m6.g b hb fun ho' => dis5 b ho' ho) m6.n
  rw [ek1]
  simp only [asI_i64, Option.bind_some, decide_true, Bool.not_true, cond_f]
  have w6 := w4.keep
  generalize σ.keep.2 = σ' at s6 ek2 w6
  have hR : σ'.reads = τ.reads := ek2.1.trans hrel.1
  have hW : σ'.writes = τ.writes := ek2.2.trans hrel.2
  have z5 := w5.sz
  refine Ok.bind (set_writes s6 (wk_of w6.wk) (by rw [hW]; omega)) ?_
  rintro _ h7 ⟨a7, c7, rfl, F7⟩
  simp only [asS_s, Option.bind_some]
  have s7 := s6.fr F7.f
  have t7 := t6.fr F7.f
  refine Ok.bind (set_writes t7 (wk_of w5.wk) (by omega)) ?_
  rintro _ h8 ⟨a8, c8, rfl, F8⟩
  simp only [asS_s, Option.bind_some]
  have s8 := s7.fr F8.f
  have t8 := t7.fr F8.f
  have ls := sortI_len (τ.writes.map Prod.fst)
  rw [List.length_map] at ls
  rw [hW] at F7 ⊢
  rw [sameInts_eq c7 c8 (F7.o.rd.fr F8.f (by simp)) F8.o.rd F7.e F8.e (by omega)]
  simp only [asB_b, Option.bind_some, decide_true, Bool.not_true, cond_f]
  refine Ok.bind (set_reads s8 (wk_of w6.rk) (by rw [hR]; omega)) ?_
  rintro _ h9 ⟨a9, c9, rfl, F9⟩
  simp only [asS_s, Option.bind_some]
  have s9 := s8.fr F9.f
  have t9 := t8.fr F9.f
  refine Ok.bind (set_reads t9 (wk_of w5.rk) (by omega)) ?_
  rintro _ h10 ⟨a10, c10, rfl, F10⟩
  simp only [asS_s, Option.bind_some]
  have s10 := s9.fr F10.f
  have t10 := t9.fr F10.f
  have lr := sortI_len (τ.reads.map Prod.fst)
  rw [List.length_map] at lr
  rw [hR] at F9 ⊢
  rw [sameInts_eq c9 c10 (F9.o.rd.fr F10.f (by simp)) F10.o.rd F9.e F10.e (by omega)]
  simp only [asB_b, Option.bind_some, decide_true, Bool.not_true, cond_f]
  refine Ok.le ?_ law15_SetsKeep_j5_le
  refine Ok.bind (set_writes s10 (wk_of w6.wk) (by rw [hW]; omega)) ?_
  rintro _ h11 ⟨a11, c11, rfl, F11⟩
  simp only [asS_s, Option.bind_some]
  rw [hW] at F11 ⊢
  have := loop (p := h.n + 2) (q := h1.n + 2) (c35 := c11) hW (ks := sortI (τ.writes.map Prod.fst)) (fun i hi => sortI_mem.mp hi) (by omega) (s10.fr F11.f) (t10.fr F11.f) F11.o.rd _ 0 rfl (by omega)
  rw [ls] at this
  exact this
end Keep
end Go.Lg.Try
