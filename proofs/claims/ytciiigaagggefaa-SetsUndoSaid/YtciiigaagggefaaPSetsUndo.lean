/- SetsUndo: undoing a scope takes back exactly what was written in it; what was read stays known. -/
import Derived.Test.YtciiigaagggefaaPsetsJ
import Derived.Test.YtciiigaagggefaaPkitInts
import Derived.Test.YtciiigaagggefaaPokS
namespace Go.Lg.Try
set_option linter.unusedVariables false
set_option linter.unusedSimpArgs false
open Go Go.Proofs
namespace Undo
def Q : Value → AH → Prop := fun v _ => v = .bool true
/-- what lies beside the sets, to be read -/
def Kept (h : AH) (s : Nat) (A : SA) (L : List (Option Addr × List Value)) : Prop := ∀ p ∈ L, Rd h p.1 p.2 ∧ ∀ b, blk p.1 b → ¬ own s A b ∧ b < h.n
theorem Kept.mv {h h' : AH} {s : Nat} {A A' : SA} {L : List (Option Addr × List Value)} (k : Kept h s A L) (m : Mv s A A' h h') : Kept h' s A' L := fun p hp =>
  ⟨Rd.same (k p hp).1 (fun b hb hbl => m.g b hb ((k p hp).2 b hbl).1) m.n, fun b hb => ⟨fun ho => (m.o b ho).elim ((k p hp).2 b hb).1 fun hl => by have := ((k p hp).2 b hb).2; omega, Nat.lt_of_lt_of_le ((k p hp).2 b hb).2 m.n⟩⟩
theorem Kept.fr {h h' : AH} {s : Nat} {A : SA} {L : List (Option Addr × List Value)} (k : Kept h s A L) (f : Fr [] h h') : Kept h' s A L := k.mv (.fr f)
theorem Kept.cons {h : AH} {s : Nat} {A : SA} {L : List (Option Addr × List Value)} {p : Option Addr × List Value} (h1 : Rd h p.1 p.2) (h2 : ∀ b, blk p.1 b → ¬ own s A b ∧ b < h.n) (k : Kept h s A L) : Kept h s A (p :: L) := fun q hq => by
  rcases List.mem_cons.mp hq with rfl | hq
  · exact ⟨h1, h2⟩
  · exact k q hq
/-- the reads stay known -/
def Sub (rs : List Int) (σ : St) : Prop := ∀ i ∈ rs, i ∈ σ.reads.map Prod.fst
theorem Sub.step {rs : List Int} {σ : St} (h : Sub rs σ) (b : Bool) (x : SOp) : Sub rs (pstep b σ x) := by
  have hk : ∀ τ : St, τ.reads = σ.reads → Sub rs τ := fun τ e i hi => by rw [e]; exact h i hi
  unfold pstep
  split
  · unfold St.read readM
    split
    · exact h
    · split
      · exact h
      · split
        · split <;> exact h
        · split
          · exact h
          · intro i hi
            show i ∈ (aputL σ.reads _ _).map Prod.fst
            rw [keys_put]
            split
            · exact h i hi
            · exact List.mem_append_left _ (h i hi)
  · split
    · refine hk _ ?_
      unfold St.write
      split
      · rfl
      · split <;> rfl
    · split
      · split
        · refine hk _ ?_
          unfold St.mark
          split <;> rfl
        · exact h
      · split
        · split
          · refine hk _ ?_
            unfold St.keep St.last
            split <;> rfl
          · exact h
        · split
          · split
            · refine hk _ ?_
              unfold St.undo St.last
              split <;> rfl
            · exact h
          · exact h
theorem Sub.keep {rs : List Int} {σ : St} (h : Sub rs σ) : Sub rs σ.keep.2 := by
  have : σ.keep.2.reads = σ.reads := by unfold St.keep St.last; split <;> rfl
  intro i hi; rw [this]; exact h i hi
theorem Sub.undo {rs : List Int} {σ : St} (h : Sub rs σ) : Sub rs σ.undo.2 := by
  have : σ.undo.2.reads = σ.reads := by unfold St.undo St.last; split <;> rfl
  intro i hi; rw [this]; exact h i hi
section
variable {p : Nat} {a4 a29 a32 a35 : Option Addr} {l5 c6 c31 c34 c37 : Nat} {ops : List SOp} {ks rs : List Int} {w0 : List (Int × Int)} {D n0 : Nat}
theorem loop1 {A : SA} {σ : St} {h : AH} (hs : SQ h p A σ) (hsub : Sub rs σ) (hr : Rd h a32 (rs.flatMap encI)) (hl : rs.length < 1000000) :
    ∀ (n k : Nat), rs.length - k = n → k ≤ rs.length → Ok (law15_SetsUndo_L1 a32 rs.length (some ⟨p, 0, none⟩) c34 ((rs.length : Nat) : Int) k h) Q := by
  intro n
  induction n with
  | zero =>
    intro k hn hk'
    refine Ok.le ?_ law15_SetsUndo_L1_le
    refine Ok.le ?_ law15_SetsUndo_j4_le
    rw [dec_f (by omega), cond_f]
    refine Ok.le ?_ law15_SetsUndo_j1_le
    simp only [C_closed (f := k_law15_awake) rfl h, Option.bind_some, asB_b]
    exact Ok.some rfl
  | succ n ih =>
    intro k hn hk'
    have hkl : k < rs.length := by omega
    obtain ⟨x, hx⟩ : ∃ x, rs[k]? = some x := ⟨_, List.getElem?_eq_getElem hkl⟩
    obtain ⟨ad, rfl, r0⟩ := rd_int hr hx
    obtain ⟨v, hv⟩ := alook_mem.mpr (hsub x (List.mem_of_getElem? hx))
    refine Ok.le ?_ law15_SetsUndo_L1_le
    refine Ok.le ?_ law15_SetsUndo_j4_le
    rw [dec_t (by omega), cond_t]
    refine Ok.le ?_ law15_SetsUndo_j3_le
    simp only [Option.bind_some, inB_t (show (0 : Int) ≤ ((k : Nat) : Int) by omega) (show ((k : Nat) : Int) < ((rs.length : Nat) : Int) by omega), cond_t, Int.toNat_natCast, r0, set_seen hs, asTu_t, hdO_c, asI_i64, asB_b, List.isEmpty_nil, hv, aok, Option.isSome_some, Bool.not_true, cond_f]
    refine Ok.le ?_ law15_SetsUndo_j2_le
    have hwr : IntKind.wrap .i64 (((k : Nat) : Int) + 1) = ((k + 1 : Nat) : Int) := by rw [wrap64 (by omega) (by omega)]; omega
    rw [hwr]
    exact ih (k + 1) (by omega) (by omega)
def valsOf (w : List (Int × Int)) (ks : List Int) : List Int := ks.map fun i => aval (alook w i)
theorem loop2 {A : SA} {σ : St} {h : AH} (hs : SQ h p A σ) (hsub : Sub rs σ) (hr : Rd h a32 (rs.flatMap encI)) (hl : rs.length < 1000000) (hw : σ.writes = w0) (hk : ∀ i ∈ ks, i ∈ w0.map Prod.fst) (hkr : Rd h a29 (ks.flatMap encI)) (hvr : Rd h a35 ((valsOf w0 ks).flatMap encI)) (hkl : ks.length < 1000000) :
    ∀ (n k : Nat), ks.length - k = n → k ≤ ks.length → Ok (law15_SetsUndo_L2 a29 ks.length (some ⟨p, 0, none⟩) a35 ks.length c31 c37 a32 rs.length c34 ((ks.length : Nat) : Int) k h) Q := by
  intro n
  induction n with
  | zero =>
    intro k hn hk'
    refine Ok.le ?_ law15_SetsUndo_L2_le
    refine Ok.le ?_ law15_SetsUndo_j8_le
    rw [dec_f (by omega), cond_f]
    refine Ok.le ?_ law15_SetsUndo_j5_le
    exact loop1 hs hsub hr hl _ 0 rfl (by omega)
  | succ n ih =>
    intro k hn hk'
    have hkl' : k < ks.length := by omega
    obtain ⟨x, hx⟩ : ∃ x, ks[k]? = some x := ⟨_, List.getElem?_eq_getElem hkl'⟩
    obtain ⟨ad, rfl, r0⟩ := rd_int hkr hx
    obtain ⟨v, hv⟩ := alook_mem.mpr (hk x (List.mem_of_getElem? hx))
    have hy : (valsOf w0 ks)[k]? = some v := by simp only [valsOf, List.getElem?_map, hx, Option.map_some, hv, aval, Option.getD_some]
    obtain ⟨ad2, rfl, r1⟩ := rd_int hvr hy
    refine Ok.le ?_ law15_SetsUndo_L2_le
    refine Ok.le ?_ law15_SetsUndo_j8_le
    rw [dec_t (by omega), cond_t]
    refine Ok.le ?_ law15_SetsUndo_j7_le
    simp only [Option.bind_some, inB_t (show (0 : Int) ≤ ((k : Nat) : Int) by omega) (show ((k : Nat) : Int) < ((ks.length : Nat) : Int) by omega), cond_t, Int.toNat_natCast, r0, r1, set_value hs, hw, asTu_t, hdO_c, asI_i64, asB_b, List.isEmpty_nil, hv, aok, aval, Option.getD_some, Option.isSome_some, Bool.not_true, cond_f, decide_true]
    refine Ok.le ?_ law15_SetsUndo_j6_le
    have hwr : IntKind.wrap .i64 (((k : Nat) : Int) + 1) = ((k + 1 : Nat) : Int) := by rw [wrap64 (by omega) (by omega)]; omega
    rw [hwr]
    exact ih (k + 1) (by omega) (by omega)
theorem ow_lt {h : AH} {sz : Nat} {a : Option Addr} {n c : Nat} {cs : List Value} (ho : Ow h sz a n c cs) : ∀ b, blk a b → b < h.n := by
  cases ho with
  | nil => intro b hb; cases hb
  | mk hb hl hn => intro b hb; obtain rfl : _ = b := hb; exact hn
/-- what is kept beside -/
abbrev KL (a4 a29 a32 a35 : Option Addr) (ops : List SOp) (ks rs : List Int) (w0 : List (Int × Int)) : List (Option Addr × List Value) := [(a4, ops.flatMap encSOp), (a29, ks.flatMap encI), (a32, rs.flatMap encI), (a35, (valsOf w0 ks).flatMap encI)]
theorem fin_ {A : SA} {σ : St} {N : Nat} {h : AH} (hs : SQ h p A σ) (hw : Wf σ N) (hN : N < 900000) (o : Mo σ) (j : Jv σ D n0 w0) (hd : σ.marks.length = D + 1) (hsub : Sub rs σ) (hk : Kept h p A (KL a4 a29 a32 a35 ops ks rs w0)) (hks : ks = sortI (w0.map Prod.fst)) (hrl : rs.length < 1000000) (hkl : ks.length < 1000000) :
    Ok (law15_SetsUndo_j10 (some ⟨p, 0, none⟩) ((D : Nat) : Int) a29 ks.length c31 a35 ks.length c37 a32 rs.length c34 h) Q := by
  refine Ok.le ?_ law15_SetsUndo_j10_le
  refine Ok.bind (set_undo hs hw.ml (by have := hw.sz; omega) hw.m0) ?_
  rintro _ h2 ⟨rfl, A2, s2, m2⟩
  have k2 := hk.mv m2
  have h0 : ¬σ.marks.length = 0 := by omega
  have hlast : (σ.marks[σ.marks.length - 1]?).getD 0 = (n0 : Int) := by rw [hd, Nat.add_sub_cancel, j.at_]; rfl
  have e1 : σ.undo.1 = 0 := by unfold St.undo; rw [if_neg h0]
  have e2 : σ.undo.2.writes = w0 := by
    unfold St.undo St.last
    simp only [h0, if_false, hlast, Int.toNat_natCast]
    exact j.bk
  have e3 : σ.undo.2.marks.length = D := by
    unfold St.undo St.last
    simp only [h0, if_false, List.length_take]
    omega
  have w2 := hw.undo
  have sub2 := hsub.undo
  rw [e1]
  generalize σ.undo.2 = τ at s2 e2 e3 w2 sub2
  simp only [asI_i64, Option.bind_some, decide_true, Bool.not_true, cond_f, set_depth s2, e3]
  have z2 := w2.sz
  refine Ok.bind (set_writes s2 (wk_of w2.wk) (by omega)) ?_
  rintro _ h3 ⟨a3, c3, rfl, F3⟩
  simp only [asS_s, Option.bind_some]
  rw [e2] at F3 ⊢
  have s3 := s2.fr F3.f
  have k3 := k2.fr F3.f
  rw [← hks] at F3
  have hle : w0.length = ks.length := F3.e
  rw [sameInts_eq c3 c31 F3.o.rd (k3 (a29, ks.flatMap encI) (by simp)).1 hle rfl (by omega)]
  simp only [asB_b, Option.bind_some, decide_true, Bool.not_true, cond_f]
  refine Ok.le ?_ law15_SetsUndo_j9_le
  exact loop2 s3 sub2 (k3 (a32, rs.flatMap encI) (by simp)).1 hrl e2 (fun i hi => by rw [hks] at hi; exact sortI_mem.mp hi) (k3 (a29, ks.flatMap encI) (by simp)).1 (k3 (a35, (valsOf w0 ks).flatMap encI) (by simp)).1 hkl _ 0 rfl (by omega)
theorem loop3 (hks : ks = sortI (w0.map Prod.fst)) (hrl : rs.length < 1000000) (hkl : ks.length < 1000000) (hD : D ≤ 8) : ∀ (n : Nat) {A : SA} {σ : St} {N : Nat} {h : AH}, σ.marks.length = D + 1 + n → SQ h p A σ → Wf σ N → N + 2 * n < 900000 → Mo σ → Jv σ D n0 w0 → Sub rs σ → Kept h p A (KL a4 a29 a32 a35 ops ks rs w0) →
    Ok (law15_SetsUndo_L3 (some ⟨p, 0, none⟩) ((D : Nat) : Int) a35 ks.length c37 a32 rs.length c34 a29 ks.length c31 h) Q := by
  intro n
  have hwr : IntKind.wrap .i64 (((D : Nat) : Int) + 1) = ((D + 1 : Nat) : Int) := by rw [wrap64 (by omega) (by omega)]; omega
  induction n with
  | zero =>
    intro A σ N h hm hs hw hN o j hsub hk
    refine Ok.le ?_ law15_SetsUndo_L3_le
    simp only [set_depth hs, Option.bind_some, asI_i64, hwr, hm, Nat.add_zero]
    rw [dec_f (by omega), cond_f]
    exact fin_ hs hw (by omega) o j hm hsub hk hks hrl hkl
  | succ n ih =>
    intro A σ N h hm hs hw hN o j hsub hk
    refine Ok.le ?_ law15_SetsUndo_L3_le
    simp only [set_depth hs, Option.bind_some, asI_i64, hwr, hm]
    rw [dec_t (by omega), cond_t]
    refine Ok.le ?_ law15_SetsUndo_j11_le
    refine Ok.bind (set_keep hs hw.ml) ?_
    rintro _ h2 ⟨rfl, A2, s2, m2⟩
    simp only [asI_i64, Option.bind_some]
    have h0 : ¬σ.marks.length = 0 := by omega
    refine ih ?_ s2 hw.keep (by omega) o.keep (j.keep (by omega)) hsub.keep (hk.mv m2)
    unfold St.keep St.last
    simp only [h0, if_false, List.length_take]
    omega
theorem Jv.step {σ : St} {N : Nat} (w : Wf σ N) (o : Mo σ) (j : Jv σ D n0 w0) (x : SOp) (h : (x.kind = 5 ∨ x.kind = 6) → D + 1 < σ.marks.length) : Jv (pstep true σ x) D n0 w0 := by
  unfold pstep
  split
  · exact j.read _ _
  · split
    · exact j.write _ _
    · split
      · rw [if_pos rfl]; exact j.mark
      · split
        · rename_i c; rw [if_pos rfl]; exact j.keep (h (.inl c))
        · split
          · rename_i c; rw [if_pos rfl]; exact j.undo (h (.inr c)) o.s
          · exact j
theorem sub_rd {h : AH} {ad : Addr} (hr : Rd h (some ad) (ops.flatMap encSOp)) {k : Nat} {x : SOp} (hx : ops[k]? = some x) : Rd h (some ⟨ad.block, ad.off + k * 4, none⟩) ([x].flatMap encSOp) := by
  rcases hr with h0 | ⟨ad', c, op, ro, e, ha, h1, h2, h3⟩
  · have := flat_get_some encSOp_len (j := 0) (by decide) hx
    rw [h0] at this; simp [encSOp] at this
  · obtain rfl := Option.some.inj ha
    refine .inr ⟨_, c, op, ro, e, rfl, h1, h2, fun j v hj => ?_⟩
    have hj4 : j < 4 := by have := (List.getElem?_eq_some_iff.mp hj).1; simpa [encSOp] using this
    have := flat_get_some encSOp_len hj4 hx
    rw [Nat.add_assoc]
    refine h3 _ _ (this.trans ?_)
    rw [List.flatMap_cons, List.flatMap_nil, List.append_nil] at hj
    exact hj
theorem loop4 (hks : ks = sortI (w0.map Prod.fst)) (hrl : rs.length < 1000000) (hkl : ks.length < 1000000) (hD : D ≤ 7) (hl5 : l5 = ops.length) (hc : c6 < 140737488355328) (hlc : l5 ≤ c6) : ∀ (n k : Nat) {A : SA} {σ : St} {N : Nat} {h : AH}, 200 - k = n → k ≤ 200 → SQ h p A σ → Wf σ N → N + 2 * n + 100 < 900000 → Mo σ → Jv σ D n0 w0 → Sub rs σ → Kept h p A (KL a4 a29 a32 a35 ops ks rs w0) →
    Ok (law15_SetsUndo_L4 l5 a4 (some ⟨p, 0, none⟩) ((D : Nat) : Int) a35 ks.length c37 a32 rs.length c34 a29 ks.length c31 c6 k h) Q := by
  intro n
  have hwr : IntKind.wrap .i64 (((D : Nat) : Int) + 1) = ((D + 1 : Nat) : Int) := by rw [wrap64 (by omega) (by omega)]; omega
  have out : ∀ {A : SA} {σ : St} {N : Nat} {h : AH}, SQ h p A σ → Wf σ N → N + 100 < 900000 → Mo σ → Jv σ D n0 w0 → Sub rs σ → Kept h p A (KL a4 a29 a32 a35 ops ks rs w0) → Ok (law15_SetsUndo_j12 (some ⟨p, 0, none⟩) ((D : Nat) : Int) a35 ks.length c37 a32 rs.length c34 a29 ks.length c31 h) Q := by
    intro A σ N h hs hw hN o j hsub hk
    refine Ok.le ?_ law15_SetsUndo_j12_le
    have := j.dl
    have := hw.ml
    exact loop3 hks hrl hkl (by omega) (σ.marks.length - (D + 1)) (by omega) hs hw (by omega) o j hsub hk
  induction n with
  | zero =>
    intro k A σ N h hn hk' hs hw hN o j hsub hk
    refine Ok.le ?_ law15_SetsUndo_L4_le
    rw [dec_f (show ¬((k : Nat) : Int) < 200 by omega), cond_f]
    cases decide (((k : Nat) : Int) < ((l5 : Nat) : Int)) <;> exact out hs hw (by omega) o j hsub hk
  | succ n ih =>
    intro k A σ N h hn hk' hs hw hN o j hsub hk
    refine Ok.le ?_ law15_SetsUndo_L4_le
    by_cases c : k < ops.length
    · rw [dec_t (by omega), cond_t, dec_t (show ((k : Nat) : Int) < 200 by omega), cond_t]
      refine Ok.le ?_ law15_SetsUndo_j15_le
      obtain ⟨x, hx⟩ : ∃ x, ops[k]? = some x := ⟨_, List.getElem?_eq_getElem c⟩
      have hk4 := hk (a4, ops.flatMap encSOp) (by simp)
      obtain ⟨ad, e4, r0, _, _, _⟩ := op_read hk4.1 hx
      simp only at e4
      subst e4
      have hwk : IntKind.wrap .i64 (((k : Nat) : Int) + 1) = ((k + 1 : Nat) : Int) := by rw [wrap64 (by omega) (by omega)]; omega
      have skip : ∀ {A' : SA} {σ' : St} {h' : AH}, SQ h' p A' σ' → Wf σ' (N + 2) → Mo σ' → Jv σ' D n0 w0 → Sub rs σ' → Kept h' p A' (KL (some ad) a29 a32 a35 ops ks rs w0) → Ok (law15_SetsUndo_j13 l5 (some ad) (some ⟨p, 0, none⟩) ((D : Nat) : Int) a35 ks.length c37 a32 rs.length c34 a29 ks.length c31 c6 k h') Q := by
        intro A' σ' h' q1 q2 q3 q4 q5 q6
        refine Ok.le ?_ law15_SetsUndo_j13_le
        rw [hwk]
        exact ih (k + 1) (by omega) (by omega) q1 q2 (by omega) q3 q4 q5 q6
      have go : ((x.kind = 5 ∨ x.kind = 6) → D + 1 < σ.marks.length) → Ok (law15_SetsUndo_j14 (some ad) l5 c6 k (some ⟨p, 0, none⟩) ((D : Nat) : Int) a35 ks.length c37 a32 rs.length c34 a29 ks.length c31 h) Q := by
        intro hgo
        refine Ok.le ?_ law15_SetsUndo_j14_le
        have hcut : slcE 4 (some ad) l5 c6 (some (.int .i64 ((k : Nat) : Int))) (some (.int .i64 ((k + 1 : Nat) : Int))) none h = some (.slice (some ⟨ad.block, ad.off + k * 4, none⟩) (k + 1 - k) (c6 - k), h) := by
          have hb : Nat.beq k c6 = false := by
            cases hq : Nat.beq k c6 with
            | false => rfl
            | true => have := Nat.eq_of_beq_eq_true hq; omega
          simp only [slcE, blt_small (show c6 < 4611686018427387904 by omega), cond_t]
          rw [bnd (k := k + 1) rfl (by omega), bnd (k := k) rfl (by omega), hb, cond_f]
        rw [hwk, hcut]
        simp only [Option.bind_some, asS_s]
        have e1 : k + 1 - k = 1 := by omega
        rw [e1]
        refine Ok.bind (play_ok (ops := [x]) (b5 := true) (l3 := 1) rfl hs hw (by omega) (sub_rd hk4.1 hx) (fun b hb => (hk4.2 b hb).1) (fun b hb => (hk4.2 b hb).2)) ?_
        rintro _ h2 ⟨rfl, A2, s2, m2⟩
        simp only [asTu_t, Option.bind_some, List.isEmpty_nil, cond_t]
        have ep : plays true σ (List.take 200 [x]) = pstep true σ x := rfl
        rw [ep] at s2
        exact skip s2 (hw.step true x) (o.step hw true x) (Jv.step hw o j x hgo) (hsub.step true x) (hk.mv m2)
      simp only [Option.bind_some, inB_t (show (0 : Int) ≤ ((k : Nat) : Int) by omega) (show ((k : Nat) : Int) < ((l5 : Nat) : Int) by omega), cond_t, Int.toNat_natCast, Nat.add_zero, r0]
      by_cases c5 : x.kind = 5
      · rw [dec_t c5, cond_t]
        simp only [set_depth hs, Option.bind_some, asI_i64, hwr]
        by_cases cd : σ.marks.length = D + 1
        · rw [dec_t (by omega), cond_t]; exact skip hs (hw.more (by omega)) o j hsub hk
        · rw [dec_f (by omega), cond_f]; exact go fun _ => by have := j.dl; omega
      · rw [dec_f c5, cond_f]
        by_cases c6' : x.kind = 6
        · rw [dec_t c6', cond_t]
          simp only [set_depth hs, Option.bind_some, asI_i64, hwr]
          by_cases cd : σ.marks.length = D + 1
          · rw [dec_t (by omega), cond_t]; exact skip hs (hw.more (by omega)) o j hsub hk
          · rw [dec_f (by omega), cond_f]; exact go fun _ => by have := j.dl; omega
        · rw [dec_f c6', cond_f]
          exact go fun e => by rcases e with e | e <;> omega
    · rw [dec_f (by omega), cond_f]
      exact out hs hw (by omega) o j hsub hk
theorem loop5 {A : SA} {σ : St} {h0 : AH} (h0n : ∀ b, own p A b → b < h0.n) (hw : σ.writes = w0) (hkl : ks.length < 1000000)
    (K : ∀ (h : AH) (a : Option Addr) (c : Nat), Fr [] h0 h → Ow h 1 a ks.length c ((valsOf w0 ks).flatMap encI) → (∀ b, blk a b → h0.n ≤ b) → Ok (law15_SetsUndo_j16 l5 a4 (some ⟨p, 0, none⟩) ((D : Nat) : Int) a ks.length c a32 rs.length c34 a29 ks.length c31 c6 h) Q)
    (hs : SQ h0 p A σ) (hkr : Rd h0 a29 (ks.flatMap encI)) (c40 : Nat) :
    ∀ (n k : Nat) (h : AH) (a : Option Addr) (c m : Nat), ks.length - k = n → k ≤ ks.length → Fr [] h0 h → Ow h 1 a m c ((valsOf w0 (ks.take k)).flatMap encI) → (∀ b, blk a b → h0.n ≤ b) →
    Ok (law15_SetsUndo_L5 (some ⟨p, 0, none⟩) ((D : Nat) : Int) a4 l5 c6 a29 ks.length c31 a32 rs.length c34 a m c a29 ks.length c40 ((ks.length : Nat) : Int) k h) Q := by
  intro n
  induction n with
  | zero =>
    intro k h a c m hn hk' hf how hfresh
    refine Ok.le ?_ law15_SetsUndo_L5_le
    refine Ok.le ?_ law15_SetsUndo_j19_le
    rw [dec_f (by omega), cond_f]
    rw [List.take_of_length_le (by omega)] at how
    have hm : m = ks.length := by have := how.len; rw [flat_len encI_len] at this; simp only [valsOf, List.length_map] at this; omega
    subst hm
    exact K h a c hf how hfresh
  | succ n ih =>
    intro k h a c m hn hk' hf how hfresh
    have hkl' : k < ks.length := by omega
    obtain ⟨x, hx⟩ : ∃ x, ks[k]? = some x := ⟨_, List.getElem?_eq_getElem hkl'⟩
    have hkr' := hkr.fr hf (by simp)
    obtain ⟨ad, e29, r0⟩ := rd_int hkr' hx
    refine Ok.le ?_ law15_SetsUndo_L5_le
    refine Ok.le ?_ law15_SetsUndo_j19_le
    rw [dec_t (by omega), cond_t]
    refine Ok.le ?_ law15_SetsUndo_j18_le
    obtain ⟨a', n', c', h', q1, q2, q3, q4⟩ := Ow.push1 hf how hfresh (aval (alook w0 x)) (by simp only [valsOf, List.length_map, List.length_take]; omega)
    rw [e29]
    simp only [Option.bind_some, inB_t (show (0 : Int) ≤ ((k : Nat) : Int) by omega) (show ((k : Nat) : Int) < ((ks.length : Nat) : Int) by omega), cond_t, Int.toNat_natCast, r0, set_value (hs.fr hf), hw, asTu_t, hdO_c, asI_i64, asB_b, List.isEmpty_nil, q1, asS_s]
    rw [← e29]
    refine Ok.le ?_ law15_SetsUndo_j17_le
    have hwk : IntKind.wrap .i64 (((k : Nat) : Int) + 1) = ((k + 1 : Nat) : Int) := by rw [wrap64 (by omega) (by omega)]; omega
    rw [hwk]
    refine ih (k + 1) h' a' c' n' (by omega) (by omega) q3 ?_ q4
    have e : valsOf w0 (ks.take (k + 1)) = valsOf w0 (ks.take k) ++ [aval (alook w0 x)] := by
      rw [List.take_add_one, hx]; simp [valsOf]
    rw [e]; exact q2
theorem part2 (hl5 : l5 = ops.length) (hc : c6 < 140737488355328) (hlc : l5 ≤ c6) {A : SA} {σ : St} {N : Nat} {h : AH} (hs : SQ h p A σ) (hw : Wf σ N) (hN : N < 800000) (o : Mo σ) (h8 : ¬σ.marks.length = 8) (hr : Rd h a4 (ops.flatMap encSOp)) (hb : ∀ b, blk a4 b → ¬ own p A b ∧ b < h.n) :
    Ok (law15_SetsUndo_j21 (some ⟨p, 0, none⟩) a4 l5 c6 h) Q := by
  refine Ok.le ?_ law15_SetsUndo_j21_le
  simp only [set_depth hs, Option.bind_some, asI_i64]
  refine Ok.bind (set_mark hs hw.ml) ?_
  rintro _ h2 ⟨rfl, A2, s2, m2⟩
  have e1 : σ.mark.1 = 0 := by unfold St.mark; rw [if_neg h8]
  have e2 : σ.mark.2.writes = σ.writes := by unfold St.mark; rw [if_neg h8]
  have e3 : σ.mark.2.reads = σ.reads := by unfold St.mark; rw [if_neg h8]
  have hml := hw.ml
  have j := Jv.start o h8
  have o2 := o.mark
  have w2 := hw.mark
  have w2z := w2.sz
  rw [e1]
  generalize σ.mark.2 = τ at s2 e2 e3 j o2 w2 w2z
  simp only [asI_i64, Option.bind_some, decide_true, Bool.not_true, cond_f]
  refine Ok.le ?_ law15_SetsUndo_j20_le
  have hwz : τ.writes.length ≤ N + 2 := by omega
  have k2 : Kept h2 p A2 [(a4, ops.flatMap encSOp)] := Kept.mv (.cons hr hb fun _ h => by simp at h) m2
  refine Ok.bind (set_writes s2 (wk_of w2.wk) (by omega)) ?_
  rintro _ h3 ⟨a3, c3, rfl, F3⟩
  simp only [asS_s, Option.bind_some]
  have s3 := s2.fr F3.f
  have k3 := k2.fr F3.f
  refine Ok.bind (set_reads s3 (wk_of w2.rk) (by omega)) ?_
  rintro _ h4 ⟨a4', c4, rfl, F4⟩
  simp only [asS_s, Option.bind_some]
  have s4 := s3.fr F4.f
  have k4 := k3.fr F4.f
  rw [e2] at F3
  have ek : τ.writes.length = (sortI (σ.writes.map Prod.fst)).length := by rw [F3.e.symm, e2]
  have er : τ.reads.length = (sortI (τ.reads.map Prod.fst)).length := F4.e
  have hkr := F3.o.rd.fr F4.f (by simp)
  have own4 : ∀ b, own p A2 b → b < h2.n := s2.lt
  rw [ek, er]
  refine loop5 (w0 := σ.writes) (ks := sortI (σ.writes.map Prod.fst)) (rs := sortI (τ.reads.map Prod.fst)) (A := A2) (σ := τ) (fun b hb => by have := own4 b hb; have := F3.f.n; have := F4.f.n; omega) e2 (by omega) ?_ s4 hkr c3 _ 0 h4 none 0 0 rfl (by omega) (.refl _ _) .nil (fun b hb => hb.elim)
  intro h5 a c f5 o5 fr5
  refine Ok.le ?_ law15_SetsUndo_j16_le
  refine loop4 (ops := ops) (ks := sortI (σ.writes.map Prod.fst)) (rs := sortI (τ.reads.map Prod.fst)) (w0 := σ.writes) (n0 := σ.past.length) rfl (by omega) (by omega) (by omega) hl5 hc hlc 200 0 rfl (by omega) (s4.fr f5) w2 (by omega) o2 j (fun i hi => sortI_mem.mp hi) ?_
  refine .cons ?_ ?_ (.cons ?_ ?_ (.cons ?_ ?_ (.cons ?_ ?_ fun _ h => by simp at h)))
  · exact (k4 (a4, ops.flatMap encSOp) (by simp)).1.fr f5 (by simp)
  · exact fun b hb => ⟨((k4 (a4, ops.flatMap encSOp) (by simp)).2 b hb).1, Nat.lt_of_lt_of_le ((k4 (a4, ops.flatMap encSOp) (by simp)).2 b hb).2 f5.n⟩
  · exact hkr.fr f5 (by simp)
  · exact fun b hb => ⟨fun ho => by have := own4 b ho; have := F3.b b hb; omega, Nat.lt_of_lt_of_le (Nat.lt_of_lt_of_le (ow_lt F3.o b hb) F4.f.n) f5.n⟩
  · exact F4.o.rd.fr f5 (by simp)
  · exact fun b hb => ⟨fun ho => by have := own4 b ho; have := F4.b b hb; have := F3.f.n; omega, Nat.lt_of_lt_of_le (ow_lt F4.o b hb) f5.n⟩
  · exact o5.rd
  · exact fun b hb => ⟨fun ho => by have := own4 b ho; have := fr5 b hb; have := F3.f.n; have := F4.f.n; omega, ow_lt o5 b hb⟩
theorem loop6 (hl5 : l5 = ops.length) (hc : c6 < 140737488355328) (hlc : l5 ≤ c6) {A : SA} {σ : St} {N : Nat} {h : AH} (hs : SQ h p A σ) (hw : Wf σ N) (hN : N < 700000) (o : Mo σ) (hr : Rd h a4 (ops.flatMap encSOp)) (hb : ∀ b, blk a4 b → ¬ own p A b ∧ b < h.n) :
    Ok (law15_SetsUndo_L6 (some ⟨p, 0, none⟩) a4 l5 c6 h) Q := by
  refine Ok.le ?_ law15_SetsUndo_L6_le
  simp only [set_depth hs, Option.bind_some, asI_i64]
  by_cases c : σ.marks.length = 8
  · rw [dec_t (by omega), cond_t]
    refine Ok.le ?_ law15_SetsUndo_j22_le
    refine Ok.bind (set_keep hs hw.ml) ?_
    rintro _ h2 ⟨rfl, A2, s2, m2⟩
    simp only [asI_i64, Option.bind_some]
    have k2 : Kept h2 p A2 [(a4, ops.flatMap encSOp)] := Kept.mv (.cons hr hb fun _ h => by simp at h) m2
    have em : σ.keep.2.marks.length = 7 := by
      unfold St.keep St.last
      have : ¬σ.marks.length = 0 := by omega
      simp only [this, if_false, List.length_take]
      omega
    refine Ok.le ?_ law15_SetsUndo_L6_le
    simp only [set_depth s2, Option.bind_some, asI_i64]
    rw [dec_f (by omega), cond_f]
    exact part2 hl5 hc hlc s2 hw.keep (by omega) o.keep (by omega) (k2 (a4, ops.flatMap encSOp) (by simp)).1 (k2 (a4, ops.flatMap encSOp) (by simp)).2
  · rw [dec_f (by omega), cond_f]
    exact part2 hl5 hc hlc hs hw (by omega) o c hr hb
end
theorem main (h : AH) {a1 : Option Addr} {l2 c3 : Nat} {ops1 : List SOp} (hs1 : SlIn h encSOp (fun _ => True) a1 l2 c3 ops1) {a4 : Option Addr} {l5 c6 : Nat} {ops : List SOp} (hs2 : SlIn h encSOp (fun _ => True) a4 l5 c6 ops) : Ok (C k_law15_SetsUndo [.slice a1 l2 c3, .slice a4 l5 c6] h) Q := by
  refine Ok.le ?_ law15_SetsUndo_le
  unfold F_law15_SetsUndo
  obtain ⟨h1, e1, s1, n1, f1⟩ := set_new h
  simp only [e1, Option.bind_some, asP_p, Option.isNone_some, cond_f]
  refine Ok.le ?_ law15_SetsUndo_j23_le
  have own1 : ∀ b, own (h.n + 2) ⟨h.n, h.n + 1, none, 0, 0, none, 0, 0⟩ b → h.n ≤ b := fun b hb => by
    rcases hb with hb | hb | hb | hb | hb
    · omega
    · simp only at hb; omega
    · simp only at hb; omega
    · exact hb.elim
    · exact hb.elim
  have k1 : Kept h1 (h.n + 2) ⟨h.n, h.n + 1, none, 0, 0, none, 0, 0⟩ [(a1, ops1.flatMap encSOp), (a4, ops.flatMap encSOp)] := .cons (hs1.rd.fr f1 (by simp)) (fun b hb => ⟨fun ho => by have := own1 b ho; have := hs1.lt b hb; omega, by have := hs1.lt b hb; omega⟩) (.cons (hs2.rd.fr f1 (by simp)) (fun b hb => ⟨fun ho => by have := own1 b ho; have := hs2.lt b hb; omega, by have := hs2.lt b hb; omega⟩) fun _ h => by simp at h)
  have k1a := k1 (a1, ops1.flatMap encSOp) (by simp)
  refine Ok.bind (play_ok hs1.len s1 Wf.new (by decide) k1a.1 (fun b hb => (k1a.2 b hb).1) (fun b hb => (k1a.2 b hb).2)) ?_
  rintro _ h2 ⟨rfl, A2, s2, m2⟩
  simp only [asTu_t, Option.bind_some, List.isEmpty_nil, cond_t]
  have k2 := k1.mv m2 (a4, ops.flatMap encSOp) (by simp)
  exact loop6 hs2.len hs2.cap hs2.le s2 (Wf.new.plays true (ops1.take 200)) (by rw [List.length_take]; omega) (Mo.new.plays true _ Wf.new) k2.1 k2.2
end Undo
end Go.Lg.Try
