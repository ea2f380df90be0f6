/- WaitElse: one thing, or else another: what stands is what exactly one of them did, or nothing. -/
import Derived.Test.YtodbjmagcelfjaaGreatPnestS
import Derived.Test.YtodbjmagcelfjaaGreatFwait
import Derived.Test.YtodbjmagcelfjaaGreatFlaw18
import Derived.Test.YtodbjmagcelfjaaGreatPokS
namespace Go.Lg.Tryz
set_option linter.unusedVariables false
set_option linter.unusedSimpArgs false
open Go Go.Proofs
namespace Else
def Q : Value → AH → Prop := fun v _ => v = .bool true
abbrev XX (p s : Nat) : Txc := ⟨p, 1, 0, s, 1, none, 0, 0, false, 0⟩
abbrev cs0 : List Cel := List.replicate 2 ⟨0, 0, 0⟩
/-- the law's variables -/
abbrev Vs (t tb cb ab bb : Nat) (n one other : Int) : List Asr := [Cs bb [.int .i64 other] 1, Cs ab [.int .i64 one] 1, Cs cb [.int .i64 n] 1, Cs tb [ptr t] 1]
/-- what a body does: cell i is 1 -/
def wr (i : Int) : St := (St.write (St.mark {}).2 i 1).2
theorem wr_wf (i : Int) : Wf (wr i) 4 := (Wf.new.mark).write i 1
def aft (i e : Int) : St := closeSt e (wr i)
theorem wr0 : wr 0 = ⟨[], [(0, 1)], [⟨0, 0, true⟩], [0]⟩ := rfl
theorem wr1 : wr 1 = ⟨[], [(1, 1)], [⟨1, 0, true⟩], [0]⟩ := rfl
theorem aft0_ok : aft 0 0 = ⟨[], [(0, 1)], [], []⟩ := rfl
theorem aft1_ok : aft 1 0 = ⟨[], [(1, 1)], [], []⟩ := rfl
theorem aft0_no {e : Int} (h : e ≠ 0) : aft 0 e = {} := by unfold aft closeSt; rw [if_neg h]; rfl
theorem aft1_no {e : Int} (h : e ≠ 0) : aft 1 e = {} := by unfold aft closeSt; rw [if_neg h]; rfl
theorem clo (i e : Int) (hm : (wr i).marks.length = 1) : closedM 1 e 0 (wr i) = (e, aft i e) := by
  unfold closedM
  rw [if_neg (by decide), if_neg (by omega), hm]
  rfl
section
variable {h : AH} {p s t q tb cb ab bb : Nat} {n one other : Int} {F : List Asr}
theorem txW2 {i : Int} (h0 : 0 ≤ i) (h1 : i < 2) (σ : St) (v : Int) : txW (XX p s) (cs0 : List Cel).length σ i v = σ.write i v := by
  have e : openE (XX p s).st (cs0 : List Cel).length i = 0 := by
    simp only [openE, List.length_replicate]
    rw [if_neg (by simp), if_neg (by omega)]
  unfold txW
  rw [if_pos e]
/-- the first body -/
theorem body1 (w : H h (aT t (XX p s) :: aSet s (St.mark {}).2 :: aMem p q cs0 0 :: Lay (Vs t tb cb ab bb n one other) :: F)) :
    Ok (C k_law18_WaitElse_1 [ptr tb, ptr ab] h) fun x h' => x = .int .i64 one ∧ H h' (aT t (XX p s) :: aSet s (wr 0) :: aMem p q cs0 0 :: Lay (Vs t tb cb ab bb n one other) :: F) := by
  refine Ok.le ?_ law18_WaitElse_1_le
  unfold F_law18_WaitElse_1
  have w1 : H h (aT t (XX p s) :: aSet s (St.mark {}).2 :: aMem p q cs0 0 :: Cs bb [.int .i64 other] 1 :: Cs ab [.int .i64 one] 1 :: Cs cb [.int .i64 n] 1 :: Cs tb [ptr t] 1 :: F) := (w.u3.opn_).pm [4, 5, 6, 0, 1, 2, 3]
  simp only [Option.bind_some, AH.ldP_of (o := 0) (w1.g 6 rfl) rfl]
  refine Ok.bind (txWrite w1 (by decide) 0 1) ?_
  rintro _ h2 ⟨rfl, w2⟩
  rw [txW2 (by decide) (by decide)] at w2 ⊢
  simp only [asI_i64, Option.bind_some, AH.ldI_of (k := .i64) (o := 0) (w2.g 4 rfl) rfl]
  exact Ok.some ⟨rfl, (H.cls (L := Vs t tb cb ab bb n one other) (w2.pm [3, 4, 5, 6, 0, 1, 2])).d3⟩
/-- the second body -/
theorem body2 (hn0 : 0 ≤ n) (hn1 : n < 1000) (w : H h (aT t (XX p s) :: aSet s (St.mark {}).2 :: aMem p q cs0 0 :: Lay (Vs t tb cb ab bb n one other) :: F)) :
    Ok (C k_law18_WaitElse_2 [ptr cb, ptr tb, ptr bb] h) fun x h' => x = .int .i64 other ∧ H h' (aT t (XX p s) :: aSet s (wr 1) :: aMem p q cs0 0 :: Lay (Vs t tb cb ab bb (n + 1) one other) :: F) := by
  refine Ok.le ?_ law18_WaitElse_2_le
  unfold F_law18_WaitElse_2
  have w1 : H h (Cs cb [.int .i64 n] 1 :: aT t (XX p s) :: aSet s (St.mark {}).2 :: aMem p q cs0 0 :: Cs bb [.int .i64 other] 1 :: Cs ab [.int .i64 one] 1 :: Cs tb [ptr t] 1 :: F) := (w.u3.opn_).pm [2, 4, 5, 6, 0, 1, 3]
  obtain ⟨h8, s8, w8, n8⟩ := w1.st1 (.int .i64 (n + 1))
  simp only [Option.bind_some, AH.ldI_of (k := .i64) (o := 0) (w1.g 0 rfl) rfl]
  rw [show IntKind.wrap .i64 (n + 1) = n + 1 by rw [wrap64 (by omega) (by omega)]]
  have w9 : H h8 (aT t (XX p s) :: aSet s (St.mark {}).2 :: aMem p q cs0 0 :: Cs bb [.int .i64 other] 1 :: Cs ab [.int .i64 one] 1 :: Cs cb [.int .i64 (n + 1)] 1 :: Cs tb [ptr t] 1 :: F) := w8.pm [1, 2, 3, 4, 5, 0, 6]
  simp only [s8, Option.bind_some, AH.ldP_of (o := 0) (w9.g 6 rfl) rfl]
  refine Ok.bind (txWrite w9 (by decide) 1 1) ?_
  rintro _ h2 ⟨rfl, w2⟩
  rw [txW2 (by decide) (by decide)] at w2 ⊢
  simp only [asI_i64, Option.bind_some, AH.ldI_of (k := .i64) (o := 0) (w2.g 3 rfl) rfl]
  exact Ok.some ⟨rfl, (H.cls (L := Vs t tb cb ab bb (n + 1) one other) (w2.pm [3, 4, 5, 6, 0, 1, 2])).d3⟩
/-- what stands -/
def aftW (one other : Int) : St := if one = 135 then aft 1 other else aft 0 one
def resW (one other : Int) : Int := if one = 135 then other else one
def cntW (one : Int) : Int := if one = 135 then 1 else 0
theorem orElse (w : H h (aT t (XX p s) :: aSet s {} :: aMem p q cs0 0 :: Lay (Vs t tb cb ab bb 0 one other) :: F)) :
    Ok (C k_wait_OrElse_int [ptr t, fnV (some (k_law18_WaitElse_1, [], [ptr tb, ptr ab])), fnV (some (k_law18_WaitElse_2, [], [ptr cb, ptr tb, ptr bb]))] h) fun x h' => x = .int .i64 (resW one other) ∧
      H h' (aT t (XX p s) :: aSet s (aftW one other) :: aMem p q cs0 0 :: Lay (Vs t tb cb ab bb (cntW one) one other) :: F) := by
  refine Ok.le ?_ wait_OrElse_int_le
  unfold F_wait_OrElse_int
  simp only [txStatus w, Option.bind_some, asI_u8, isNilG_some, cond_f]
  rw [dec_f (show ¬(1 : Int) = 0 by decide), cond_f]
  refine Ok.le ?_ wait_OrElse_int_j2_le
  have hb1 : hasBody Tryz.prog k_law18_WaitElse_1 = true := by kernel_rfl
  have hb2 : hasBody Tryz.prog k_law18_WaitElse_2 = true := by kernel_rfl
  refine Ok.bind (scopeS (fid := k_law18_WaitElse_1) (caps := [ptr tb, ptr ab]) (B' := fun _ _ _ _ _ => Lay (Vs t tb cb ab bb 0 one other)) (P := fun e X2 σ2 cs2 clk2 => e = one ∧ X2 = XX p s ∧ σ2 = wr 0 ∧ cs2 = cs0 ∧ clk2 = 0) w rfl (by decide) hb1 ?_) ?_
  · intro h1 G w1
    refine Ok.mono (body1 w1) ?_
    rintro _ h2 ⟨rfl, w2⟩
    exact ⟨one, XX p s, wr 0, cs0, 0, 4, rfl, w2, rfl, rfl, wr_wf 0, by decide, rfl, rfl, rfl, rfl, rfl⟩
  · rintro _ h1 ⟨e, X2, σ2, cs2, clk2, rfl, ⟨he, rfl, rfl, rfl, rfl⟩, _, _, w1⟩
    rw [he] at w1 ⊢
    have ec := clo 0 one (by rw [wr0]; rfl)
    simp only [List.length_nil, ec] at w1 ⊢
    simp only [asI_i64, Option.bind_some]
    by_cases c : one = 135
    · rw [dec_t c, cond_t]
      have e0 : aft 0 one = {} := aft0_no (by omega)
      rw [e0] at w1
      simp only [txStatus w1, Option.bind_some, asI_u8, decide_true, cond_t]
      refine Ok.bind (scopeS (fid := k_law18_WaitElse_2) (caps := [ptr cb, ptr tb, ptr bb]) (B' := fun _ _ _ _ _ => Lay (Vs t tb cb ab bb 1 one other)) (P := fun e X2 σ2 cs2 clk2 => e = other ∧ X2 = XX p s ∧ σ2 = wr 1 ∧ cs2 = cs0 ∧ clk2 = 0) w1 rfl (by decide) hb2 ?_) ?_
      · intro h2 G w2
        refine Ok.mono (body2 (by decide) (by decide) w2) ?_
        rintro _ h3 ⟨rfl, w3⟩
        exact ⟨other, XX p s, wr 1, cs0, 0, 4, rfl, w3, rfl, rfl, wr_wf 1, by decide, rfl, rfl, rfl, rfl, rfl⟩
      · rintro _ h2 ⟨e, X2, σ2, cs2, clk2, rfl, ⟨he2, rfl, rfl, rfl, rfl⟩, _, _, w2⟩
        rw [he2] at w2 ⊢
        have ec2 := clo 1 other (by rw [wr1]; rfl)
        simp only [List.length_nil, ec2] at w2 ⊢
        simp only [asI_i64, Option.bind_some]
        refine Ok.le ?_ wait_OrElse_int_j1_le
        refine Ok.some ⟨by unfold resW; rw [if_pos c], ?_⟩
        unfold aftW cntW
        rw [if_pos c, if_pos c]
        exact w2
    · rw [dec_f c, cond_f]
      refine Ok.le ?_ wait_OrElse_int_j1_le
      refine Ok.some ⟨by unfold resW; rw [if_neg c], ?_⟩
      unfold aftW cntW
      rw [if_neg c, if_neg c]
      exact w1
/-- what is read then -/
def vx (one : Int) : Int := if one = 0 then 1 else 0
def vy (one other : Int) : Int := if one = 135 ∧ other = 0 then 1 else 0
theorem reads (one other : Int) : ∃ σ1 σ2 e1 e2, readTx (XX p s) (aftW one other) cs0 0 = ((vx one, e1), XX p s, σ1, cs0) ∧ readTx (XX p s) σ1 cs0 1 = ((vy one other, e2), XX p s, σ2, cs0) ∧ σ2.marks.length = 0 := by
  unfold aftW vx vy
  by_cases c : one = 135
  · rw [if_pos c, if_neg (by omega)]
    by_cases d : other = 0
    · subst d
      rw [aft1_ok, if_pos ⟨c, rfl⟩]
      exact ⟨_, _, _, _, rfl, rfl, rfl⟩
    · rw [aft1_no d, if_neg (fun h => d h.2)]
      exact ⟨_, _, _, _, rfl, rfl, rfl⟩
  · rw [if_neg c, if_neg (fun h : one = 135 ∧ other = 0 => c h.1)]
    by_cases d : one = 0
    · subst d
      rw [aft0_ok, if_pos rfl]
      exact ⟨_, _, _, _, rfl, rfl, rfl⟩
    · rw [aft0_no d, if_neg d]
      exact ⟨_, _, _, _, rfl, rfl, rfl⟩
end
theorem ld1 {h : AH} {b : Nat} {k : Int} {ro : Bool} {op : Bool} {e : Nat} (hg : h.get b = some (.cells [.int .i64 k] op ro e)) : h.ldI .i64 b 0 = some k := AH.ldI_of hg rfl
theorem main (h : AH) (one : Int) (w0 : (Lit.int .i64 one).wf = true) (other : Int) (w1 : (Lit.int .i64 other).wf = true) : Ok (C k_law18_WaitElse [.int .i64 one, .int .i64 other] h) Q := by
  have w : H h [aRds []] := H.args (by intro p hp; simp at hp)
  refine Ok.le ?_ law18_WaitElse_le
  unfold F_law18_WaitElse
  rcases new_ok h 2 with ⟨hbad, _⟩ | ⟨_, _, h1, e1, M1, f1, n1⟩
  · omega
  simp only [e1, Option.bind_some, asTu_t, hdO_c, asP_p, asI_i64, List.isEmpty_nil, cond_t, decide_true, Bool.not_true, cond_f]
  have wM : H h1 (aMem (h.n + 1) h.n cs0 0 :: _) := w.fresh f1.n (fun b hb => f1.g b hb (by simp)) (fun b hb => by omega) M1.live fun h'' hg => M1.same2 hg
  refine Ok.le ?_ law18_WaitElse_j4_le
  refine Ok.bind (txBegin wM (o := 1) (by decide)) ?_
  rintro _ h2 ⟨t, s, rfl, w2⟩
  simp only [asTu_t, hdO_c, asP_p, asI_i64, Option.bind_some, List.isEmpty_nil, cond_t]
  obtain ⟨h18, s18, w18, n18⟩ := w2.var [.pointer none] [ptr t] 1 rfl
  simp only [s18, Option.bind_some]
  obtain ⟨h20, s20, w20, n20⟩ := w18.var [.int .i64 0] [.int .i64 0] 1 rfl
  simp only [s20, Option.bind_some]
  have w21 := w20.push (.cells [.int .i64 0] false false 1)
  generalize hh21 : h20.push (.cells [.int .i64 0] false false 1) = h21 at w21 ⊢
  have w22 := w21.push (.cells [.int .i64 0] false false 1)
  generalize hh22 : h21.push (.cells [.int .i64 0] false false 1) = h22 at w22 ⊢
  obtain ⟨h23, s23, w23, n23⟩ := (w22.u1).st1 (.int .i64 one)
  simp only [s23, Option.bind_some]
  obtain ⟨h24, s24, w24, n24⟩ := (w23.u1).st1 (.int .i64 other)
  simp only [s24, Option.bind_some]
  have w25 : H h24 (aT t (XX (h.n + 1) s) :: aSet s {} :: aMem (h.n + 1) h.n cs0 0 :: Lay (Vs t h2.n h18.n h20.n h21.n 0 one other) :: aRds [] :: []) :=
    (H.cls (L := Vs t h2.n h18.n h20.n h21.n 0 one other) w24).pm [1, 2, 3, 0, 4]
  have w25' := w25.u3.opn_
  simp only [AH.ldP_of (o := 0) (w25'.g 3 rfl) rfl, Option.bind_some]
  refine Ok.bind (orElse w25) ?_
  rintro _ h26 ⟨rfl, w26⟩
  have w27 := w26.u3.opn_
  simp only [asI_i64, Option.bind_some, ld1 (w27.g 1 rfl), ld1 (w27.g 0 rfl)]
  have J3 : Ok (law18_WaitElse_j3 (resW one other) (some ⟨h2.n, 0, none⟩) (some ⟨h18.n, 0, none⟩) (some ⟨h20.n, 0, none⟩) (some ⟨h21.n, 0, none⟩) (resW one other) h26) Q := by
    refine Ok.le ?_ law18_WaitElse_j3_le
    obtain ⟨σ1, σ2, e1, e2, r1, r2, hd⟩ := reads (p := h.n + 1) (s := s) one other
    simp only [AH.ldP_of (o := 0) (w27.g 3 rfl) rfl, Option.bind_some]
    refine Ok.bind (txRead w26 (Int.le_refl 1) (by decide) 0) ?_
    rintro _ h3 ⟨rfl, w3⟩
    rw [r1] at w3 ⊢
    simp only at w3
    have w3' := w3.u3.opn_
    simp only [asTu_t, hdO_c, asI_i64, Option.bind_some, List.isEmpty_nil, cond_t, AH.ldP_of (o := 0) (w3'.g 3 rfl) rfl]
    refine Ok.bind (txRead w3 (Int.le_refl 1) (by decide) 1) ?_
    rintro _ h4 ⟨rfl, w4⟩
    rw [r2] at w4 ⊢
    simp only at w4
    have w4' := w4.u3.opn_
    simp only [asTu_t, hdO_c, asI_i64, Option.bind_some, List.isEmpty_nil, cond_t, ld1 (w4'.g 2 rfl), ld1 (w4'.g 1 rfl), ld1 (w4'.g 0 rfl), decide_true, Bool.not_true, cond_f]
    have J2 : Ok (law18_WaitElse_j2 (some ⟨h2.n, 0, none⟩) false h4) Q := by
      refine Ok.le ?_ law18_WaitElse_j2_le
      rw [cond_f]
      refine Ok.le ?_ law18_WaitElse_j1_le
      simp only [Option.bind_some, AH.ldP_of (o := 0) (w4'.g 3 rfl) rfl, txDepth w4, asI_i64, hd]
      rw [dec_t (by rfl), cond_t]
      simp only [C_closed (f := k_law18_awake) rfl h4, Option.bind_some, asB_b]
      exact Ok.some rfl
    by_cases c : one = 135
    · have a1 : cntW one = 1 := if_pos c
      have a2 : vx one = 0 := if_neg (by omega)
      rw [a1, a2]
      rw [dec_t rfl, dec_t c, beq_self_eq_true, Bool.not_true, cond_f, dec_f (by decide), cond_f, dec_f (by decide), dec_f (show ¬one = 0 by omega), beq_self_eq_true, Bool.not_true, cond_f, cond_t]
      by_cases d : other = 0
      · have a3 : vy one other = 1 := if_pos ⟨c, d⟩
        rw [a3, dec_t rfl, dec_t d, beq_self_eq_true, Bool.not_true]; exact J2
      · have a3 : vy one other = 0 := if_neg fun x => d x.2
        rw [a3, dec_f (by decide), dec_f d, beq_self_eq_true, Bool.not_true]; exact J2
    · have a1 : cntW one = 0 := if_neg c
      have a3 : vy one other = 0 := if_neg fun x => c x.1
      rw [a1, a3]
      rw [dec_f (show ¬(0 : Int) = 1 by decide), dec_f c, beq_self_eq_true, Bool.not_true, cond_f, dec_f (by decide), cond_f, cond_f]
      by_cases d : one = 0
      · have a2 : vx one = 1 := if_pos d
        rw [a2, dec_t rfl, dec_t d, beq_self_eq_true, Bool.not_true, cond_f]; exact J2
      · have a2 : vx one = 0 := if_neg d
        rw [a2, dec_f (by decide), dec_f d, beq_self_eq_true, Bool.not_true, cond_f]; exact J2
  have er : resW one other = if one = 135 then other else one := rfl
  by_cases c : one = 135
  · rw [if_pos c] at er
    rw [dec_t c, cond_t]
    rw [er] at J3 ⊢; exact J3
  · rw [if_neg c] at er
    rw [dec_f c, cond_f]
    rw [er] at J3 ⊢; exact J3
end Else
end Go.Lg.Tryz
