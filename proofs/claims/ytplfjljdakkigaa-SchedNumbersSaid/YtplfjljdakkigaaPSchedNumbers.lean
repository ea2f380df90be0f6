/- SchedNumbers: the law's function answers true, over the abstract memory. -/
import Derived.Test.YtplfjljdakkigaaFlaw13
import Derived.Test.YtplfjljdakkigaaPschedX
namespace Go.Lg.Try
set_option linter.unusedVariables false
set_option linter.unusedSimpArgs false
open Go Go.Proofs
namespace Num
def Q : Value → AH → Prop := fun v _ => v = .bool true
def oC (s : Nat) (id : Int) (a : Option Addr) (n c : Nat) : List Value := [.pointer (some ⟨s, 0, none⟩), .int .i64 id, .slice a n c]
theorem own_step {h : AH} {s o : Nat} {F : Nat → Prop} {ts : List TD} {line : List Int} (hs : Sch h s F ts line 1 false) (hl : 1 ≤ ts.length) (hb : ts.length < 1000) (hb2 : line.length < 1000) (ho : h.get o = some (.cells (oC s 1 none 0 0) false false 3)) (hF : ¬ F o) (hon : o < h.n) :
    Ok (C k_law13_own_Step [.pointer (some ⟨o, 0, none⟩)] h) fun v h2 => v = .int .u8 2 ∧ ∃ F2 tb, Sch h2 s F2 ts line 1 true ∧ h2.get o = some (.cells (oC s 1 (some ⟨tb, 0, none⟩) 2 opn) false false 3) ∧ h2.get tb = some (.cells [.bool true, .bool false] true false 1) ∧ o < h2.n ∧ tb < h2.n ∧ ¬ F2 o ∧ ¬ F2 tb := by
  refine Ok.le ?_ law13_own_Step_le
  have e0 : h.ldP o (0 + 0) = some (some ⟨s, 0, none⟩) := AH.ldP_of ho rfl
  have e1 : h.ldI .i64 o (0 + 1) = some 1 := AH.ldI_of ho rfl
  have e2 : h.ldS o (0 + 2) = some (none, 0, 0) := AH.ldS_of ho rfl
  have hw : ∀ w, wakeM ts line 1 w 1 = (!w, ts, line, true) := fun w => by
    unfold wakeM; rw [if_pos ⟨by omega, by omega⟩, if_pos rfl]
  simp only [F_law13_own_Step, Option.bind_some, e0, e1, e2]
  refine Ok.bind (wake_ok hs 1 (by omega) (by omega)) ?_
  intro v h1 hv
  rw [hw false] at hv
  obtain ⟨rfl, F1, hs1, mv1⟩ := hv
  have ho1 : h1.get o = some (.cells (oC s 1 none 0 0) false false 3) := by rw [mv1.g o hon hF]; exact ho
  have hn1 := mv1.n
  have hF1 := mv1.keep hon hF
  have f0 : h1.ldP o (0 + 0) = some (some ⟨s, 0, none⟩) := AH.ldP_of ho1 rfl
  have f1 : h1.ldI .i64 o (0 + 1) = some 1 := AH.ldI_of ho1 rfl
  have f2 : h1.ldS o (0 + 2) = some (none, 0, 0) := AH.ldS_of ho1 rfl
  simp only [asB_b, Option.bind_some, f0, f1, f2, veqO_slice, veqO_ptr, veqO_int, cond_t]
  refine Ok.bind (wake_ok (ts := ts) (line := line) hs1 1 (by omega) (by omega)) ?_
  intro v h2 hv
  rw [hw true] at hv
  obtain ⟨rfl, F2, hs2, mv2⟩ := hv
  have ho2 : h2.get o = some (.cells (oC s 1 none 0 0) false false 3) := by rw [mv2.g o (by omega) hF1]; exact ho1
  have hn2 := mv2.n
  have hF2 := mv2.keep (by omega) hF1
  obtain ⟨F3, hs3, ht3, hsub⟩ := hs2.tight
  have g2 : h2.ldS o (0 + 2) = some (none, 0, 0) := AH.ldS_of ho2 rfl
  let h3 := h2.push (.cells [.bool true, .bool false] false false 1)
  have ho3 : h3.get o = some (.cells (oC s 1 none 0 0) false false 3) := by simp only [h3]; rw [AH.get_push_ne _ (by omega)]; exact ho2
  have g3 : h3.ldS o (0 + 2) = some (none, 0, 0) := AH.ldS_of ho3 rfl
  have hnc : newCells h3 1 (.slice (some ⟨h2.n, 0, none⟩) 2 2) = some (2, [.bool true, .bool false]) := by
    simp only [newCells, ldRow, h3, AH.get_push_eq]; rfl
  obtain ⟨h4, u1, u2, u3, u4⟩ := (Ow.nil (h := h3) (sz := 1)).app (by_ := 1) hnc (by rfl) (by omega) (by omega) (by omega) (by omega)
  have hn3 : h3.n = h2.n + 1 := rfl
  have ho4 : h4.get o = some (.cells (oC s 1 none 0 0) false false 3) := by rw [u4 o (by omega) (fun e => e.elim)]; exact ho3
  have st5 : h4.st o (0 + 2) [.slice (some ⟨h3.n, 0, none⟩) 2 opn] = some (h4.set o (some (.cells (oC s 1 (some ⟨h3.n, 0, none⟩) 2 opn) false false 3))) := AH.st_of ho4 (by simp [oC])
  simp only [Nat.zero_add] at u1
  simp only [h3] at g3 u1 st5
  simp only [asB_b, Bool.not_false, Bool.not_true, Option.bind_some, g2, g3, veqO_slice, cond_t, u1, asS_s, st5]
  have ht : h4.get h3.n = some (.cells [.bool true, .bool false] true false 1) := by
    cases u2 with
    | mk hb hl hn => exact hb
  have hnot : o ≠ h3.n := by omega
  refine Ok.some ⟨rfl, F3, h3.n, hs3.away (fun b hb hb2 => ?_) ?_, AH.get_set_eq _ _ _, ?_, ?_, ?_, fun hf => hF2 (hsub _ hf), fun hf => by have := ht3 _ hf; omega⟩
  · have hbo : b ≠ o := fun e => hF2 (hsub _ (e ▸ hb2))
    rw [AH.get_set_ne _ hbo, u4 b (by omega) (fun e => e.elim)]
    exact AH.get_push_ne _ (by omega)
  · rw [AH.n_set]; omega
  · rw [AH.get_set_ne _ (Ne.symm hnot)]; exact ht
  · rw [AH.n_set]; omega
  · rw [AH.n_set]; omega

/-- a task of one step -/
def bT : Option (TypeId × Value) := some (y_law13_brief, .agg #[])
theorem brief_m : ifcQ Try.prog "Step" (ifV bT) = some (k_law13_brief_Step, [.agg #[]], []) := by kernel_rfl
theorem brief_b : hasBody Try.prog k_law13_brief_Step = true := by kernel_rfl
theorem own_m (v : Value) : ifcQ Try.prog "Step" (ifV (some (y_P_law13_own, v))) = some (k_law13_own_Step, [v], []) := by kernel_rfl
theorem own_b : hasBody Try.prog k_law13_own_Step = true := by kernel_rfl
theorem done_ok (h : AH) : Ok ((C k_law13_awake [] h).bind fun r64 => ((asB r64.1).bind fun b65 => (some ((.bool b65), r64.2)))) Q := by
  simp only [C_closed (show closedL.any (Nat.beq k_law13_awake) = true from rfl), Option.bind_some, asB_b]
  exact Ok.some rfl
theorem openN_app (ts : List TD) (x : TD) (hx : x.st ≠ 3) : openN (ts ++ [x]) = openN ts + 1 := by simp [openN, List.filter_append, hx]
theorem openN_over {ts : List TD} (h : ∀ x ∈ ts, x.st = 3) : openN ts = 0 := by
  unfold openN
  rw [List.filter_eq_nil_iff.mpr]
  · rfl
  · intro x hx; simp [h x hx]
theorem L1_ok {s : Nat} : ∀ (d k : Nat) (h : AH) (F : Nat → Prop) (w : Bool) (ts : List TD) (line : List Int), 64 - k = d → k ≤ 64 → Sch h s F ts line 0 w → ts.length = 100 + k → openN ts = k → line.length = k → Ok (law13_SchedNumbers_L1 (some ⟨s, 0, none⟩) k h) Q := by
  intro d
  induction d with
  | zero =>
    intro k h F w ts line hd hk hs h1 h2 h3
    obtain rfl : k = 64 := by omega
    refine Ok.le ?_ law13_SchedNumbers_L1_le
    rw [dec_f (show ¬(((64 : Nat) : Int) < 64) by omega), cond_f]
    refine Ok.le ?_ law13_SchedNumbers_j1_le
    refine Ok.bind (add_ok hs (y_law13_brief, .agg #[]) (by omega) (by omega)) ?_
    intro v h1' hv
    rw [if_pos (by omega)] at hv
    obtain ⟨rfl, _, _⟩ := hv
    simp only [asTu_t, hdO_c, asI_i64, Option.bind_some, List.isEmpty_nil, cond_t, decide_true]
    exact done_ok _
  | succ d ih =>
    intro k h F w ts line hd hk hs h1 h2 h3
    refine Ok.le ?_ law13_SchedNumbers_L1_le
    rw [dec_t (show (k : Int) < 64 by omega), cond_t]
    refine Ok.le ?_ law13_SchedNumbers_j3_le
    refine Ok.bind (add_ok hs (y_law13_brief, .agg #[]) (by omega) (by omega)) ?_
    intro v h1' hv
    rw [if_neg (by omega)] at hv
    obtain ⟨rfl, F1, hs1, _⟩ := hv
    simp only [asTu_t, hdO_c, asI_i64, Option.bind_some, List.isEmpty_nil, cond_t, decide_true, Bool.not_true, cond_f]
    refine Ok.le ?_ law13_SchedNumbers_j2_le
    rw [wrap64 (by omega) (by omega)]
    exact ih (k + 1) h1' F1 w _ _ (by omega) (by omega) hs1 (by simp; omega) (by rw [openN_app _ _ (by decide)]; omega) (by simp; omega)
theorem j6_f {p : Option Addr} {x : Int} {h : AH} (hc : Ok (law13_SchedNumbers_j5 p x h) Q) : Ok (law13_SchedNumbers_j6 p x false h) Q := Ok.le (by rw [cond_f]; exact hc) law13_SchedNumbers_j6_le
theorem L2_ok {s : Nat} : ∀ (d i : Nat) (h : AH) (F : Nat → Prop) (w : Bool) (ts : List TD), 100 - i = d → i ≤ 100 → Sch h s F ts [] 0 w → ts.length = i → (∀ x ∈ ts, x.st = 3) → Ok (law13_SchedNumbers_L2 (some ⟨s, 0, none⟩) ((i : Int) + 1) h) Q := by
  intro d
  induction d with
  | zero =>
    intro i h F w ts hd hi hs h1 h2
    obtain rfl : i = 100 := by omega
    refine Ok.le ?_ law13_SchedNumbers_L2_le
    rw [dec_f (show ¬(((100 : Nat) : Int) + 1 ≤ 100) by omega), cond_f]
    refine Ok.le ?_ law13_SchedNumbers_j4_le
    exact L1_ok 64 0 h F w ts [] (by omega) (by omega) hs (by omega) (openN_over h2) rfl
  | succ d ih =>
    intro i h F w ts hd hi hs h1 h2
    refine Ok.le ?_ law13_SchedNumbers_L2_le
    rw [dec_t (show (i : Int) + 1 ≤ 100 by omega), cond_t]
    refine Ok.le ?_ law13_SchedNumbers_j7_le
    refine Ok.bind (add_ok hs (y_law13_brief, .agg #[]) (by omega) (by simp)) ?_
    intro v h1' hv
    rw [if_neg (by rw [openN_over h2]; omega)] at hv
    obtain ⟨rfl, F1, hs1, _⟩ := hv
    rw [h1] at hs1
    have hx : (ts ++ [(⟨bT, 1, 0⟩ : TD)])[((i : Int) + 1 - 1).toNat]? = some ⟨bT, 1, 0⟩ := by
      have : ((i : Int) + 1 - 1).toNat = i := by omega
      rw [this, List.getElem?_append_right (by omega), h1]; simp
    simp only [asTu_t, hdO_c, asI_i64, Option.bind_some, List.isEmpty_nil, cond_t, h1]
    refine Ok.bind (pick_go hs1 (p := 0) (by omega) (by simp) (by simp; omega) (by simp) (id := (i : Int) + 1) (by simp) ⟨by omega, by simp; omega⟩ hx ⟨by decide, by decide⟩
      (R := fun st F2 ts2 line2 woken2 h2 => st = 3 ∧ ts2 = ts ++ [⟨bT, 1, 1⟩] ∧ line2 = []) ?_) ?_
    · intro h2' F2 hs2 mv
      refine ⟨_, _, brief_m, brief_b, ?_⟩
      refine Ok.le ?_ law13_brief_Step_le
      refine Ok.some ⟨3, F2, _, _, false, rfl, hs2.fr (Fr.push [] _ _), by simp, by simp, rfl, ?_, by simp⟩
      have : ((i : Int) + 1 - 1).toNat = i := by omega
      rw [this, List.set_append_right _ _ (by omega), h1]; simp
    · rintro _ h3 ⟨st, F2, ts2, line2, woken2, h2', ⟨rfl, rfl, rfl⟩, rfl, F3, hs3, _⟩
      have hfin : finM (ts ++ [⟨bT, 1, 1⟩]) [] woken2 ((i : Int) + 1) 3 = (3, ts ++ [⟨bT, 3, 1⟩], []) := by
        unfold finM
        rw [if_neg (by omega), if_neg (by omega)]
        have : ((i : Int) + 1 - 1).toNat = i := by omega
        rw [this]
        congr 2
        rw [← set_modify _ _ (fun (x : TD) => { x with st := 3 }) (x := (⟨bT, 1, 1⟩ : TD)) (by rw [List.getElem?_append_right (by omega), h1]; simp), List.set_append_right _ _ (by omega), h1]; simp
      rw [hfin] at hs3 ⊢
      simp only [asTu_t, hdO_c, asI_i64, asI_u8, asB_b, Option.bind_some, List.isEmpty_nil, cond_t, decide_true, Bool.not_true, cond_f]
      refine j6_f ?_
      refine Ok.le ?_ law13_SchedNumbers_j5_le
      rw [wrap64 (by omega) (by omega)]
      refine ih (i + 1) h3 F3 woken2 _ (by omega) (by omega) hs3 (by simp; omega) (fun x hx => ?_)
      rcases List.mem_append.mp hx with hx | hx
      · exact h2 x hx
      · simp at hx; subst hx; rfl
theorem main (h : AH) : Ok (C k_law13_SchedNumbers [] h) Q := by
  refine Ok.le ?_ law13_SchedNumbers_le
  have hs0 := new_sch h
  let h1 := h.push (.cells [.bool true, .slice none 0 0, .slice none 0 0, .int .i64 0, .bool false] false false 5)
  let h2 := h1.push (.cells (oC h.n 0 none 0 0) false false 3)
  have hs2 := hs0.fr (h' := h2) (Fr.push [] _ _)
  simp only [F_law13_SchedNumbers, sched_New_le _ rfl, Option.bind_some, asP_p]
  refine Ok.bind (add_ok hs2 (y_P_law13_own, .pointer (some ⟨h1.n, 0, none⟩)) (by simp) (by simp)) ?_
  intro v h3 hv
  rw [if_neg (by simp [openN])] at hv
  obtain ⟨rfl, F3, hs3, mv3⟩ := hv
  have hn1 : h1.n = h.n + 1 := rfl
  have hn2 : h2.n = h.n + 2 := rfl
  have hn3 := mv3.n
  have ho3 : h3.get h1.n = some (.cells (oC h.n 0 none 0 0) false false 3) := by rw [mv3.g _ (by omega) (by omega)]; exact AH.get_push_eq _ _
  have hF3 : ¬ F3 h1.n := mv3.keep (by omega) (by omega)
  have st4 : h3.st h1.n (0 + 1) [.int .i64 1] = some (h3.set h1.n (some (.cells (oC h.n 1 none 0 0) false false 3))) := AH.st_of ho3 (by simp [oC])
  have hs4 := hs3.away (h' := h3.set h1.n (some (.cells (oC h.n 1 none 0 0) false false 3))) (fun b hb hb2 => AH.get_set_ne _ (fun e => hF3 (e ▸ hb2))) (Nat.le_refl _)
  simp only [List.length_nil, Int.natCast_zero, Int.zero_add, Int.ofNat_zero, List.nil_append] at hs4
  have ho4 : (h3.set h1.n (some (.cells (oC h.n 1 none 0 0) false false 3))).get h1.n = some (.cells (oC h.n 1 none 0 0) false false 3) := AH.get_set_eq _ _ _
  simp only [asTu_t, hdO_c, asI_i64, Option.bind_some, List.isEmpty_nil, cond_t, decide_true, List.length_nil, Int.natCast_zero, Int.ofNat_zero, Int.zero_add]
  have hx : [(⟨some (y_P_law13_own, .pointer (some ⟨h1.n, 0, none⟩)), 1, 0⟩ : TD)][((1 : Int) - 1).toNat]? = some ⟨some (y_P_law13_own, .pointer (some ⟨h1.n, 0, none⟩)), 1, 0⟩ := rfl
  have fin : ∀ (v : Value) (h' : AH), (∃ (st : Int) (F2 : Nat → Prop) (ts2 : List TD) (line2 : List Int) (woken2 : Bool) (h2' : AH), (st = 2 ∧ woken2 = true ∧ (∃ tb, h2'.get h1.n = some (.cells (oC h.n 1 (some ⟨tb, 0, none⟩) 2 opn) false false 3) ∧ h2'.get tb = some (.cells [.bool true, .bool false] true false 1) ∧ h1.n < h2'.n ∧ tb < h2'.n ∧ ¬ F2 h1.n ∧ ¬ F2 tb)) ∧ v = .tuple #[.int .i64 1, .int .u8 (finM ts2 line2 woken2 1 st).1, .bool true] ∧
      ∃ F', Sch h' h.n F' (finM ts2 line2 woken2 1 st).2.1 (finM ts2 line2 woken2 1 st).2.2 0 woken2 ∧ Moved F2 F' h2' h') → ∃ tb, v = .tuple #[.int .i64 1, .int .u8 1, .bool true] ∧ h'.get h1.n = some (.cells (oC h.n 1 (some ⟨tb, 0, none⟩) 2 opn) false false 3) ∧ h'.get tb = some (.cells [.bool true, .bool false] true false 1) := by
    rintro v h' ⟨st, F2, ts2, line2, woken2, h2', ⟨rfl, rfl, tb, k1, k2, k3, k4, k5, k6⟩, rfl, F', _, mv⟩
    refine ⟨tb, ?_, by rw [mv.g _ k3 k5]; exact k1, by rw [mv.g _ k4 k6]; exact k2⟩
    unfold finM
    rw [if_pos (.inr ⟨rfl, rfl⟩)]
  have hpick := (pick_go hs4 (p := 0) (by omega) (by simp) (by simp) (by simp) (id := 1) (by simp) ⟨by omega, by simp⟩ hx ⟨by show (0 : Int) ≤ 0; omega, by show (0 : Int) < 1000000; omega⟩
      (R := fun st F2 ts2 line2 woken2 h2' => st = 2 ∧ woken2 = true ∧ ∃ tb, h2'.get h1.n = some (.cells (oC h.n 1 (some ⟨tb, 0, none⟩) 2 opn) false false 3) ∧ h2'.get tb = some (.cells [.bool true, .bool false] true false 1) ∧ h1.n < h2'.n ∧ tb < h2'.n ∧ ¬ F2 h1.n ∧ ¬ F2 tb) (fun h5 F5 hs5 mv5 => by
    refine ⟨_, _, own_m _, own_b, ?_⟩
    have hn4 : h1.n < (h3.set h1.n (some (.cells (oC h.n 1 none 0 0) false false 3))).n := by rw [AH.n_set]; omega
    have ho5 : h5.get h1.n = some (.cells (oC h.n 1 none 0 0) false false 3) := by rw [mv5.g _ hn4 hF3]; exact ho4
    refine (own_step hs5 (by simp) (by simp) (by simp) ho5 (mv5.keep hn4 hF3) (Nat.lt_of_lt_of_le hn4 mv5.n)).mono ?_
    rintro v h6 ⟨rfl, F6, tb, k1, k2, k3, k4, k5, k6, k7⟩
    exact ⟨2, F6, _, _, true, rfl, k1, by simp, by simp, rfl, rfl, tb, k2, k3, k4, k5, k6, k7⟩)).mono fin
  simp only [h1] at st4 hpick
  simp only [st4, Option.bind_some]
  refine Ok.bind hpick ?_
  rintro _ h9 ⟨tb, rfl, k1, k2⟩
  have l2 : h9.ldS h1.n (0 + 2) = some (some ⟨tb, 0, none⟩, 2, opn) := AH.ldS_of k1 rfl
  have b0 : h9.ldB tb (0 + 0 * 1) = some true := AH.ldB_of k2 rfl
  have b1 : h9.ldB tb (0 + 1 * 1) = some false := AH.ldB_of k2 rfl
  have i0 : inB 0 2 = true := rfl
  have i1 : inB 1 2 = true := rfl
  simp only [h1] at l2
  simp only [asTu_t, hdO_c, asI_i64, asI_u8, asB_b, Option.bind_some, List.isEmpty_nil, cond_t, decide_true, Bool.not_true, cond_f, l2, b0, b1, i0, i1, dec_t (show (((2 : Nat) : Int) = 2) by rfl)]
  refine Ok.le ?_ law13_SchedNumbers_j9_le
  rw [cond_f]
  refine Ok.le ?_ law13_SchedNumbers_j8_le
  simp only [sched_New_le _ rfl, Option.bind_some, asP_p]
  exact L2_ok 100 0 _ _ false [] (by omega) (by omega) (new_sch h9) rfl (by simp)
end Num
end Go.Lg.Try
