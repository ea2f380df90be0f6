/- Tl2None: whatever the memory and the schedule, and whatever the arguments, the call returns true, and nothing that was there has turned. It has no conditions. The kernel runs the evaluator (whose soundness the texts Ev1 to Ev20 prove) over the program. -/
import Derived.Test.YtdkammcandclhaaRows
import Derived.Test.YtdkammcandclhaaPcol
import Derived.WalkKit
import Derived.ProofKit
import Derived.OpenShut
import Derived.ShutString
import Derived.ChangeOld
import Derived.Below
import Derived.SizedLaws
namespace Go.Proofs.Ytdkammcandclhaa.tl2None
open Go.ChangeShapes Go.WideShapes Go.ChangeAt Go.RowKit
open Go.ChangeMaps (open_string shut_string)
set_option linter.unusedVariables false
theorem own : ownKnob Try.prog.godebug = none := by kernel_rfl
def noKeep : Nat → Nat → Option (List Nat) := fun _ _ => none
def isT : Lg.Res → Bool
  | some (.bool true, _) => true
  | _ => false
set_option maxRecDepth 1000000 in
theorem runs_n0 (a0 : Int) (k : Nat) : isT ((Lg.ev Try.prog (Lg.drawEv Try.prog) Lg.Try.colS' (Lg.trueOv Lg.Try.tab) noKeep 3000).call 9 [.int .i64 a0, .int .i64 (.negSucc 0)] ⟨0, .nil⟩) = true := by kernel_rfl
set_option maxRecDepth 1000000 in
theorem runs_n1 (a0 : Int) (k : Nat) : isT ((Lg.ev Try.prog (Lg.drawEv Try.prog) Lg.Try.colS' (Lg.trueOv Lg.Try.tab) noKeep 3000).call 9 [.int .i64 a0, .int .i64 (.negSucc (k + 1))] ⟨0, .nil⟩) = true := by kernel_rfl
set_option maxRecDepth 1000000 in
theorem runs_p0 (a0 : Int) (k : Nat) : isT ((Lg.ev Try.prog (Lg.drawEv Try.prog) Lg.Try.colS' (Lg.trueOv Lg.Try.tab) noKeep 3000).call 9 [.int .i64 a0, .int .i64 (.ofNat 0)] ⟨0, .nil⟩) = true := by kernel_rfl
set_option maxRecDepth 1000000 in
theorem runs_p1 (a0 : Int) (k : Nat) : isT ((Lg.ev Try.prog (Lg.drawEv Try.prog) Lg.Try.colS' (Lg.trueOv Lg.Try.tab) noKeep 3000).call 9 [.int .i64 a0, .int .i64 (.ofNat 1)] ⟨0, .nil⟩) = true := by kernel_rfl
set_option maxRecDepth 1000000 in
theorem runs_p2 (a0 : Int) (k : Nat) : isT ((Lg.ev Try.prog (Lg.drawEv Try.prog) Lg.Try.colS' (Lg.trueOv Lg.Try.tab) noKeep 3000).call 9 [.int .i64 a0, .int .i64 (.ofNat (k + 2))] ⟨0, .nil⟩) = true := by kernel_rfl
theorem runs (a0 : Int) (a1 : Int) : isT ((Lg.ev Try.prog (Lg.drawEv Try.prog) Lg.Try.colS' (Lg.trueOv Lg.Try.tab) noKeep 3000).call 9 [.int .i64 a0, .int .i64 a1] ⟨0, .nil⟩) = true := match a1 with
  | .negSucc 0 => runs_n0 a0 0
  | .negSucc (k + 1) => runs_n1 a0 k
  | .ofNat 0 => runs_p0 a0 0
  | .ofNat 1 => runs_p1 a0 0
  | .ofNat (k + 2) => runs_p2 a0 k
theorem empty_rel (w : World) : Lg.HRel (fun _ => none) ⟨0, .nil⟩ w := by
  refine ⟨fun b t h => by (cases h), fun b t h => by (cases h), fun b c op ro esz h => ?_, fun b es clk h => ?_, fun b b' x x' t t' h => ?_, fun b x h => ?_, fun b c esz t h => ?_⟩ <;> simp [Lg.AH.get, Lg.T.get] at h
theorem walk (a0 : Int) (a1 : Int) (w : World) (w0 : (Lit.int .i64 a0).wf = true) (w1 : (Lit.int .i64 a1).wf = true) : Calls Try.prog 9 #[.int .i64 a0, .int .i64 a1] w fun e w' => e = .returned (.bool true) ∧ Below w.heap.size w w' := by
  have hr := runs a0 a1
  unfold isT at hr
  split at hr
  · rename_i h hc
    have := (Lg.ev_ok Lg.Try.ov_ok Lg.Try.col_ok (Lg.draw_ok Try.prog) noKeep 3000).1 9 [.int .i64 a0, .int .i64 a1] ⟨0, .nil⟩ (.bool true, h) hc (fun _ => none) w [.int .i64 a0, .int .i64 a1] (empty_rel w) (.cons (.int _ _) (.cons (.int _ _) .nil))
    refine this.1.mono ?_
    rintro e w' ⟨φ', c, rfl, hg, hv⟩
    rw [Lg.vr_bool hv]
    exact ⟨rfl, hg.fr.os, hg.fr.tape, hg.fr.output, hg.fr.size, fun k hk => hg.fr.block k hk (fun b t hb => by cases hb)⟩
  · cases hr
set_option maxRecDepth 100000 in
theorem lifted (os : Os) (started : os.Started) (H : Type) (enc : TypeId × Value → H) :
    ReturnsInHanded {} Try.checked os 9 .any (Rows.tl2NoneSpec.pre6 enc Try.prog Try.f9 Rows.tl2NoneRow.domain false) (Rows.tl2NoneSpec.post enc Try.prog Try.f9 false true false false) := by
  refine returnsInHanded_of_change_sized (C := Try.checked) own started (by kernel_rfl) Try.func9
    (ChangeSpec.witness6 (enc := enc) (C := Try.checked) false ⟨#[], #[.int .i64 0, .int .i64 0], []⟩ 8 (by kernel_rfl) (by kernel_rfl) (by kernel_rfl) (by kernel_rfl)) ?_
  intro W base args ds gs before hval0 hW hcnd hsz0 _
  have hval : ∀ (j : Nat) t v, Try.f9.params[j]? = some t → args[j]? = some v → Value.okWide Try.prog W .any base t v := hval0
  have hW' := hW
  obtain ⟨p, q, hA0, hV, rfl, hfz, hnd⟩ := hW
  have hA : DataW.TrodAll enc Try.prog W 0 (fun _ => true) true Try.f9.params.toList args.toList ds p := hA0
  rw [Try.params9] at hA hval
  obtain ⟨v0, vs0, d0, ds0, p0, q0, hargs, rfl, rfl, h0, r0⟩ := trodAll_cons hA
  obtain ⟨v1, vs1, d1, ds1, p1, q1, rfl, rfl, rfl, h1, r1⟩ := trodAll_cons r0
  obtain ⟨rfl, rfl, rfl⟩ := trodAll_nil r1
  obtain rfl : args = #[v0, v1] := by cases args; simp_all
  obtain ⟨rfl, rfl⟩ := trodVars_none hV
  obtain ⟨a0, rfl, rfl, rfl, w0⟩ := open_int Try.underlying3 (hval 0 3 v0 rfl rfl) h0
  obtain ⟨a1, rfl, rfl, rfl, w1⟩ := open_int Try.underlying3 (hval 1 3 v1 rfl rfl) h1
  clear hA0 hval0 hsz0
  refine (walk a0 a1 W w0 w1).mono fun e W' ⟨he, bel⟩ => ?_
  subst he
  exact ⟨_, rfl, _, _, _, [], _, [], hW', trodAll_mk1 (shut_bool Try.underlying4 _), (trodAll_cons_mk (shut_int Try.underlying3 w0) (trodAll_cons_mk (shut_int Try.underlying3 w1) trodAll_mk0)), rfl, bel.frame _, fun h => by cases h⟩
theorem over : Rows.tl2NoneRow.holds Try.pinned (OpenSpec.ofChange Rows.tl2NoneSpec) :=
  OpenClaim.holds_of_wide 9 Try.f9 rfl rfl rfl rfl rfl rfl rfl ⟨rfl, rfl, rfl, rfl, rfl⟩ rfl rfl rfl rfl rfl (by kernel_rfl) Try.func9 (by kernel_rfl)
    (of_decide_eq_true (by kernel_rfl)) (by unfold Func.isWrapper; first | (rw [if_pos (by decide +kernel)]; kernel_rfl) | (rw [if_neg (by decide +kernel)]; exact ⟨rfl, rfl⟩))
    (fun os started H enc _ => lifted os started H enc)
theorem proved : Rows.Tl2NoneSaid := over
#print axioms proved
end Go.Proofs.Ytdkammcandclhaa.tl2None
namespace Go.Proofs.Ytdkammcandclhaa
/-- The row, under a short name, for the claim. -/
theorem tl2None_holds : Rows.Tl2NoneSaid := tl2None.proved
end Go.Proofs.Ytdkammcandclhaa
