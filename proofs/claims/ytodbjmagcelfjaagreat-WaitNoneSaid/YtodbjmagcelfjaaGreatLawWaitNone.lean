/- WaitNone: whatever the memory and the schedule, and whatever the arguments, the call returns true, and nothing that was there has turned. It has no conditions. The kernel runs the evaluator (whose soundness the texts Ev1 to Ev20 prove) over the program. -/
import Derived.Test.YtodbjmagcelfjaaGreatRows
import Derived.Test.YtodbjmagcelfjaaGreatPcol
import Derived.WalkKit
import Derived.ProofKit
import Derived.OpenShut
import Derived.ShutString
import Derived.ChangeOld
import Derived.Below
import Derived.SizedLaws
namespace Go.Proofs.YtodbjmagcelfjaaGreat.waitNone
open Go.ChangeShapes Go.WideShapes Go.ChangeAt Go.RowKit
open Go.ChangeMaps (open_string shut_string)
set_option linter.unusedVariables false
theorem own : ownKnob Tryz.prog.godebug = none := by kernel_rfl
def noKeep : Nat → Nat → Option (List Nat) := fun _ _ => none
def isT : Lg.Res → Bool
  | some (.bool true, _) => true
  | _ => false
set_option maxRecDepth 1000000 in
theorem runs (a0 : Int) : isT ((Lg.ev Tryz.prog (Lg.drawEv Tryz.prog) Lg.Tryz.colS' (Lg.trueOv Lg.Tryz.tab) noKeep 3000).call 7 [.int .i64 a0] ⟨0, .nil⟩) = true := by kernel_rfl
theorem empty_rel (w : World) : Lg.HRel (fun _ => none) ⟨0, .nil⟩ w := by
  refine ⟨fun b t h => by (cases h), fun b t h => by (cases h), fun b c op ro esz h => ?_, fun b es clk h => ?_, fun b b' x x' t t' h => ?_, fun b x h => ?_, fun b c esz t h => ?_, fun b m s l k h => ?_⟩ <;> simp [Lg.AH.get, Lg.T.get] at h
theorem walk (a0 : Int) (w : World) (w0 : (Lit.int .i64 a0).wf = true) : Calls Tryz.prog 7 #[.int .i64 a0] w fun e w' => e = .returned (.bool true) ∧ Below w.heap.size w w' := by
  have hr := runs a0
  unfold isT at hr
  split at hr
  · rename_i h hc
    have := (Lg.ev_ok Lg.Tryz.ov_ok Lg.Tryz.col_ok (Lg.draw_ok Tryz.prog) noKeep 3000).1 7 [.int .i64 a0] ⟨0, .nil⟩ (.bool true, h) hc (fun _ => none) w [.int .i64 a0] (empty_rel w) (.cons (.int _ _) .nil)
    refine this.1.mono ?_
    rintro e w' ⟨φ', c, rfl, hg, hv⟩
    rw [Lg.vr_bool hv]
    exact ⟨rfl, hg.fr.os, hg.fr.tape, hg.fr.output, hg.fr.size, fun k hk => hg.fr.block k hk (fun b t hb => by cases hb)⟩
  · cases hr
set_option maxRecDepth 100000 in
theorem lifted (os : Os) (started : os.Started) (H : Type) (enc : TypeId × Value → H) :
    ReturnsInHanded {} Tryz.checked os 7 .any (Rows.waitNoneSpec.pre6 enc Tryz.prog Tryz.f7 Rows.waitNoneRow.domain false) (Rows.waitNoneSpec.post enc Tryz.prog Tryz.f7 false true false false) := by
  refine returnsInHanded_of_change_sized (C := Tryz.checked) own started (by kernel_rfl) Tryz.func7
    (ChangeSpec.witness6 (enc := enc) (C := Tryz.checked) false ⟨#[], #[.int .i64 0], []⟩ 8 (by kernel_rfl) (by kernel_rfl) (by kernel_rfl) (by kernel_rfl)) ?_
  intro W base args ds gs before hval0 hW hcnd hsz0 _
  have hval : ∀ (j : Nat) t v, Tryz.f7.params[j]? = some t → args[j]? = some v → Value.okWide Tryz.prog W .any base t v := hval0
  have hW' := hW
  obtain ⟨p, q, hA0, hV, rfl, hfz, hnd⟩ := hW
  have hA : DataW.TrodAll enc Tryz.prog W 0 (fun _ => true) true Tryz.f7.params.toList args.toList ds p := hA0
  rw [Tryz.params7] at hA hval
  obtain ⟨v0, vs0, d0, ds0, p0, q0, hargs, rfl, rfl, h0, r0⟩ := trodAll_cons hA
  obtain ⟨rfl, rfl, rfl⟩ := trodAll_nil r0
  obtain rfl : args = #[v0] := by cases args; simp_all
  obtain ⟨rfl, rfl⟩ := trodVars_none hV
  obtain ⟨a0, rfl, rfl, rfl, w0⟩ := open_int Tryz.underlying3 (hval 0 3 v0 rfl rfl) h0
  clear hA0 hval0 hsz0
  refine (walk a0 W w0).mono fun e W' ⟨he, bel⟩ => ?_
  subst he
  exact ⟨_, rfl, _, _, _, [], _, [], hW', trodAll_mk1 (shut_bool Tryz.underlying4 _), (trodAll_cons_mk (shut_int Tryz.underlying3 w0) trodAll_mk0), rfl, bel.frame _, fun h => by cases h⟩
theorem over : Rows.waitNoneRow.holds Tryz.pinned (OpenSpec.ofChange Rows.waitNoneSpec) :=
  OpenClaim.holds_of_wide 7 Tryz.f7 rfl rfl rfl rfl rfl rfl rfl ⟨rfl, rfl, rfl, rfl, rfl⟩ rfl rfl rfl rfl rfl (by kernel_rfl) Tryz.func7 (by kernel_rfl)
    (of_decide_eq_true (by kernel_rfl)) (by unfold Func.isWrapper; first | (rw [if_pos (by decide +kernel)]; kernel_rfl) | (rw [if_neg (by decide +kernel)]; exact ⟨rfl, rfl⟩))
    (fun os started H enc _ => lifted os started H enc)
theorem proved : Rows.WaitNoneSaid := over
#print axioms proved
end Go.Proofs.YtodbjmagcelfjaaGreat.waitNone
namespace Go.Proofs.YtodbjmagcelfjaaGreat
/-- The row, under a short name, for the claim. -/
theorem waitNone_holds : Rows.WaitNoneSaid := waitNone.proved
end Go.Proofs.YtodbjmagcelfjaaGreat
