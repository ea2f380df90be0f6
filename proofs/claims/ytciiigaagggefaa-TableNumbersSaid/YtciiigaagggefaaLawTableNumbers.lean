/- TableNumbers: whatever the memory and the schedule, and whatever the arguments, the call returns true, and nothing that was there has turned. It has no conditions. The kernel runs the evaluator (whose soundness the texts Ev1 to Ev20 prove) over the program. -/
import Derived.Test.YtciiigaagggefaaRows
import Derived.Test.YtciiigaagggefaaPokT
import Derived.WalkKit
import Derived.ProofKit
import Derived.OpenShut
import Derived.ShutString
import Derived.ChangeOld
import Derived.Below
import Derived.SizedLaws
namespace Go.Proofs.Ytciiigaagggefaa.tableNumbers
open Go.ChangeShapes Go.WideShapes Go.ChangeAt Go.RowKit
open Go.ChangeMaps (open_string shut_string)
set_option linter.unusedVariables false
theorem own : ownKnob Try.prog.godebug = none := by kernel_rfl
def noKeep : Nat → Nat → Option (List Nat) := fun _ _ => none
def isT : Lg.Res → Bool
  | some (.bool true, _) => true
  | _ => false
set_option maxRecDepth 1000000 in
theorem runs  : isT ((Lg.ev Try.prog (Lg.drawEv Try.prog) Lg.noSum (Lg.orO (Lg.trueOv Lg.Try.closedL) Lg.Try.strO) noKeep 3000).call 3 [] ⟨0, .nil⟩) = true := by kernel_rfl
theorem empty_rel (w : World) : Lg.HRel (fun _ => none) ⟨0, .nil⟩ w := by
  refine ⟨fun b t h => by (cases h), fun b t h => by (cases h), fun b c op ro esz h => ?_, fun b es clk h => ?_, fun b b' x x' t t' h => ?_, fun b x h => ?_, fun b c esz t h => ?_, fun b m s l k h => ?_⟩ <;> simp [Lg.AH.get, Lg.T.get] at h
theorem walk  (w : World)  : Calls Try.prog 3 #[] w fun e w' => e = .returned (.bool true) ∧ Below w.heap.size w w' := by
  have hr := runs 
  unfold isT at hr
  split at hr
  · rename_i h hc
    have := (Lg.ev_ok Lg.Try.ov_all (Lg.noSum_ok Try.prog) (Lg.draw_ok Try.prog) noKeep 3000).1 3 [] ⟨0, .nil⟩ (.bool true, h) hc (fun _ => none) w [] (empty_rel w) .nil
    refine this.1.mono ?_
    rintro e w' ⟨φ', c, rfl, hg, hv⟩
    rw [Lg.vr_bool hv]
    exact ⟨rfl, hg.fr.os, hg.fr.tape, hg.fr.output, hg.fr.size, fun k hk => hg.fr.block k hk (fun b t hb => by cases hb)⟩
  · cases hr
set_option maxRecDepth 100000 in
theorem lifted (os : Os) (started : os.Started) (H : Type) (enc : TypeId × Value → H) :
    ReturnsInHanded {} Try.checked os 3 .any (Rows.tableNumbersSpec.pre6 enc Try.prog Try.f3 Rows.tableNumbersRow.domain false) (Rows.tableNumbersSpec.post enc Try.prog Try.f3 false true false false) := by
  refine returnsInHanded_of_change_sized (C := Try.checked) own started (by kernel_rfl) Try.func3
    (ChangeSpec.witness6 (enc := enc) (C := Try.checked) false ⟨#[], #[], []⟩ 8 (by kernel_rfl) (by kernel_rfl) (by kernel_rfl) (by kernel_rfl)) ?_
  intro W base args ds gs before hval0 hW hcnd hsz0 _
  have hval : ∀ (j : Nat) t v, Try.f3.params[j]? = some t → args[j]? = some v → Value.okWide Try.prog W .any base t v := hval0
  have hW' := hW
  obtain ⟨p, q, hA0, hV, rfl, hfz, hnd⟩ := hW
  have hA : DataW.TrodAll enc Try.prog W 0 (fun _ => true) true Try.f3.params.toList args.toList ds p := hA0
  rw [Try.params3] at hA hval
  obtain ⟨rfl, rfl, rfl⟩ := trodAll_none hA
  obtain ⟨rfl, rfl⟩ := trodVars_none hV
  clear hA0 hval0 hsz0
  refine (walk  W ).mono fun e W' ⟨he, bel⟩ => ?_
  subst he
  exact ⟨_, rfl, _, _, _, [], _, [], hW', trodAll_mk1 (shut_bool Try.underlying4 _), trodAll_mk0, rfl, bel.frame _, fun h => by cases h⟩
theorem c_wf : (Rows.tableNumbersRow.wf (OpenSpec.ofChange Rows.tableNumbersSpec)) = true := by kernel_rfl
theorem c_laid : (laidOutB Try.pinned.checked.prog) = true := by kernel_rfl
theorem c_rowed : (mapsRowed Try.pinned.checked.prog) = true := by kernel_rfl
theorem c_inPlace : (Rows.tableNumbersRow.inPlace == Try.pinned.checked.prog.inPlace 3) = true := by kernel_rfl
theorem c_unf : (Rows.tableNumbersRow.unfollowed == Try.pinned.checked.prog.unfollowed 3) = true := by kernel_rfl
theorem c_rec : (Rows.tableNumbersRow.recurses == Try.pinned.checked.prog.recurses 3) = true := by kernel_rfl
theorem c_named : (Rows.tableNumbersRow.named == Try.pinned.checked.prog.varsNamed 3) = true := by kernel_rfl
theorem c_plainKeys : (Rows.tableNumbersRow.plainKeys == Try.pinned.checked.prog.plainKeys) = true := by kernel_rfl
theorem c_stopsHeard : (Try.pinned.checked.prog.stopsHeard) = true := by kernel_rfl
theorem c_mayEnter : (Try.pinned.checked.prog.mayEnter) = true := by kernel_rfl
theorem c_lifted : (Rows.tableNumbersRow.lifted == Try.pinned.checked.prog.liftsFinal) = true := by kernel_rfl
theorem c_make : (Try.pinned.checked.prog.make == some Rows.tableNumbersRow.make) = true := by kernel_rfl
theorem c_all : joinedFacts Try.pinned.checked.prog 3 Try.f3 Rows.tableNumbersSpec Rows.tableNumbersRow = true := by
  unfold joinedFacts
  rw [c_wf, c_laid, c_rowed, c_inPlace, c_unf, c_rec, c_named, c_plainKeys, c_stopsHeard, c_mayEnter, c_lifted, c_make]
  kernel_rfl
theorem over : Rows.tableNumbersRow.holds Try.pinned (OpenSpec.ofChange Rows.tableNumbersSpec) :=
  OpenClaim.holds_of_wide 3 Try.f3 rfl rfl rfl rfl rfl rfl rfl ⟨rfl, rfl, rfl, rfl, rfl⟩ rfl rfl rfl rfl rfl (by kernel_rfl) Try.func3 c_all
    (of_decide_eq_true (by kernel_rfl)) (by unfold Func.isWrapper; first | (rw [if_pos (by decide +kernel)]; kernel_rfl) | (rw [if_neg (by decide +kernel)]; exact ⟨rfl, rfl⟩))
    (fun os started H enc _ => lifted os started H enc)
theorem proved : Rows.TableNumbersSaid := over
#print axioms proved
end Go.Proofs.Ytciiigaagggefaa.tableNumbers
namespace Go.Proofs.Ytciiigaagggefaa
/-- The row, under a short name, for the claim. -/
theorem tableNumbers_holds : Rows.TableNumbersSaid := tableNumbers.proved
end Go.Proofs.Ytciiigaagggefaa
