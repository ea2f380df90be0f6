/- NamesNumbers: whatever the memory and the schedule, and whatever the arguments, the call returns true, and nothing that was there has turned. It has no conditions. The kernel runs the evaluator (whose soundness the texts Ev1 to Ev20 prove) over the program. -/
import Derived.Test.YtbbkdjinlgmklaaDoorRows
import Derived.Test.YtbbkdjinlgmklaaDoorPokT
import Derived.WalkKit
import Derived.ProofKit
import Derived.OpenShut
import Derived.ShutString
import Derived.ChangeOld
import Derived.Below
import Derived.SizedLaws
import Derived.Lay
import Derived.LaidOnce
import Derived.LaidMore
import Derived.LaidByTextLater
import Derived.Test.YtbbkdjinlgmklaaDoorCards
import Derived.Test.YtbbkdjinlgmklaaDoorTie
import Derived.SevenTiedAt
namespace Go.Proofs.YtbbkdjinlgmklaaDoor.namesNumbers
open Go.ChangeShapes Go.WideShapes Go.ChangeAt Go.RowKit
open Go.ChangeMaps (open_string shut_string)
set_option linter.unusedVariables false
theorem own : ownKnob Tryd.prog.godebug = none := by kernel_rfl
def noKeep : Nat → Nat → Option (List Nat) := fun _ _ => none
def isT : Lg.Res → Bool
  | some (.bool true, _) => true
  | _ => false
set_option maxRecDepth 1000000 in
theorem runs  : isT ((Lg.ev Tryd.prog (Lg.drawEv Tryd.prog) Lg.noSum (Lg.orO (Lg.trueOv Lg.Tryd.closedL) Lg.Tryd.strO) noKeep 1000).call 3 [] ⟨0, .nil⟩) = true := by kernel_rfl
theorem empty_rel (w : World) : Lg.HRel (fun _ => none) ⟨0, .nil⟩ w := by
  refine ⟨fun b t h => by (cases h), fun b t h => by (cases h), fun b c op ro esz h => ?_, fun b es clk h => ?_, fun b b' x x' t t' h => ?_, fun b x h => ?_, fun b c esz t h => ?_, fun b m s l k h => ?_⟩ <;> simp [Lg.AH.get, Lg.T.get] at h
theorem walk  (w : World)  : Calls Tryd.prog 3 #[] w fun e w' => e = .returned (.bool true) ∧ Below w.heap.size w w' := by
  have hr := runs 
  unfold isT at hr
  split at hr
  · rename_i h hc
    have := (Lg.ev_ok Lg.Tryd.ov_all (Lg.noSum_ok Tryd.prog) (Lg.draw_ok Tryd.prog) noKeep 1000).1 3 [] ⟨0, .nil⟩ (.bool true, h) hc (fun _ => none) w [] (empty_rel w) .nil
    refine this.1.mono ?_
    rintro e w' ⟨φ', c, rfl, hg, hv⟩
    rw [Lg.vr_bool hv]
    exact ⟨rfl, hg.fr.os, hg.fr.tape, hg.fr.output, hg.fr.size, fun k hk => hg.fr.block k hk (fun b t hb => by cases hb)⟩
  · cases hr
set_option maxRecDepth 100000 in
theorem lifted (os : Os) (started : os.Started) (H : Type) (enc : TypeId × Value → H) :
    ReturnsInHanded {} Tryd.checked os 3 .any (fun w args => (Rows.namesNumbersSpec.pre enc Tryd.prog Tryd.f3 Rows.namesNumbersRow.domain false w args ∧ laidMetH Tryd.prog Rows.namesNumbersRow.laid w) ∧ sizedMet enc Tryd.prog Tryd.f3 (OpenSpec.ofChange Rows.namesNumbersSpec) false w args) (Rows.namesNumbersSpec.post enc Tryd.prog Tryd.f3 false true false false) := by
  refine returnsInHanded_of_change_and (C := Tryd.checked) (X := fun w _ => laidMetH Tryd.prog Rows.namesNumbersRow.laid w) (fun _ _ _ hh h => h.of_heap hh) own started (by kernel_rfl) Tryd.func3
    (ChangeSpec.witness_shaped (enc := enc) (C := Tryd.checked) (os := os) (X := fun w _ => laidMetH Tryd.prog Rows.namesNumbersRow.laid w) false (World.laidAll Tryd.prog os Rows.namesNumbersRow.laid) #[] 8 (World.laidAll_os _ _ _)
      (World.shaped_of_ZipB (by kernel_rfl) (by kernel_rfl)) (by kernel_rfl) (by kernel_rfl) (by kernel_rfl)
      (by rw [MakeChecks.laidMetH_plain _ _ _ (by kernel_rfl)]; exact laidMet_laidAll _ (by kernel_rfl) (by kernel_rfl))) ?_
  intro W base args ds gs before hval0 hW hcnd hsz0 hLaid _
  have hval : ∀ (j : Nat) t v, Tryd.f3.params[j]? = some t → args[j]? = some v → Value.okWide Tryd.prog W .any base t v := hval0
  have hW' := hW
  obtain ⟨p, q, hA0, hV, rfl, hfz, hnd⟩ := hW
  have hA : DataW.TrodAll enc Tryd.prog W 0 (fun _ => true) true Tryd.f3.params.toList args.toList ds p := hA0
  rw [Tryd.params3] at hA hval
  obtain ⟨rfl, rfl, rfl⟩ := trodAll_none hA
  obtain ⟨rfl, rfl⟩ := trodVars_none hV
  clear hA0 hval0 hsz0
  refine (walk  W ).mono fun e W' ⟨he, bel⟩ => ?_
  subst he
  exact ⟨_, rfl, _, _, _, [], _, [], hW', trodAll_mk1 (shut_bool Tryd.underlying4 _), trodAll_mk0, rfl, bel.frame _, fun h => by cases h⟩
theorem over : Rows.namesNumbersRow.holds Tryd.pinned (OpenSpec.ofChange Rows.namesNumbersSpec) :=
  OpenClaim.holds_of_wide 3 Tryd.f3 rfl rfl rfl rfl rfl rfl rfl ⟨rfl, rfl, rfl, rfl, rfl⟩ rfl rfl rfl rfl rfl (by kernel_rfl) Tryd.func3 (by kernel_rfl)
    (of_decide_eq_true (by kernel_rfl)) (by unfold Func.isWrapper; first | (rw [if_pos (by decide +kernel)]; kernel_rfl) | (rw [if_neg (by decide +kernel)]; exact ⟨rfl, rfl⟩))
    (fun os started H enc _ => lifted os started H enc)
theorem proved : Rows.NamesNumbersSaid := over
#print axioms proved
end Go.Proofs.YtbbkdjinlgmklaaDoor.namesNumbers
namespace Go.Proofs.YtbbkdjinlgmklaaDoor
/-- The tied card, under a short name, for the claim. -/
theorem namesNumbers_holds : Rows.NamesNumbersCardSaid :=
  Claim7.holds_tied_plain_at .later [] [.data, .pinned] true (true, "61bccb138f0ec6b78a6e40cbda52a90131ffd5959dcc580e87a488595beeb8a9") false namesNumbers.proved (fun _ h => by cases h) (by kernel_rfl) (fun _ h => by cases h) namesNumbers_row_tie rfl ⟨rfl, rfl⟩ (by kernel_rfl) rfl
    (fun f fn hf hfn => by
      obtain rfl : f = 3 := Option.some.inj ((show Tryd.prog.funcNamed "ledgerstone/ledgerstonelaw21.NamesNumbers" = some 3 by kernel_rfl).symm.trans hf) |>.symm
      obtain rfl : fn = Tryd.f3 := (Option.some.inj (Tryd.func3.symm.trans hfn)).symm
      exact ⟨by kernel_rfl, fun j t ht => by
        rw [Tryd.params3] at ht
        simp at ht⟩)
    (by kernel_rfl)
end Go.Proofs.YtbbkdjinlgmklaaDoor
