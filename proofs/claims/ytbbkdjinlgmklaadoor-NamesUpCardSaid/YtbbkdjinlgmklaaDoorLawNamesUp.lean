/- NamesUp: whatever the memory and the schedule, and whatever the arguments, the call returns true, and nothing that was there has turned. It has no conditions. -/
import Derived.Test.YtbbkdjinlgmklaaDoorRows
import Derived.Test.YtbbkdjinlgmklaaDoorPNamesUp
import Derived.Test.YtbbkdjinlgmklaaDoorPokT
import Derived.Test.YtbbkdjinlgmklaaDoorEv38
import Derived.WalkKit
import Derived.ProofKit
import Derived.OpenShut
import Derived.ShutString
import Derived.ChangeOld
import Derived.Below
import Derived.SizedLaws
import Derived.Lay
import Derived.LaidOnce
import Derived.LaidMore
import Derived.LaidByTextLater
import Derived.Test.YtbbkdjinlgmklaaDoorCards
import Derived.Test.YtbbkdjinlgmklaaDoorTie
import Derived.SevenTiedAt
namespace Go.Proofs.YtbbkdjinlgmklaaDoor.namesUp
open Go.ChangeShapes Go.WideShapes Go.ChangeAt Go.RowKit
open Go.ChangeMaps (open_string shut_string)
set_option linter.unusedVariables false
theorem own : ownKnob Tryd.prog.godebug = none := by kernel_rfl
theorem laid : laidOutB Tryd.prog = true := by kernel_rfl
set_option maxRecDepth 100000 in
theorem lifted (os : Os) (started : os.Started) (H : Type) (enc : TypeId × Value → H) :
    ReturnsInHanded {} Tryd.checked os 6 .any (fun w args => (Rows.namesUpSpec.pre enc Tryd.prog Tryd.f6 Rows.namesUpRow.domain false w args ∧ laidMetH Tryd.prog Rows.namesUpRow.laid w) ∧ sizedMet enc Tryd.prog Tryd.f6 (OpenSpec.ofChange Rows.namesUpSpec) false w args) (Rows.namesUpSpec.post enc Tryd.prog Tryd.f6 false true false false) := by
  refine returnsInHanded_of_change_and (C := Tryd.checked) (X := fun w _ => laidMetH Tryd.prog Rows.namesUpRow.laid w) (fun _ _ _ hh h => h.of_heap hh) own started (by kernel_rfl) Tryd.func6
    (ChangeSpec.witness_shaped (enc := enc) (C := Tryd.checked) (os := os) (X := fun w _ => laidMetH Tryd.prog Rows.namesUpRow.laid w) false (World.laidAll Tryd.prog os Rows.namesUpRow.laid) #[.string ⟨#[]⟩] 8 (World.laidAll_os _ _ _)
      (World.shaped_of_ZipB (by kernel_rfl) (by kernel_rfl)) (by kernel_rfl) (by kernel_rfl) (by kernel_rfl)
      (by rw [MakeChecks.laidMetH_plain _ _ _ (by kernel_rfl)]; exact laidMet_laidAll _ (by kernel_rfl) (by kernel_rfl))) ?_
  intro W base args ds gs before hval0 hW hcnd hsz hLaid _
  have hval : ∀ (j : Nat) t v, Tryd.f6.params[j]? = some t → args[j]? = some v → Value.okWide Tryd.prog W .any base t v := hval0
  have hlt := hW.lt
  have hW' := hW
  obtain ⟨p, q, hA0, hV, rfl, hfz, hnd⟩ := hW
  have hA : DataW.TrodAll enc Tryd.prog W 0 (fun _ => true) true Tryd.f6.params.toList args.toList ds p := hA0
  have hAll := hA
  rw [Tryd.params6] at hA hval
  obtain ⟨v0, vs0, d0, ds0, p0, q0, hargs, rfl, rfl, h0, r0⟩ := trodAll_cons hA
  obtain ⟨rfl, rfl, rfl⟩ := trodAll_nil r0
  obtain rfl : args = #[v0] := by cases args; simp_all
  obtain ⟨rfl, rfl⟩ := trodVars_none hV
  have hr := Lg.empty_rel W
  have ha := Lg.AllRo.empty
  obtain ⟨a0, rfl, hd0, hp0, w0⟩ := open_string Tryd.underlying9 (hval 0 9 v0 rfl rfl) h0
  obtain ⟨v, hh, hcall, hvt⟩ := Go.Lg.Tryd.Up.main ⟨0, .nil⟩ a0 w0
  have hvt : v = .bool true := hvt
  subst hvt
  have hok := Go.Lg.Tryd.O_ok 6 [.string a0] _ _ hcall _ W [.string a0] hr (.cons (.string _) .nil)
  refine hok.1.mono ?_
  rintro e W' ⟨φ', c, rfl, hg, hv⟩
  obtain rfl := Lg.vr_bool hv
  have bel : Below W.heap.size W W' := ⟨hg.fr.os, hg.fr.tape, hg.fr.output, hg.fr.size, fun k hk => hg.fr.block k hk (fun b t hb _ => ha b t hb)⟩
  exact ⟨_, rfl, _, _, _, [], _, [], hW', trodAll_mk1 (shut_bool Tryd.underlying4 _), Lg.all_stays laid (by kernel_rfl) hAll (fun x hx => bel.same (hlt x (List.mem_append_left _ hx))) (fun x hx => decide_eq_true (hlt x (List.mem_append_left _ hx))), rfl, bel.frame _, fun h => by cases h⟩
theorem over : Rows.namesUpRow.holds Tryd.pinned (OpenSpec.ofChange Rows.namesUpSpec) :=
  OpenClaim.holds_of_wide 6 Tryd.f6 rfl rfl rfl rfl rfl rfl rfl ⟨rfl, rfl, rfl, rfl, rfl⟩ rfl rfl rfl rfl rfl (by kernel_rfl) Tryd.func6 (by kernel_rfl)
    (of_decide_eq_true (by kernel_rfl)) (by unfold Func.isWrapper; first | (rw [if_pos (by decide +kernel)]; kernel_rfl) | (rw [if_neg (by decide +kernel)]; exact ⟨rfl, rfl⟩))
    (fun os started H enc _ => lifted os started H enc)
theorem proved : Rows.NamesUpSaid := over
#print axioms proved
end Go.Proofs.YtbbkdjinlgmklaaDoor.namesUp
namespace Go.Proofs.YtbbkdjinlgmklaaDoor
/-- The tied card, under a short name, for the claim. -/
theorem namesUp_holds : Rows.NamesUpCardSaid :=
  Claim7.holds_tied_plain_at .later [] [.data, .pinned] true (true, "61bccb138f0ec6b78a6e40cbda52a90131ffd5959dcc580e87a488595beeb8a9") false namesUp.proved (fun _ h => by cases h) (by kernel_rfl) (fun _ h => by cases h) namesUp_row_tie rfl ⟨rfl, rfl⟩ (by kernel_rfl) rfl
    (fun f fn hf hfn => by
      obtain rfl : f = 6 := Option.some.inj ((show Tryd.prog.funcNamed "ledgerstone/ledgerstonelaw21.NamesUp" = some 6 by kernel_rfl).symm.trans hf) |>.symm
      obtain rfl : fn = Tryd.f6 := (Option.some.inj (Tryd.func6.symm.trans hfn)).symm
      exact ⟨by kernel_rfl, fun j t ht => by
        rw [Tryd.params6] at ht
        have hm : t ∈ ([9] : List Nat) := by simpa using Array.mem_of_getElem? ht
        have hall : (([9] : List Nat).all fun u => !Tryd.prog.wantsStandIn u) = true := by kernel_rfl
        exact (show Tryd.prog.wantsStandIn t = false by simpa using List.all_eq_true.1 hall t hm)⟩)
    (by kernel_rfl)
end Go.Proofs.YtbbkdjinlgmklaaDoor
