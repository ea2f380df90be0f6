/- NestFirst: whatever the memory and the schedule, and whatever the arguments, the call returns true, and nothing that was there has turned. It has no conditions. -/
import Derived.Test.YtdkammcandclhaaRows
import Derived.Test.YtdkammcandclhaaPNestFirst
import Derived.Test.YtdkammcandclhaaPokS
import Derived.Test.YtdkammcandclhaaEv33
import Derived.WalkKit
import Derived.ProofKit
import Derived.OpenShut
import Derived.ShutString
import Derived.ChangeOld
import Derived.Below
import Derived.SizedLaws
namespace Go.Proofs.Ytdkammcandclhaa.nestFirst
open Go.ChangeShapes Go.WideShapes Go.ChangeAt Go.RowKit
open Go.ChangeMaps (open_string shut_string)
set_option linter.unusedVariables false
theorem own : ownKnob Try.prog.godebug = none := by kernel_rfl
theorem laid : laidOutB Try.prog = true := by kernel_rfl
set_option maxRecDepth 100000 in
theorem lifted (os : Os) (started : os.Started) (H : Type) (enc : TypeId × Value → H) :
    ReturnsInHanded {} Try.checked os 8 .any (Rows.nestFirstSpec.pre6 enc Try.prog Try.f8 Rows.nestFirstRow.domain false) (Rows.nestFirstSpec.post enc Try.prog Try.f8 false true false false) := by
  refine returnsInHanded_of_change_sized (C := Try.checked) own started (by kernel_rfl) Try.func8
    (ChangeSpec.witness6 (enc := enc) (C := Try.checked) false ⟨#[], #[.slice none 0 0], []⟩ 8 (by kernel_rfl) (by kernel_rfl) (by kernel_rfl) (by kernel_rfl)) ?_
  intro W base args ds gs before hval0 hW hcnd hsz _
  have hval : ∀ (j : Nat) t v, Try.f8.params[j]? = some t → args[j]? = some v → Value.okWide Try.prog W .any base t v := hval0
  have hlt := hW.lt
  have hW' := hW
  obtain ⟨p, q, hA0, hV, rfl, hfz, hnd⟩ := hW
  have hA : DataW.TrodAll enc Try.prog W 0 (fun _ => true) true Try.f8.params.toList args.toList ds p := hA0
  have hAll := hA
  rw [Try.params8] at hA hval
  obtain ⟨v0, vs0, d0, ds0, p0, q0, hargs, rfl, rfl, h0, r0⟩ := trodAll_cons hA
  obtain ⟨rfl, rfl, rfl⟩ := trodAll_nil r0
  obtain rfl : args = #[v0] := by cases args; simp_all
  obtain ⟨rfl, rfl⟩ := trodVars_none hV
  have hr := Lg.empty_rel W
  have ha := Lg.AllRo.empty
  have hz0 : ∀ l m, d0 = .slice l m → (l.length + m.length) * Try.prog.bytesOf 4 ≤ reachBytes := fun l m hd => sized_slice hsz (j := 0) rfl (by rw [← hd]; rfl) Try.underlying23
  obtain ⟨φ0, g0, a0, n0, c0, l0, hr, ha, sub0, fr0, vr0, s0⟩ := Lg.in_slice (sz := 1) (good := (fun _ => True)) Go.Lg.Try.First.encB_len (by omega) (fun a v hv => by
      simp only [Go.Lg.Try.First.encB, List.mem_cons, List.not_mem_nil, or_false] at hv
      rcases hv with rfl <;> exact ⟨rfl, fun φ => by constructor⟩) Try.underlying23 (by kernel_rfl)
    (fun n cs x h => by
      obtain ⟨y, e⟩ := Lg.dec_bool Try.underlying4 h
      exact ⟨y, e, trivial⟩)
    (hval 0 23 v0 rfl rfl) h0 hz0 (of_decide_eq_true (by kernel_rfl)) hr ha
  obtain ⟨v, hh, hcall, hvt⟩ := Go.Lg.Try.First.main g0 s0
  have hvt : v = .bool true := hvt
  subst hvt
  have hok := Go.Lg.Try.O_ok 8 [.slice a0 n0 c0] _ _ hcall _ W [v0] hr (.cons vr0 .nil)
  refine hok.1.mono ?_
  rintro e W' ⟨φ', c, rfl, hg, hv⟩
  obtain rfl := Lg.vr_bool hv
  have bel : Below W.heap.size W W' := ⟨hg.fr.os, hg.fr.tape, hg.fr.output, hg.fr.size, fun k hk => hg.fr.block k hk (fun b t hb _ => ha b t hb)⟩
  exact ⟨_, rfl, _, _, _, [], _, [], hW', trodAll_mk1 (shut_bool Try.underlying4 _), Lg.all_stays laid (by kernel_rfl) hAll (fun x hx => bel.same (hlt x (List.mem_append_left _ hx))) (fun x hx => decide_eq_true (hlt x (List.mem_append_left _ hx))), rfl, bel.frame _, fun h => by cases h⟩
theorem over : Rows.nestFirstRow.holds Try.pinned (OpenSpec.ofChange Rows.nestFirstSpec) :=
  OpenClaim.holds_of_wide 8 Try.f8 rfl rfl rfl rfl rfl rfl rfl ⟨rfl, rfl, rfl, rfl, rfl⟩ rfl rfl rfl rfl rfl (by kernel_rfl) Try.func8 (by kernel_rfl)
    (of_decide_eq_true (by kernel_rfl)) (by unfold Func.isWrapper; first | (rw [if_pos (by decide +kernel)]; kernel_rfl) | (rw [if_neg (by decide +kernel)]; exact ⟨rfl, rfl⟩))
    (fun os started H enc _ => lifted os started H enc)
theorem proved : Rows.NestFirstSaid := over
#print axioms proved
end Go.Proofs.Ytdkammcandclhaa.nestFirst
namespace Go.Proofs.Ytdkammcandclhaa
/-- The row, under a short name, for the claim. -/
theorem nestFirst_holds : Rows.NestFirstSaid := nestFirst.proved
end Go.Proofs.Ytdkammcandclhaa
