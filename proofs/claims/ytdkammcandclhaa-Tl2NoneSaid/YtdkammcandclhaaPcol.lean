/- slices.Collect of a map's keys, at this seat: the kit's contracts, laid. -/
import Derived.Test.YtdkammcandclhaaEv34
import Derived.Ground.GgzProg
import Derived.Test.YtdkammcandclhaaProg
import Derived.KernelRfl
namespace Go.Proofs
shelf_lay_g SlLaysZI.n8 Ggz 8 at Try 79 as Try.colL
shelf_lay_g SlLaysZI.n7 Ggz 7 at Try 80 as Try.keyL80
shelf_lay_g SlLaysZI.n7 Ggz 7 at Try 91 as Try.keyL91
end Go.Proofs
namespace Go.Lg.Try
open Go Go.Proofs
def colS' : SumEv := colS 79 [96, 97]
theorem col_ok : SumOK Try.prog colS' := colS_ok ⟨_, Try.colL, rfl⟩ fun g hg => by
  simp only [List.mem_cons, List.not_mem_nil, or_false] at hg
  rcases hg with rfl | rfl
  · exact ⟨_, { Try.keyL80 with }, rfl⟩
  · exact ⟨_, { Try.keyL91 with }, rfl⟩
set_option maxRecDepth 1000000
def noKeep0 : Nat → Nat → Option (List Nat) := fun _ _ => none
def tab : List Nat := [32]
theorem tab_run : tab.all (fun f => isTrue ((ev Try.prog (drawEv Try.prog) colS' noOv noKeep0 3000).call f [] ⟨0, .nil⟩)) = true := by kernel_rfl
theorem ov_ok : OvOK Try.prog (trueOv tab) := trueOv_ok (ev_ok (noOv_ok _) col_ok (draw_ok _) noKeep0 3000).1 tab_run
end Go.Lg.Try
