/- slices.Collect of a map's keys, at this seat: the kit's contracts, laid. -/
import Derived.Test.YtodbjmagcelfjaaGreatEv37
import Derived.Ground.GgzProg
import Derived.Test.YtodbjmagcelfjaaGreatProg
import Derived.KernelRfl
namespace Go.Proofs
shelf_lay_g SlLaysZI.n8 Ggz 8 at Tryz 190 as Tryz.colL
shelf_lay_g SlLaysZI.n7 Ggz 7 at Tryz 138 as Tryz.keyL138
shelf_lay_g SlLaysZI.n7 Ggz 7 at Tryz 202 as Tryz.keyL202
shelf_lay_g SlLaysZI.n7 Ggz 7 at Tryz 221 as Tryz.keyL221
shelf_lay_g SlLaysZI.n7 Ggz 7 at Tryz 306 as Tryz.keyL306
end Go.Proofs
namespace Go.Lg.Tryz
open Go Go.Proofs
def colS' : SumEv := colS 190 [192, 230, 233, 307]
theorem col_ok : SumOK Tryz.prog colS' := colS_ok ⟨_, Tryz.colL, rfl⟩ fun g hg => by
  simp only [List.mem_cons, List.not_mem_nil, or_false] at hg
  rcases hg with rfl | rfl | rfl | rfl
  · exact ⟨_, { Tryz.keyL138 with }, rfl⟩
  · exact ⟨_, { Tryz.keyL202 with }, rfl⟩
  · exact ⟨_, { Tryz.keyL221 with }, rfl⟩
  · exact ⟨_, { Tryz.keyL306 with }, rfl⟩
set_option maxRecDepth 1000000
def noKeep0 : Nat → Nat → Option (List Nat) := fun f k => cond (Nat.beq k 1000000) (cond (([136,150,156] : List Nat).any (Nat.beq f)) (some [0]) none) none

def tab : List Nat := [38]
theorem tab_run : tab.all (fun f => isTrue ((ev Tryz.prog (drawEv Tryz.prog) colS' noOv noKeep0 3000).call f [] ⟨0, .nil⟩)) = true := by kernel_rfl
theorem ov_ok : OvOK Tryz.prog (trueOv tab) := trueOv_ok (ev_ok (noOv_ok _) col_ok (draw_ok _) noKeep0 3000).1 tab_run
end Go.Lg.Tryz
