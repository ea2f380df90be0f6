/- The library's functions that are taken by the kit's contracts, laid at this seat. -/
import Derived.Test.YtdkammcandclhaaF0
import Derived.Ground.GgzProg
import Derived.Shelf.SlicesG.Cmp
import Derived.Shelf.Small.Bits
import Derived.Shelf.Lay
import Derived.Ground.SlsfProg
import Derived.Ground.SlgcProg
import Derived.Ground.NamesProg
namespace Go.Proofs
open Go.Shelf Go.RowKit Go.Lib Go.Sort
shelf_lay_g SlLaysZI.n8 Ggz 8 at Try 79 as Try.colL
shelf_lay_g SlLaysZI.n7 Ggz 7 at Try 80 as Try.keyL80
shelf_lay_g SlLaysZI.n7 Ggz 7 at Try 91 as Try.keyL91
shelf_lay_g SlLaysF.n6 Slsf 6 at Try 92 as Try.sortL
shelf_lay_g SlLaysC2.n5 Slgc 5 at Try 94 as Try.cmpL
theorem Try.order1 (x y : Int) (W : World) : Calls Try.prog 93 #[.int .i64 x, .int .i64 y] W fun e w' => e = .returned (.int .i64 (Lib.compareInt x y)) ∧ ∃ q, w' = W.drewN q := by
  have hcon := AnyG.cmp_Compare_int Try.cmpL x y W
  change Calls Try.prog 94 _ _ _ at hcon
  generalize Lib.compareInt x y = r at hcon ⊢
  go_enter Try.func93, Try.ntmps93
  go_wp2_with (go_at_call 94; refine hcon.mono ?_; rintro e w' ⟨rfl, rfl⟩)
  go_ret
  exact ⟨rfl, 0, rfl⟩
end Go.Proofs
namespace Go.Lg.Try
open Go Go.Proofs
def colS1 : SumEv := colS 79 [96, 97]
theorem col_ok : SumOK Try.prog colS1 := colS_ok ⟨_, Try.colL, rfl⟩ fun g hg => by
    simp only [List.mem_cons, List.not_mem_nil, or_false] at hg
    rcases hg with rfl | rfl
    · exact ⟨_, { Try.keyL80 with }, rfl⟩
    · exact ⟨_, { Try.keyL91 with }, rfl⟩
theorem S_ok : SumOK Try.prog S := orS_ok col_ok
  (sortS_ok ⟨_, Try.sortL, rfl⟩ (enters_of Try.func93 (by kernel_rfl) rfl) Try.order1)
end Go.Lg.Try
