/- The library's functions that are taken by the kit's contracts, laid at this seat. -/
import Derived.Test.YtciiigaagggefaaGreatF0
import Derived.Ground.GgzProg
import Derived.Shelf.SlicesG.Cmp
import Derived.Shelf.Small.Bits
import Derived.Shelf.Lay
import Derived.Ground.SlsfProg
import Derived.Ground.SlgcProg
import Derived.Ground.NamesProg
namespace Go.Proofs
open Go.Shelf Go.RowKit Go.Lib Go.Sort
shelf_lay_g SlLaysZI.n8 Ggz 8 at Tryz 68 as Tryz.colL
shelf_lay_g SlLaysZI.n7 Ggz 7 at Tryz 69 as Tryz.keyL69
shelf_lay_g SlLaysZI.n7 Ggz 7 at Tryz 70 as Tryz.keyL70
shelf_lay_g SlLaysF.n6 Slsf 6 at Tryz 75 as Tryz.sortL
shelf_lay_g SlLaysC2.n5 Slgc 5 at Tryz 77 as Tryz.cmpL
theorem Tryz.order1 (x y : Int) (W : World) : Calls Tryz.prog 76 #[.int .i64 x, .int .i64 y] W fun e w' => e = .returned (.int .i64 (Lib.compareInt x y)) ∧ ∃ q, w' = W.drewN q := by
  have hcon := AnyG.cmp_Compare_int Tryz.cmpL x y W
  change Calls Tryz.prog 77 _ _ _ at hcon
  generalize Lib.compareInt x y = r at hcon ⊢
  go_enter Tryz.func76, Tryz.ntmps76
  go_wp2_with (go_at_call 77; refine hcon.mono ?_; rintro e w' ⟨rfl, rfl⟩)
  go_ret
  exact ⟨rfl, 0, rfl⟩
end Go.Proofs
namespace Go.Lg.Tryz
open Go Go.Proofs
def colS1 : SumEv := colS 68 [79, 80]
theorem col_ok : SumOK Tryz.prog colS1 := colS_ok ⟨_, Tryz.colL, rfl⟩ fun g hg => by
    simp only [List.mem_cons, List.not_mem_nil, or_false] at hg
    rcases hg with rfl | rfl
    · exact ⟨_, { Tryz.keyL69 with }, rfl⟩
    · exact ⟨_, { Tryz.keyL70 with }, rfl⟩
theorem S_ok : SumOK Tryz.prog S := orS_ok col_ok
  (sortS_ok ⟨_, Tryz.sortL, rfl⟩ (enters_of Tryz.func76 (by kernel_rfl) rfl) Tryz.order1)
end Go.Lg.Tryz
