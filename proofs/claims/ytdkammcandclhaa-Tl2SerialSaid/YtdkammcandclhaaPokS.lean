/- The oracle answers as the program does (with the library's functions that are taken by contract). -/
import Derived.Test.YtdkammcandclhaaPsum
namespace Go.Lg.Try
open Go Go.Proofs
set_option maxRecDepth 1000000
def noKeep : Nat → Nat → Option (List Nat) := fun f k => cond (Nat.beq k 1000000) (cond (([31] : List Nat).any (Nat.beq f)) (some [0]) none) none
theorem closed_run : closedL.all (fun f => isTrue ((ev Try.prog (drawEv Try.prog) colS1 noOv noKeep 3000).call f [] ⟨0, .nil⟩)) = true := by kernel_rfl
theorem O_ok : CallsOK Try.prog O := evI_ok (orO_ok (trueOv_ok (ev_ok (noOv_ok _) col_ok (draw_ok _) noKeep 3000).1 closed_run) (noOv_ok _)) S_ok (draw_ok _) keepT
end Go.Lg.Try
