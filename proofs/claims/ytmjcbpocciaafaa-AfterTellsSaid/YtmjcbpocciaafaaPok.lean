/- The oracle answers as the program does. -/
import Derived.Test.YtmjcbpocciaafaaF0
namespace Go.Lg.Try
open Go Go.Proofs
set_option maxRecDepth 1000000
def noKeep : Nat → Nat → Option (List Nat) := fun _ _ => none
theorem closed_run : closedL.all (fun f => isTrue ((ev Try.prog (drawEv Try.prog) noSum noOv noKeep 2000).call f [] ⟨0, .nil⟩)) = true := by kernel_rfl
theorem O_ok : CallsOK Try.prog O := evI_ok (orO_ok (trueOv_ok (ev_ok (noOv_ok _) (noSum_ok _) (draw_ok _) noKeep 2000).1 closed_run) (noOv_ok _)) (noSum_ok _) (draw_ok _) keepT
end Go.Lg.Try
