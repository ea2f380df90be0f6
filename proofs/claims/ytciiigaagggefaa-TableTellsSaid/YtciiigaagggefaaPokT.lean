/- The oracle answers as the program does. -/
import Derived.Test.YtciiigaagggefaaF0
import Derived.Test.YtciiigaagggefaaPstr
namespace Go.Lg.Try
open Go Go.Proofs
set_option maxRecDepth 1000000
def noKeep : Nat → Nat → Option (List Nat) := fun _ _ => none
theorem closed_run : closedL.all (fun f => isTrue ((ev Try.prog (drawEv Try.prog) noSum strO noKeep 2000).call f [] ⟨0, .nil⟩)) = true := by kernel_rfl
theorem ov_all : OvOK Try.prog (orO (trueOv closedL) strO) := orO_ok (trueOv_ok (ev_ok str_ok (noSum_ok _) (draw_ok _) noKeep 2000).1 closed_run) str_ok
theorem O_ok : CallsOK Try.prog O := evI_ok (orO_ok (trueOv_ok (ev_ok str_ok (noSum_ok _) (draw_ok _) noKeep 2000).1 closed_run) str_ok) (noSum_ok _) (draw_ok _) keepT
end Go.Lg.Try
