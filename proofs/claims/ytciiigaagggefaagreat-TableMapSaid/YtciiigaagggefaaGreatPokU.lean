/- The oracle answers as the program does (with summaries, and functions that are taken by contract). -/
import Derived.Test.YtciiigaagggefaaGreatPsum
import Derived.Test.YtciiigaagggefaaGreatPstr
namespace Go.Lg.Tryz
open Go Go.Proofs
set_option maxRecDepth 1000000
def noKeep : Nat → Nat → Option (List Nat) := fun f k => cond (Nat.beq k 1000000) (cond (([] : List Nat).any (Nat.beq f)) (some [0]) none) none
theorem closed_run : closedL.all (fun f => isTrue ((ev Tryz.prog (drawEv Tryz.prog) colS1 strO noKeep 3000).call f [] ⟨0, .nil⟩)) = true := by kernel_rfl
theorem O_ok : CallsOK Tryz.prog O := evI_ok (orO_ok (trueOv_ok (ev_ok str_ok col_ok (draw_ok _) noKeep 3000).1 closed_run) str_ok) S_ok (draw_ok _) keepT
end Go.Lg.Tryz
