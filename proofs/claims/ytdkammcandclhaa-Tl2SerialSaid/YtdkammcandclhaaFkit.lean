/- The program by the evaluator's limit: what its functions come to. -/
import Derived.Test.YtdkammcandclhaaF0
namespace Go.Lg.Try
open Go Go.Proofs
set_option linter.unusedVariables false
set_option maxRecDepth 1000000
/-- ledgerstone/ledgerstonekit.Pick -/
noncomputable def kit_Pick_j1 (h3 : Lg.AH) (x4 : Int) : Res := O.code 16 (keepT k_kit_Pick) (codeAt Try.prog k_kit_Pick [1, 1, 1, 1]) (T.nil.set 0 (some (.int .i64 x4))) h3 (endK Try.prog none (resOf Try.prog k_kit_Pick))
noncomputable def kit_Pick_j2 (x2 : Int) (x1 : Int) (h3 : Lg.AH) : Res := O.code 16 (keepT k_kit_Pick) (codeAt Try.prog k_kit_Pick [1, 1]) ((T.nil.set 1 (some (.int .i64 x2))).set 0 (some (.int .i64 x1))) h3 (endK Try.prog none (resOf Try.prog k_kit_Pick))
theorem kit_Pick_j1_le {h3 : Lg.AH} {x4 : Int} : Le ((some ((.int .i64 x4), h3))) (kit_Pick_j1 h3 x4) := G_of (by kernel_rfl)
theorem kit_Pick_j2_le {x2 : Int} {x1 : Int} {h3 : Lg.AH} : Le ((cond (!decide (x2 = 0)) (cond (decide ((x1).tmod x2 < 0)) (kit_Pick_j1 h3 (IntKind.wrap .i64 (((x1).tmod x2) + x2))) (kit_Pick_j1 h3 ((x1).tmod x2))) none)) (kit_Pick_j2 x2 x1 h3) := G_of (by kernel_rfl)
noncomputable def F_kit_Pick (x1 : Int) (x2 : Int) (h3 : AH) : Res := (cond (decide (x2 < 1)) (some ((.int .i64 0), h3)) (kit_Pick_j2 x2 x1 h3))
theorem kit_Pick_le {x1 : Int} {x2 : Int} {h3 : AH} : Le (F_kit_Pick x1 x2 h3) (C k_kit_Pick [(.int .i64 x1), (.int .i64 x2)] h3) := C_of (by kernel_rfl) (by kernel_rfl)
end Go.Lg.Try
