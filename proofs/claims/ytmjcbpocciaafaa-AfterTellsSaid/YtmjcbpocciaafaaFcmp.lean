/- The program by the evaluator's limit: what its functions come to. -/
import Derived.Test.YtmjcbpocciaafaaF0
namespace Go.Lg.Try
open Go Go.Proofs
set_option linter.unusedVariables false
set_option maxRecDepth 1000000
/-- cmp.Compare[int64] -/
noncomputable def cmp_Compare_int64_K1 : Ex → T Value → AH → Res := seqK (fun tm h => O.code 20 (keepT k_cmp_Compare_int64) (codeAt Try.prog k_cmp_Compare_int64 [1, 1, 1, 1]) (scrubO tm (keepT k_cmp_Compare_int64 23)) h (endK Try.prog none (resOf Try.prog k_cmp_Compare_int64))) (endK Try.prog none (resOf Try.prog k_cmp_Compare_int64))
noncomputable def cmp_Compare_int64_j1 (h9 : Lg.AH) : Res := O.code 20 (keepT k_cmp_Compare_int64) (codeAt Try.prog k_cmp_Compare_int64 [1, 1, 1, 1, 1, 1, 1]) T.nil h9 (endK Try.prog none (resOf Try.prog k_cmp_Compare_int64))
noncomputable def cmp_Compare_int64_j2 (x2 : Int) (x1 : Int) (h9 : Lg.AH) : Res := O.code 20 (keepT k_cmp_Compare_int64) (codeAt Try.prog k_cmp_Compare_int64 [1, 1, 1, 1, 1, 1]) ((T.nil.set 1 (some (.int .i64 x2))).set 0 (some (.int .i64 x1))) h9 (endK Try.prog none (resOf Try.prog k_cmp_Compare_int64))
noncomputable def cmp_Compare_int64_j3 (x1 : Int) (x2 : Int) (h9 : Lg.AH) : Res := O.code 20 (keepT k_cmp_Compare_int64) (codeAt Try.prog k_cmp_Compare_int64 [1, 1, 1, 1, 1]) ((T.nil.set 1 (some (.int .i64 x2))).set 0 (some (.int .i64 x1))) h9 (endK Try.prog none (resOf Try.prog k_cmp_Compare_int64))
noncomputable def cmp_Compare_int64_j4 (b7 : Bool) (x1 : Int) (x2 : Int) (h9 : Lg.AH) : Res := O.code 20 (keepT k_cmp_Compare_int64) (codeAt Try.prog k_cmp_Compare_int64 [1, 1, 1, 1]) (((T.nil.set 6 (some (.bool b7))).set 1 (some (.int .i64 x2))).set 0 (some (.int .i64 x1))) h9 (endK Try.prog none (resOf Try.prog k_cmp_Compare_int64))
noncomputable def cmp_Compare_int64_j5 (h8 : Lg.AH) : Res := O.code 20 (keepT k_cmp_Compare_int64) (codeAt Try.prog k_cmp_Compare_int64 [1, 1, 1, 0, 1, 0, 1]) T.nil h8 cmp_Compare_int64_K1
theorem cmp_Compare_int64_j1_le {h9 : Lg.AH} : Le ((some ((.int .i64 0), h9))) (cmp_Compare_int64_j1 h9) := G_of (by kernel_rfl)
theorem cmp_Compare_int64_j2_le {x2 : Int} {x1 : Int} {h9 : Lg.AH} : Le ((cond (decide (x2 < x1)) (some ((.int .i64 1), h9)) (cmp_Compare_int64_j1 h9))) (cmp_Compare_int64_j2 x2 x1 h9) := G_of (by kernel_rfl)
theorem cmp_Compare_int64_j3_le {x1 : Int} {x2 : Int} {h9 : Lg.AH} : Le ((cond (decide (x1 < x2)) (some ((.int .i64 (-1)), h9)) (cmp_Compare_int64_j2 x2 x1 h9))) (cmp_Compare_int64_j3 x1 x2 h9) := G_of (by kernel_rfl)
theorem cmp_Compare_int64_j4_le {b7 : Bool} {x1 : Int} {x2 : Int} {h9 : Lg.AH} : Le ((cond b7 (some ((.int .i64 1), h9)) (cmp_Compare_int64_j3 x1 x2 h9))) (cmp_Compare_int64_j4 b7 x1 x2 h9) := G_of (by kernel_rfl)
theorem cmp_Compare_int64_j5_le {h8 : Lg.AH} : Le ((some ((.int .i64 (-1)), h8))) (cmp_Compare_int64_j5 h8) := G_of (by kernel_rfl)
noncomputable def F_cmp_Compare_int64 (x1 : Int) (x2 : Int) (h3 : AH) : Res := ((C k_cmp_isNaN_int64 [(.int .i64 x1)] h3).bind fun r4 => ((asB r4.1).bind fun b5 => ((C k_cmp_isNaN_int64 [(.int .i64 x2)] r4.2).bind fun r6 => ((asB r6.1).bind fun b7 => (cond b5 (cond b7 (some ((.int .i64 0), r6.2)) (cmp_Compare_int64_j5 r6.2)) (cmp_Compare_int64_j4 b7 x1 x2 r6.2))))))
theorem cmp_Compare_int64_le {x1 : Int} {x2 : Int} {h3 : AH} : Le (F_cmp_Compare_int64 x1 x2 h3) (C k_cmp_Compare_int64 [(.int .i64 x1), (.int .i64 x2)] h3) := C_of (by kernel_rfl) (by kernel_rfl)

/-- cmp.isNaN[int64] -/
noncomputable def F_cmp_isNaN_int64 (x1 : Int) (h2 : AH) : Res := (some ((.bool (!decide (x1 = x1))), h2))
theorem cmp_isNaN_int64_le {x1 : Int} {h2 : AH} : Le (F_cmp_isNaN_int64 x1 h2) (C k_cmp_isNaN_int64 [(.int .i64 x1)] h2) := C_of (by kernel_rfl) (by kernel_rfl)
end Go.Lg.Try
