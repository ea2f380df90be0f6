/- The program by the evaluator's limit: what its functions come to. -/
import Derived.Test.YtodbjmagcelfjaaGreatF0
namespace Go.Lg.Tryz
open Go Go.Proofs
set_option linter.unusedVariables false
set_option maxRecDepth 1000000
/-- cmp.Compare[int] -/
noncomputable def cmp_Compare_int_K1 : Ex → T Value → AH → Res := seqK (fun tm h => O.code 20 (keepT k_cmp_Compare_int) (codeAt Tryz.prog k_cmp_Compare_int [1, 1, 1, 1]) (scrubO tm (keepT k_cmp_Compare_int 23)) h (endK Tryz.prog none (resOf Tryz.prog k_cmp_Compare_int))) (endK Tryz.prog none (resOf Tryz.prog k_cmp_Compare_int))
noncomputable def cmp_Compare_int_j1 (h9 : Lg.AH) : Res := O.code 20 (keepT k_cmp_Compare_int) (codeAt Tryz.prog k_cmp_Compare_int [1, 1, 1, 1, 1, 1, 1]) T.nil h9 (endK Tryz.prog none (resOf Tryz.prog k_cmp_Compare_int))
noncomputable def cmp_Compare_int_j2 (x2 : Int) (x1 : Int) (h9 : Lg.AH) : Res := O.code 20 (keepT k_cmp_Compare_int) (codeAt Tryz.prog k_cmp_Compare_int [1, 1, 1, 1, 1, 1]) ((T.nil.set 1 (some (.int .i64 x2))).set 0 (some (.int .i64 x1))) h9 (endK Tryz.prog none (resOf Tryz.prog k_cmp_Compare_int))
noncomputable def cmp_Compare_int_j3 (x1 : Int) (x2 : Int) (h9 : Lg.AH) : Res := O.code 20 (keepT k_cmp_Compare_int) (codeAt Tryz.prog k_cmp_Compare_int [1, 1, 1, 1, 1]) ((T.nil.set 1 (some (.int .i64 x2))).set 0 (some (.int .i64 x1))) h9 (endK Tryz.prog none (resOf Tryz.prog k_cmp_Compare_int))
noncomputable def cmp_Compare_int_j4 (b7 : Bool) (x1 : Int) (x2 : Int) (h9 : Lg.AH) : Res := O.code 20 (keepT k_cmp_Compare_int) (codeAt Tryz.prog k_cmp_Compare_int [1, 1, 1, 1]) (((T.nil.set 6 (some (.bool b7))).set 1 (some (.int .i64 x2))).set 0 (some (.int .i64 x1))) h9 (endK Tryz.prog none (resOf Tryz.prog k_cmp_Compare_int))
noncomputable def cmp_Compare_int_j5 (h8 : Lg.AH) : Res := O.code 20 (keepT k_cmp_Compare_int) (codeAt Tryz.prog k_cmp_Compare_int [1, 1, 1, 0, 1, 0, 1]) T.nil h8 cmp_Compare_int_K1
theorem cmp_Compare_int_j1_le {h9 : Lg.AH} : Le ((some ((.int .i64 0), h9))) (cmp_Compare_int_j1 h9) := G_of (by kernel_rfl)
theorem cmp_Compare_int_j2_le {x2 : Int} {x1 : Int} {h9 : Lg.AH} : Le ((cond (decide (x2 < x1)) (some ((.int .i64 1), h9)) (cmp_Compare_int_j1 h9))) (cmp_Compare_int_j2 x2 x1 h9) := G_of (by kernel_rfl)
theorem cmp_Compare_int_j3_le {x1 : Int} {x2 : Int} {h9 : Lg.AH} : Le ((cond (decide (x1 < x2)) (some ((.int .i64 (-1)), h9)) (cmp_Compare_int_j2 x2 x1 h9))) (cmp_Compare_int_j3 x1 x2 h9) := G_of (by kernel_rfl)
theorem cmp_Compare_int_j4_le {b7 : Bool} {x1 : Int} {x2 : Int} {h9 : Lg.AH} : Le ((cond b7 (some ((.int .i64 1), h9)) (cmp_Compare_int_j3 x1 x2 h9))) (cmp_Compare_int_j4 b7 x1 x2 h9) := G_of (by kernel_rfl)
theorem cmp_Compare_int_j5_le {h8 : Lg.AH} : Le ((some ((.int .i64 (-1)), h8))) (cmp_Compare_int_j5 h8) := G_of (by kernel_rfl)
noncomputable def F_cmp_Compare_int (x1 : Int) (x2 : Int) (h3 : AH) : Res := ((C k_cmp_isNaN_int [(.int .i64 x1)] h3).bind fun r4 => ((asB r4.1).bind fun b5 => ((C k_cmp_isNaN_int [(.int .i64 x2)] r4.2).bind fun r6 => ((asB r6.1).bind fun b7 => (cond b5 (cond b7 (some ((.int .i64 0), r6.2)) (cmp_Compare_int_j5 r6.2)) (cmp_Compare_int_j4 b7 x1 x2 r6.2))))))
theorem cmp_Compare_int_le {x1 : Int} {x2 : Int} {h3 : AH} : Le (F_cmp_Compare_int x1 x2 h3) (C k_cmp_Compare_int [(.int .i64 x1), (.int .i64 x2)] h3) := C_of (by kernel_rfl) (by kernel_rfl)

/-- cmp.Less[int] -/
noncomputable def F_cmp_Less_int (x1 : Int) (x2 : Int) (h3 : AH) : Res := ((C k_cmp_isNaN_int [(.int .i64 x1)] h3).bind fun r4 => ((asB r4.1).bind fun b5 => (cond b5 ((C k_cmp_isNaN_int [(.int .i64 x2)] r4.2).bind fun r6 => ((asB r6.1).bind fun b7 => (cond (!b7) (some ((.bool true), r6.2)) (some ((.bool (decide (x1 < x2))), r6.2))))) (some ((.bool (decide (x1 < x2))), r4.2)))))
theorem cmp_Less_int_le {x1 : Int} {x2 : Int} {h3 : AH} : Le (F_cmp_Less_int x1 x2 h3) (C k_cmp_Less_int [(.int .i64 x1), (.int .i64 x2)] h3) := C_of (by kernel_rfl) (by kernel_rfl)

/-- cmp.isNaN[int] -/
noncomputable def F_cmp_isNaN_int (x1 : Int) (h2 : AH) : Res := (some ((.bool (!decide (x1 = x1))), h2))
theorem cmp_isNaN_int_le {x1 : Int} {h2 : AH} : Le (F_cmp_isNaN_int x1 h2) (C k_cmp_isNaN_int [(.int .i64 x1)] h2) := C_of (by kernel_rfl) (by kernel_rfl)
end Go.Lg.Tryz
