/- The program by the evaluator's limit: what its functions come to. -/
import Derived.Test.YtplfjljdakkigaaF0
namespace Go.Lg.Try
open Go Go.Proofs
set_option linter.unusedVariables false
set_option maxRecDepth 1000000
/-- slices.Delete[[]int,int] -/
noncomputable def slices_Delete_int_int_j1 (a1 : Option Addr) (l2 : Nat) (c3 : Nat) (x4 : Int) (h6 : Lg.AH) (x5 : Int) : Res := O.code 33 (keepT k_slices_Delete_int_int) (codeAt Try.prog k_slices_Delete_int_int [1, 1, 1]) (((T.nil.set 2 (some (.int .i64 x5))).set 1 (some (.int .i64 x4))).set 0 (some (.slice a1 l2 c3))) h6 (endK Try.prog (resOf Try.prog k_slices_Delete_int_int))
theorem slices_Delete_int_int_j1_le {a1 : Option Addr} {l2 : Nat} {c3 : Nat} {x4 : Int} {h6 : Lg.AH} {x5 : Int} : Le (((slcE 1 a1 l2 c3 none (some (.int .i64 x4)) none h6).bind fun r9 => ((asS r9.1).bind fun t10 => ((slcE 1 a1 l2 c3 (some (.int .i64 x5)) none none h6).bind fun r11 => ((asS r11.1).bind fun t12 => ((appE 1 8 (.slice t10.1 t10.2.1 t10.2.2) (.slice t12.1 t12.2.1 t12.2.2) h6).bind fun r13 => ((asS r13.1).bind fun t14 => ((slcE 1 t14.1 t14.2.1 t14.2.2 (some (.int .i64 ((t14.2.1 : Nat) : Int))) (some (.int .i64 ((l2 : Nat) : Int))) none r13.2).bind fun r15 => ((asS r15.1).bind fun t16 => ((clrE [(.int .i64 0)] t16.1 t16.2.1 r13.2).bind fun h17 => (some ((.slice t14.1 t14.2.1 t14.2.2), h17)))))))))))) (slices_Delete_int_int_j1 a1 l2 c3 x4 h6 x5) := G_of (by kernel_rfl)
noncomputable def F_slices_Delete_int_int (a1 : Option Addr) (l2 : Nat) (c3 : Nat) (x4 : Int) (x5 : Int) (h6 : AH) : Res := ((slcE 1 a1 l2 c3 (some (.int .i64 x4)) (some (.int .i64 x5)) (some (.int .i64 ((l2 : Nat) : Int))) h6).bind fun r7 => ((asS r7.1).bind fun t8 => (cond (decide (x4 = x5)) (some ((.slice a1 l2 c3), h6)) (slices_Delete_int_int_j1 a1 l2 c3 x4 h6 x5))))
theorem slices_Delete_int_int_le {a1 : Option Addr} {l2 : Nat} {c3 : Nat} {x4 : Int} {x5 : Int} {h6 : AH} : Le (F_slices_Delete_int_int a1 l2 c3 x4 x5 h6) (C k_slices_Delete_int_int [(.slice a1 l2 c3), (.int .i64 x4), (.int .i64 x5)] h6) := C_of (by kernel_rfl) (by kernel_rfl)

/-- slices.Clone[[]int,int] -/
noncomputable def slices_Clone_int_int_j1 (h4 : Lg.AH) (a1 : Option Addr) (l2 : Nat) (c3 : Nat) : Res := O.code 8 (keepT k_slices_Clone_int_int) (codeAt Try.prog k_slices_Clone_int_int [1, 1]) (T.nil.set 0 (some (.slice a1 l2 c3))) h4 (endK Try.prog (resOf Try.prog k_slices_Clone_int_int))
theorem slices_Clone_int_int_j1_le {h4 : Lg.AH} {a1 : Option Addr} {l2 : Nat} {c3 : Nat} : Le ((let h5 := h4.push (.cells [] false false 1); ((appE 1 8 (.slice (some ⟨h4.n, 0, none⟩) 0 0) (.slice a1 l2 c3) h5).bind fun r6 => ((asS r6.1).bind fun t7 => (some ((.slice t7.1 t7.2.1 t7.2.2), r6.2)))))) (slices_Clone_int_int_j1 h4 a1 l2 c3) := G_of (by kernel_rfl)
noncomputable def F_slices_Clone_int_int (a1 : Option Addr) (l2 : Nat) (c3 : Nat) (h4 : AH) : Res := (cond ((a1).isNone) (some ((.slice none 0 0), h4)) (slices_Clone_int_int_j1 h4 a1 l2 c3))
theorem slices_Clone_int_int_le {a1 : Option Addr} {l2 : Nat} {c3 : Nat} {h4 : AH} : Le (F_slices_Clone_int_int a1 l2 c3 h4) (C k_slices_Clone_int_int [(.slice a1 l2 c3)] h4) := C_of (by kernel_rfl) (by kernel_rfl)
end Go.Lg.Try
