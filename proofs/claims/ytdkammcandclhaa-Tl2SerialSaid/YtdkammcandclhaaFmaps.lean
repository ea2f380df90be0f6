/- The program by the evaluator's limit: what its functions come to. -/
import Derived.Test.YtdkammcandclhaaF0
namespace Go.Lg.Try
open Go Go.Proofs
set_option linter.unusedVariables false
set_option maxRecDepth 1000000
/-- maps.Keys[map[int]int,int,int] -/
noncomputable def F_maps_Keys_map_int_int_int_int (q1 : Option Nat) (h2 : AH) : Res := (let h3 := h2.push (.cells [(.map q1)] false false 1); (some ((fnV (some (k_maps_Keys_map_int_int_int_int_1, [], [(.pointer (some ⟨h2.n, 0, none⟩))]))), h3)))
theorem maps_Keys_map_int_int_int_int_le {q1 : Option Nat} {h2 : AH} : Le (F_maps_Keys_map_int_int_int_int q1 h2) (C k_maps_Keys_map_int_int_int_int [(.map q1)] h2) := C_of (by kernel_rfl) (by kernel_rfl)

/-- maps.Keys[map[int]int64,int,int64] -/
noncomputable def F_maps_Keys_map_int_int64_int_int64 (q1 : Option Nat) (h2 : AH) : Res := (let h3 := h2.push (.cells [(.map q1)] false false 1); (some ((fnV (some (k_maps_Keys_map_int_int64_int_int64_1, [], [(.pointer (some ⟨h2.n, 0, none⟩))]))), h3)))
theorem maps_Keys_map_int_int64_int_int64_le {q1 : Option Nat} {h2 : AH} : Le (F_maps_Keys_map_int_int64_int_int64 q1 h2) (C k_maps_Keys_map_int_int64_int_int64 [(.map q1)] h2) := C_of (by kernel_rfl) (by kernel_rfl)

end Go.Lg.Try
