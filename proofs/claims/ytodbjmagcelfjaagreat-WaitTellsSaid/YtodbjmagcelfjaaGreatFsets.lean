/- The program by the evaluator's limit: what its functions come to. -/
import Derived.Test.YtodbjmagcelfjaaGreatF0
namespace Go.Lg.Tryz
open Go Go.Proofs
set_option linter.unusedVariables false
set_option maxRecDepth 1000000
/-- ledgerstone/sets.New[int] -/
noncomputable def F_sets_New_int (h1 : AH) : Res := (let h2 := h1.push (.map [] 0); (let h3 := h2.push (.map [] 0); (let h4 := h3.push (.cells [(.map (some h1.n)), (.map (some h2.n)), (.slice none 0 0), (.slice none 0 0)] false false 4); (some ((.pointer (some ⟨h3.n, 0, none⟩)), h4)))))
theorem sets_New_int_le {h1 : AH} : Le (F_sets_New_int h1) (C k_sets_New_int [] h1) := C_of (by kernel_rfl) (by kernel_rfl)

/-- (*ledgerstone/sets.Sets[int]).Value -/
noncomputable def sets_Sets_int_Value_j1 (p1 : Option Addr) (x2 : Int) (h6 : Lg.AH) : Res := O.code 24 (keepT k_sets_Sets_int_Value) (codeAt Tryz.prog k_sets_Sets_int_Value [1, 1]) ((T.nil.set 1 (some (.int .i64 x2))).set 0 (some (.pointer p1))) h6 (endK Tryz.prog none (resOf Tryz.prog k_sets_Sets_int_Value))
theorem sets_Sets_int_Value_j1_le {p1 : Option Addr} {x2 : Int} {h6 : Lg.AH} : Le ((p1.bind fun a7 => ((h6.ldM a7.block (a7.off + 1)).bind fun q8 => ((mapOf h6 (.map q8)).bind fun m9 => ((lookE Tryz.prog (.int .i64) 3 (.int .i64 x2) m9).bind fun o10 => ((asI .i64 o10.1).bind fun x11 => (some ((.tuple #[(.int .i64 x11), (.bool o10.2)]), h6)))))))) (sets_Sets_int_Value_j1 p1 x2 h6) := G_of (by kernel_rfl)
noncomputable def F_sets_Sets_int_Value (p1 : Option Addr) (x2 : Int) (h3 : AH) : Res := ((C k_sets_Sets_int_right [(.pointer p1)] h3).bind fun r4 => ((asB r4.1).bind fun b5 => (cond (!b5) (some ((.tuple #[(.int .i64 0), (.bool false)]), r4.2)) (sets_Sets_int_Value_j1 p1 x2 r4.2))))
theorem sets_Sets_int_Value_le {p1 : Option Addr} {x2 : Int} {h3 : AH} : Le (F_sets_Sets_int_Value p1 x2 h3) (C k_sets_Sets_int_Value [(.pointer p1), (.int .i64 x2)] h3) := C_of (by kernel_rfl) (by kernel_rfl)

/-- (*ledgerstone/sets.Sets[int]).Seen -/
noncomputable def sets_Sets_int_Seen_j1 (p1 : Option Addr) (x2 : Int) (h6 : Lg.AH) : Res := O.code 22 (keepT k_sets_Sets_int_Seen) (codeAt Tryz.prog k_sets_Sets_int_Seen [1, 1]) ((T.nil.set 1 (some (.int .i64 x2))).set 0 (some (.pointer p1))) h6 (endK Tryz.prog none (resOf Tryz.prog k_sets_Sets_int_Seen))
theorem sets_Sets_int_Seen_j1_le {p1 : Option Addr} {x2 : Int} {h6 : Lg.AH} : Le ((p1.bind fun a7 => ((h6.ldM a7.block (a7.off + 0)).bind fun q8 => ((mapOf h6 (.map q8)).bind fun m9 => ((lookE Tryz.prog (.int .i64) 2 (.int .i64 x2) m9).bind fun o10 => ((asI .i64 o10.1).bind fun x11 => (some ((.tuple #[(.int .i64 x11), (.bool o10.2)]), h6)))))))) (sets_Sets_int_Seen_j1 p1 x2 h6) := G_of (by kernel_rfl)
noncomputable def F_sets_Sets_int_Seen (p1 : Option Addr) (x2 : Int) (h3 : AH) : Res := ((C k_sets_Sets_int_right [(.pointer p1)] h3).bind fun r4 => ((asB r4.1).bind fun b5 => (cond (!b5) (some ((.tuple #[(.int .i64 0), (.bool false)]), r4.2)) (sets_Sets_int_Seen_j1 p1 x2 r4.2))))
theorem sets_Sets_int_Seen_le {p1 : Option Addr} {x2 : Int} {h3 : AH} : Le (F_sets_Sets_int_Seen p1 x2 h3) (C k_sets_Sets_int_Seen [(.pointer p1), (.int .i64 x2)] h3) := C_of (by kernel_rfl) (by kernel_rfl)

/-- (*ledgerstone/sets.Sets[int]).Read -/
noncomputable def sets_Sets_int_Read_K1 : Ex → T Value → AH → Res := seqK (fun tm h => O.code 52 (keepT k_sets_Sets_int_Read) (codeAt Tryz.prog k_sets_Sets_int_Read [1, 1, 1, 1]) (scrubO tm (keepT k_sets_Sets_int_Read 35)) h (endK Tryz.prog none (resOf Tryz.prog k_sets_Sets_int_Read))) (endK Tryz.prog none (resOf Tryz.prog k_sets_Sets_int_Read))
noncomputable def sets_Sets_int_Read_K2 : Ex → T Value → AH → Res := blkK 0 sets_Sets_int_Read_K1
noncomputable def sets_Sets_int_Read_j1 (p1 : Option Addr) (h7 : Lg.AH) (x2 : Int) (x3 : Int) : Res := O.code 52 (keepT k_sets_Sets_int_Read) (codeAt Tryz.prog k_sets_Sets_int_Read [1, 1, 1, 1]) (((T.nil.set 2 (some (.int .i64 x3))).set 1 (some (.int .i64 x2))).set 0 (some (.pointer p1))) h7 (endK Tryz.prog none (resOf Tryz.prog k_sets_Sets_int_Read))
noncomputable def sets_Sets_int_Read_j2 (h7 : Lg.AH) (p1 : Option Addr) (x2 : Int) (x3 : Int) (b13 : Bool) (b14 : Bool) : Res := O.code 52 (keepT k_sets_Sets_int_Read) (codeAt Tryz.prog k_sets_Sets_int_Read [1, 1, 1, 0, 0, 1, 1, 1]) (((((T.nil.set 28 (some (.bool b14))).set 9 (some (.bool b13))).set 2 (some (.int .i64 x3))).set 1 (some (.int .i64 x2))).set 0 (some (.pointer p1))) h7 sets_Sets_int_Read_K2
noncomputable def sets_Sets_int_Read_j3 (p1 : Option Addr) (x2 : Int) (x3 : Int) (h7 : Lg.AH) : Res := O.code 52 (keepT k_sets_Sets_int_Read) (codeAt Tryz.prog k_sets_Sets_int_Read [1, 1]) (((T.nil.set 2 (some (.int .i64 x3))).set 1 (some (.int .i64 x2))).set 0 (some (.pointer p1))) h7 (endK Tryz.prog none (resOf Tryz.prog k_sets_Sets_int_Read))
theorem sets_Sets_int_Read_j1_le {p1 : Option Addr} {h7 : Lg.AH} {x2 : Int} {x3 : Int} : Le ((p1.bind fun a18 => ((h7.ldM a18.block (a18.off + 0)).bind fun q19 => ((aput (.int .i64) (.map q19) (.int .i64 x2) (.int .i64 x3) h7).bind fun h20 => (some ((.int .i64 0), h20)))))) (sets_Sets_int_Read_j1 p1 h7 x2 x3) := G_of (by kernel_rfl)
theorem sets_Sets_int_Read_j2_le {h7 : Lg.AH} {p1 : Option Addr} {x2 : Int} {x3 : Int} {b13 : Bool} {b14 : Bool} : Le ((cond b14 (some ((.int .i64 131), h7)) (cond (!b13) (p1.bind fun a15 => ((h7.ldM a15.block (a15.off + 0)).bind fun q16 => ((mapOf h7 (.map q16)).bind fun m17 => (cond (decide (((m17.length : Nat) : Int) = 256)) (some ((.int .i64 3), h7)) (sets_Sets_int_Read_j1 p1 h7 x2 x3))))) (sets_Sets_int_Read_j1 p1 h7 x2 x3)))) (sets_Sets_int_Read_j2 h7 p1 x2 x3 b13 b14) := G_of (by kernel_rfl)
theorem sets_Sets_int_Read_j3_le {p1 : Option Addr} {x2 : Int} {x3 : Int} {h7 : Lg.AH} : Le ((p1.bind fun a8 => ((h7.ldM a8.block (a8.off + 0)).bind fun q9 => ((mapOf h7 (.map q9)).bind fun m10 => ((lookE Tryz.prog (.int .i64) 2 (.int .i64 x2) m10).bind fun o11 => ((asI .i64 o11.1).bind fun x12 => (cond (decide (x3 < 0)) (some ((.int .i64 2), h7)) (cond o11.2 (sets_Sets_int_Read_j2 h7 p1 x2 x3 o11.2 (!decide (x12 = x3))) (sets_Sets_int_Read_j2 h7 p1 x2 x3 o11.2 false))))))))) (sets_Sets_int_Read_j3 p1 x2 x3 h7) := G_of (by kernel_rfl)
noncomputable def F_sets_Sets_int_Read (p1 : Option Addr) (x2 : Int) (x3 : Int) (h4 : AH) : Res := ((C k_sets_Sets_int_may [(.pointer p1), (.int .i64 x2)] h4).bind fun r5 => ((asI .i64 r5.1).bind fun x6 => (cond (!decide (x6 = 0)) (some ((.int .i64 x6), r5.2)) (sets_Sets_int_Read_j3 p1 x2 x3 r5.2))))
theorem sets_Sets_int_Read_le {p1 : Option Addr} {x2 : Int} {x3 : Int} {h4 : AH} : Le (F_sets_Sets_int_Read p1 x2 x3 h4) (C k_sets_Sets_int_Read [(.pointer p1), (.int .i64 x2), (.int .i64 x3)] h4) := C_of (by kernel_rfl) (by kernel_rfl)

/-- (*ledgerstone/sets.Sets[int]).may -/
noncomputable def sets_Sets_int_may_j1 (h6 : Lg.AH) : Res := O.code 16 (keepT k_sets_Sets_int_may) (codeAt Tryz.prog k_sets_Sets_int_may [1, 1]) T.nil h6 (endK Tryz.prog none (resOf Tryz.prog k_sets_Sets_int_may))
theorem sets_Sets_int_may_j1_le {h6 : Lg.AH} : Le ((some ((.int .i64 0), h6))) (sets_Sets_int_may_j1 h6) := G_of (by kernel_rfl)
noncomputable def F_sets_Sets_int_may (p1 : Option Addr) (x2 : Int) (h3 : AH) : Res := ((C k_sets_Sets_int_right [(.pointer p1)] h3).bind fun r4 => ((asB r4.1).bind fun b5 => (cond (!b5) (some ((.int .i64 1), r4.2)) (cond (decide (x2 < 0)) (some ((.int .i64 2), r4.2)) (cond (!decide (x2 < 1024)) (some ((.int .i64 2), r4.2)) (sets_Sets_int_may_j1 r4.2))))))
theorem sets_Sets_int_may_le {p1 : Option Addr} {x2 : Int} {h3 : AH} : Le (F_sets_Sets_int_may p1 x2 h3) (C k_sets_Sets_int_may [(.pointer p1), (.int .i64 x2)] h3) := C_of (by kernel_rfl) (by kernel_rfl)

/-- (*ledgerstone/sets.Sets[int]).right -/
noncomputable def F_sets_Sets_int_right (p1 : Option Addr) (h2 : AH) : Res := (cond (!((p1).isNone)) (p1.bind fun a3 => ((h2.ldM a3.block (a3.off + 0)).bind fun q4 => (some ((.bool (!((q4).isNone))), h2)))) (some ((.bool false), h2)))
theorem sets_Sets_int_right_le {p1 : Option Addr} {h2 : AH} : Le (F_sets_Sets_int_right p1 h2) (C k_sets_Sets_int_right [(.pointer p1)] h2) := C_of (by kernel_rfl) (by kernel_rfl)

/-- (*ledgerstone/sets.Sets[int]).Reads -/
noncomputable def sets_Sets_int_Reads_j1 (p1 : Option Addr) (h5 : Lg.AH) : Res := O.code 13 (keepT k_sets_Sets_int_Reads) (codeAt Tryz.prog k_sets_Sets_int_Reads [1, 1]) (T.nil.set 0 (some (.pointer p1))) h5 (endK Tryz.prog none (resOf Tryz.prog k_sets_Sets_int_Reads))
theorem sets_Sets_int_Reads_j1_le {p1 : Option Addr} {h5 : Lg.AH} : Le ((p1.bind fun a6 => ((h5.ldM a6.block (a6.off + 0)).bind fun q7 => ((C k_maps_Keys_map_int_int64_int_int64 [(.map q7)] h5).bind fun r8 => ((asG r8.1).bind fun f9 => (sumK (collectF [192, 230, 233, 307] [(fnV f9)] r8.2) (fun l11 => allR (l11.map fun q10 => ((asS q10.1).bind fun t12 => ((C k_sets_order [(.slice t12.1 t12.2.1 t12.2.2)] q10.2).bind fun r13 => ((asS r13.1).bind fun t14 => (some ((.slice t14.1 t14.2.1 t14.2.2), r13.2))))))) ((C k_slices_Collect_int [(fnV f9)] r8.2).bind fun r15 => ((asS r15.1).bind fun t16 => ((C k_sets_order [(.slice t16.1 t16.2.1 t16.2.2)] r15.2).bind fun r17 => ((asS r17.1).bind fun t18 => (some ((.slice t18.1 t18.2.1 t18.2.2), r17.2)))))))))))) (sets_Sets_int_Reads_j1 p1 h5) := G_of (by kernel_rfl)
noncomputable def F_sets_Sets_int_Reads (p1 : Option Addr) (h2 : AH) : Res := ((C k_sets_Sets_int_right [(.pointer p1)] h2).bind fun r3 => ((asB r3.1).bind fun b4 => (cond (!b4) (some ((.slice none 0 0), r3.2)) (sets_Sets_int_Reads_j1 p1 r3.2))))
theorem sets_Sets_int_Reads_le {p1 : Option Addr} {h2 : AH} : Le (F_sets_Sets_int_Reads p1 h2) (C k_sets_Sets_int_Reads [(.pointer p1)] h2) := C_of (by kernel_rfl) (by kernel_rfl)

/-- ledgerstone/sets.order -/
noncomputable def F_sets_order (a1 : Option Addr) (l2 : Nat) (c3 : Nat) (h4 : AH) : Res := (sumK (sortF 228 [(.slice a1 l2 c3), (fnV (some (k_sets_order_1, [], [])))] h4) (fun l6 => allR (l6.map fun q5 => ((asTu q5.1).bind fun g7 => (cond g7.isEmpty (some ((.slice a1 l2 c3), q5.2)) none)))) ((C k_slices_SortFunc_int_int [(.slice a1 l2 c3), (fnV (some (k_sets_order_1, [], [])))] h4).bind fun r8 => ((asTu r8.1).bind fun g9 => (cond g9.isEmpty (some ((.slice a1 l2 c3), r8.2)) none))))
theorem sets_order_le {a1 : Option Addr} {l2 : Nat} {c3 : Nat} {h4 : AH} : Le (F_sets_order a1 l2 c3 h4) (C k_sets_order [(.slice a1 l2 c3)] h4) := C_of (by kernel_rfl) (by kernel_rfl)

end Go.Lg.Tryz
