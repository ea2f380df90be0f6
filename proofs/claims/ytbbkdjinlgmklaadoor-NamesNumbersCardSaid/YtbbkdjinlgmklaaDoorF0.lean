/- The program by the evaluator's limit: names. -/
import Derived.Test.YtbbkdjinlgmklaaDoorEv38
import Derived.Test.YtbbkdjinlgmklaaDoorEv39
import Derived.Test.YtbbkdjinlgmklaaDoorProg
import Derived.KernelRfl
namespace Go.Lg.Tryd
open Go Go.Proofs
set_option linter.unusedVariables false
set_option maxRecDepth 1000000

def keepT : Nat → Nat → Option (List Nat) := keepOf [(3, [(2, [0, 1, 2, 3, 4, 20, 28]), (9, [1, 2]), (10, [0, 1]), (14, [1, 2]), (17, [1, 2]), (20, [1]), (24, [1, 3, 4]), (25, [0, 1, 3]), (29, [1, 3, 4]), (32, [1, 3, 4]), (35, [1, 3]), (38, [1, 3, 5, 6]), (41, [3, 5, 6, 8]), (44, [3, 5, 6, 8, 9, 10]), (47, [5, 6, 8, 9, 10, 12]), (50, [5, 6, 8, 9, 10, 12, 14]), (53, [5, 6, 8, 9, 10, 12, 14, 15, 16]), (56, [5, 6, 8, 9, 10, 12, 14, 15, 16, 18])]), (4, [(2, [6]), (11, [0, 1, 2]), (17, [0, 1, 2, 7, 8, 9]), (20, [0, 1, 2, 7, 8, 9, 10, 11]), (23, [0, 1, 2, 7, 8, 9, 10, 11, 12, 13]), (26, [0, 1, 2, 7, 8, 9, 10, 11, 12, 13, 14, 15]), (29, [0, 1, 2, 7, 8, 9, 10, 11, 12, 13, 14, 15, 16, 17, 18]), (32, [0, 1, 2, 7, 8, 9, 10, 11, 12, 13, 14, 15, 16, 17, 18, 19, 20, 21])]), (5, [(20, [1, 5]), (21, [1, 34, 35, 36]), (22, [1, 4]), (26, [1, 34, 35, 36, 37]), (35, [1, 34, 35, 36]), (38, [1]), (53, [])]), (6, [(14, [0, 3]), (18, [0, 3, 5, 6]), (19, [0, 2, 5]), (23, [0, 3, 5, 6]), (26, [0, 3, 5, 6]), (32, [0, 3, 6, 7, 71]), (35, [0, 3, 6, 7]), (38, [0, 5])]), (7, [(9, [0, 3, 4]), (10, [2, 3]), (14, [0, 3, 4]), (17, [0, 3, 4]), (20, [3])]), (8, [(11, [0]), (14, [0, 19]), (17, [0]), (26, [4]), (27, [4, 31, 32]), (28, [2, 3, 4]), (32, [4, 31, 32, 33]), (41, [4, 31, 32]), (44, [4])]), (9, [(6, [0, 7, 8]), (7, [0, 2, 3]), (11, [0, 7, 8, 9]), (20, [0, 7, 8]), (23, [0]), (32, [5])]), (11, [(2, [0])]), (12, [(9, [0, 3, 4]), (10, [2, 3]), (14, [0, 3, 4]), (17, [0, 3, 4]), (20, [3])]), (13, [(8, [0, 20]), (11, [0]), (17, [0]), (24, [0, 4, 5, 6]), (25, [2, 3, 4]), (29, [0, 4, 5, 6]), (32, [0, 4, 5, 6]), (35, [0, 4, 5, 6]), (41, [0, 4, 5, 6]), (47, [4]), (53, [4]), (54, [4, 7]), (55, [2, 3, 4]), (59, [4, 7]), (62, [4, 7]), (68, [4])]), (14, [(9, [0, 4, 5]), (10, [0, 2, 3, 4]), (14, [0, 4, 5]), (17, [0, 4, 5]), (23, [0, 4]), (29, [0, 4]), (30, [0, 4, 6]), (31, [0, 2, 3, 4]), (35, [0, 4, 6]), (38, [0, 4, 6]), (41, [0, 4]), (47, [0, 4]), (53, [4])]), (15, [(14, [5, 6]), (20, [5])]), (16, [(14, [5]), (20, [5])]), (17, [(11, [0, 1]), (12, [0, 1, 5]), (13, [4]), (17, [0, 1, 5]), (20, [0, 1, 5]), (26, [])]), (18, [(6, [0, 3]), (7, [0, 2]), (11, [0, 3]), (14, [0, 3]), (20, [0])]), (20, [(17, [5, 7]), (18, [5, 7, 9]), (19, [4]), (23, [5, 7, 9]), (26, [5, 7, 9]), (32, [])]), (23, [(20, [0, 1]), (32, [0, 1, 5]), (35, [0, 1, 5]), (36, [0, 1, 5, 39, 40, 41]), (37, [0, 1, 4, 5]), (41, [0, 1, 5, 39, 40, 41, 42]), (50, [0, 1, 5, 7, 39, 40, 41]), (53, [0, 1, 5, 39, 40, 41]), (56, [0, 1, 5]), (66, [1, 8, 63, 64, 65]), (67, [4, 8]), (71, [1, 8, 63, 64, 65, 66]), (80, [1, 8, 63, 64, 65]), (83, [8])]), (26, [(11, [0, 1]), (12, [0, 1, 12, 13]), (13, [4]), (17, [0, 1, 12, 13, 14]), (26, [0, 1, 12, 13]), (29, [])]), (27, [(11, [0, 1, 2, 3]), (17, [0, 1, 2, 3]), (23, [0, 1, 2, 3]), (33, [0, 1, 2, 3, 9, 10]), (34, [0, 8, 9, 10]), (38, [0, 1, 2, 3, 9, 10]), (44, [0, 1, 2, 3, 9, 10, 11]), (53, [0, 9, 10])]), (28, [(6, [0, 1, 7, 8]), (7, [4]), (11, [0, 1, 7, 8, 9]), (20, [0, 1, 7, 8]), (23, [])]), (29, [(11, [0, 1])]), (32, [(6, [1, 2, 10]), (7, [6]), (11, [1, 2, 10, 11, 12]), (20, [])]), (33, [(14, [0, 1]), (18, [0, 1, 6, 7]), (19, [0, 1, 4, 6]), (23, [0, 1, 6, 7]), (26, [0, 1, 6, 7]), (35, [0, 1, 6]), (41, [6])]), (34, [(11, [0, 1]), (17, [0, 1]), (18, [0, 1, 5]), (19, [4]), (29, [0, 1, 5, 6])]), (38, [(6, [2, 4]), (7, [2]), (11, [2, 4, 6]), (14, [2])]), (39, [(2, [2, 3]), (8, [0, 10])]), (41, [(11, [0, 1, 5, 16]), (32, [0, 1, 5]), (45, [0, 1, 5, 6, 7, 8, 9, 10]), (46, [4]), (50, [0, 1, 5, 6, 7, 8, 9, 10]), (62, [0, 1, 5, 6, 7, 8, 9, 10, 11]), (65, [0, 1, 5, 6, 7, 8, 9, 10]), (71, [0, 1, 5, 6, 7, 8, 9, 10]), (80, [0, 1, 5, 6, 7, 8, 9, 10, 107]), (89, []), (95, [0, 1, 5, 6, 7, 8, 9, 10, 132]), (104, [8, 13]), (107, [])]), (44, [(14, [0, 4]), (29, [0, 4, 5, 6]), (41, [0, 5, 8, 9]), (50, [0, 5, 8, 10]), (56, [0, 5, 8, 10]), (65, [0, 5, 8, 10, 11]), (71, [0, 5, 10, 11]), (80, [5, 10, 11, 12])]), (48, [(15, [0, 1, 5, 6, 7, 8, 9]), (16, [0, 1, 4, 5, 6, 7, 8]), (20, [0, 1, 5, 6, 7, 8, 9]), (23, [0, 1, 5, 6, 7, 8, 9]), (26, [0, 1, 5, 6, 7, 8]), (32, [0, 1, 5, 6, 7, 8]), (33, [0, 1, 5, 6, 7, 8, 10]), (34, [4]), (38, [0, 1, 5, 6, 7, 8, 10]), (56, [])]), (50, [(9, [0, 4, 5]), (10, [0, 2, 3, 4]), (14, [0, 4, 5]), (17, [0, 4, 5]), (20, [0, 4]), (24, [4, 6, 7, 8]), (25, [2, 3, 4, 6]), (29, [4, 6, 7, 8]), (32, [4, 6, 7, 8]), (38, [4, 6, 7, 8]), (41, [4, 6])])]
def closedL : List Nat := [11]
def libL : List Nat := [35, 34, 23, 25]
noncomputable def strO : Over := libO libL ((orO (onF 35 indexF) (orO (onF 34 countF) (orO (onF 23 joinF) (onF 25 (idxF 24 badR))))))
noncomputable def O : Orc := evI Tryd.prog (drawEv Tryd.prog) noSum (orO (trueOv closedL) strO) keepT
noncomputable def C (f : FuncId) (args : List Value) (h : AH) : Res := O.call f args h
abbrev k_gosem_cut_init : Nat := 2
abbrev k_law21_NamesNumbers : Nat := 3
abbrev k_law21_NamesTells : Nat := 4
abbrev k_law21_NamesBack : Nat := 5
abbrev k_law21_NamesUp : Nat := 6
abbrev k_law21_long : Nat := 7
abbrev k_names_Split : Nat := 8
abbrev k_names_Join : Nat := 9
abbrev k_names_Name : Nat := 10
abbrev k_law21_awake : Nat := 11
abbrev k_kit_CopyTexts : Nat := 12
abbrev k_ref21_Split : Nat := 13
abbrev k_ref21_Join : Nat := 14
abbrev k_names_Up : Nat := 15
abbrev k_ref21_Up : Nat := 16
abbrev k_kit_SameTexts : Nat := 17
abbrev k_ref21_Name : Nat := 18
abbrev k_names_Within : Nat := 19
abbrev k_ref21_Within : Nat := 20
abbrev k_strings_Split : Nat := 21
abbrev k_slices_Contains_string_string : Nat := 22
abbrev k_strings_Join : Nat := 23
abbrev k_names_Name_1 : Nat := 24
abbrev k_strings_IndexFunc : Nat := 25
abbrev k_slices_Equal_string_string : Nat := 26
abbrev k_strings_genSplit : Nat := 27
abbrev k_slices_Index_string_string : Nat := 28
abbrev k_strings_Builder_Grow : Nat := 29
abbrev k_strings_Builder_WriteString : Nat := 30
abbrev k_strings_Builder_String : Nat := 31
abbrev k_strings_indexFunc : Nat := 32
abbrev k_strings_explode : Nat := 33
abbrev k_strings_Count : Nat := 34
abbrev k_strings_Index : Nat := 35
abbrev k_strings_Builder_copyCheck : Nat := 36
abbrev k_strings_Builder_grow : Nat := 37
abbrev k_unicode_utf8_RuneCountInString : Nat := 38
abbrev k_unicode_utf8_DecodeRuneInString : Nat := 39
abbrev k_internal_stringslite_Index : Nat := 41
abbrev k_unicode_utf8_decodeRuneInStringSlow : Nat := 44
abbrev k_internal_stringslite_IndexByte : Nat := 45
abbrev k_internal_bytealg_Cutover : Nat := 47
abbrev k_internal_bytealg_IndexRabinKarp_string : Nat := 48
abbrev k_internal_bytealg_hashStr_string : Nat := 50
abbrev k_gosem_cut_vars : Nat := 73
abbrev y_ : Nat := 0
abbrev y_func : Nat := 1
abbrev y_int64 : Nat := 2
abbrev y_int : Nat := 3
abbrev y_bool : Nat := 4
abbrev y_uint8 : Nat := 5
abbrev y_abi_BoundsErrorCode : Nat := 6
abbrev y_struct_x_int64_y_int_signed_bool_code_abi_BoundsErrorCode : Nat := 7
abbrev y_runtime_boundsError : Nat := 8
abbrev y_string : Nat := 9
abbrev y_runtime_errorString : Nat := 10
abbrev y_runtime_plainError : Nat := 11
abbrev y_uintptr : Nat := 12
abbrev y_struct_msg_string_addr_uintptr : Nat := 13
abbrev y_runtime_errorAddressString : Nat := 14
abbrev y_P_runtime_TypeAssertionError : Nat := 15
abbrev y_P_runtime_PanicNilError : Nat := 16
abbrev y_P_abi_Type : Nat := 17
abbrev y_struct_typ_P_abi_Type : Nat := 18
abbrev y_maps_unhashableTypeError : Nat := 19
abbrev y_interface : Nat := 20
abbrev y_int32 : Nat := 21
abbrev y_func_int_string : Nat := 22
abbrev y_S_string : Nat := 23
abbrev y_api_Errno : Nat := 24
abbrev y_S_string_api_Errno : Nat := 25
abbrev y_func_string_S_string_api_Errno : Nat := 26
abbrev y_string_api_Errno : Nat := 27
abbrev y_func_S_string_string_api_Errno : Nat := 28
abbrev y_func_string_bool : Nat := 29
abbrev y_func_bool : Nat := 30
abbrev y_func_S_string_S_string : Nat := 31
abbrev y_string_string_api_Errno : Nat := 32
abbrev y_func_string_string_string_api_Errno : Nat := 33
abbrev y_func_S_string_S_string_bool : Nat := 34
abbrev y_func_string_string_bool : Nat := 35
abbrev y_func_string_string_S_string_bool : Nat := 36
abbrev y_func_string_S_string_bool : Nat := 37
abbrev y_S_uint8 : Nat := 38
abbrev y_func_string_string_S_string : Nat := 39
abbrev y_func_S_string_string_bool : Nat := 40
abbrev y_func_S_string_string_string : Nat := 41
abbrev y_func_int32_bool : Nat := 42
abbrev y_func_string_func_int32_bool_int : Nat := 43
abbrev y_func_string_string_int_int_S_string : Nat := 44
abbrev y_func_S_string_string_int : Nat := 45
abbrev y_P_strings_Builder : Nat := 46
abbrev y_struct_addr_P_strings_Builder_buf_S_uint8 : Nat := 47
abbrev y_strings_Builder : Nat := 48
abbrev y_func_int : Nat := 49
abbrev y_interface_Error_string : Nat := 50
abbrev y_error : Nat := 51
abbrev y_int_error : Nat := 52
abbrev y_func_string_int_error : Nat := 53
abbrev y_func_string : Nat := 54
abbrev y_func_string_func_int32_bool_bool_int : Nat := 55
abbrev y_func_string_int_S_string : Nat := 56
abbrev y_func_string_string_int : Nat := 57
abbrev y_P_uint8 : Nat := 58
abbrev y_func_string_int : Nat := 59
abbrev y_int32_int : Nat := 60
abbrev y_func_string_int32_int : Nat := 61
abbrev y_func_string_uint8_int : Nat := 62
abbrev y_unsafe_Pointer : Nat := 63
abbrev y_func_unsafe_Pointer_unsafe_Pointer : Nat := 64
abbrev y_func_int_S_uint8 : Nat := 65
abbrev y_func_int_int : Nat := 66
abbrev y_uint : Nat := 67
abbrev y_256_uint8 : Nat := 68
abbrev y_struct_lo_uint8_hi_uint8 : Nat := 69
abbrev y_utf8_acceptRange : Nat := 70
abbrev y_16_utf8_acceptRange : Nat := 71
abbrev y_uint32 : Nat := 72
abbrev y_uint32_uint32 : Nat := 73
abbrev y_func_string_uint32_uint32 : Nat := 74
abbrev y_runtime_TypeAssertionError : Nat := 76
abbrev y_0_P_runtime_PanicNilError : Nat := 77
abbrev y_struct___0_P_runtime_PanicNilError : Nat := 78
abbrev y_runtime_PanicNilError : Nat := 79
abbrev y_abi_TFlag : Nat := 81
abbrev y_abi_Kind : Nat := 82
abbrev y_func_unsafe_Pointer_unsafe_Pointer_bool : Nat := 83
abbrev y_abi_NameOff : Nat := 84
abbrev y_abi_TypeOff : Nat := 85
abbrev y_abi_Type : Nat := 87
theorem C_of {f : FuncId} {args : List Value} {h : AH} {x : Res} (hf : (closedL.any (Nat.beq f) || libL.any (Nat.beq f)) = false) (he : callF Tryd.prog (drawEv Tryd.prog) noSum O keepT f args h = x) : Le x (C f args h) := fun r hr => evI_call (draw_app _) (by rw [Bool.or_eq_false_iff] at hf; unfold orO trueOv strO libO; rw [hf.1, hf.2, Bool.and_false]; rfl) (he.trans hr)
theorem C_lib {f : FuncId} {args : List Value} {h : AH} {r : Value × AH} (hf : closedL.any (Nat.beq f) = false) (hr : strO f args h = some r) : C f args h = some r := evI_ov (by unfold orO trueOv; rw [hf, Bool.and_false]; exact hr)
theorem L_of {nt : Nat} {kp : Nat → Option (List Nat)} {b : Code} {tm : T Value} {h : AH} {K : Ex → T Value → AH → Res} {x : Res} (he : evC Tryd.prog (drawEv Tryd.prog) noSum O nt kp b tm h (loopK (fun tm h => O.loop nt kp b (scrubO tm (kp (3 * firstRegion b))) h K) K) = x) : Le x (O.loop nt kp b tm h K) := fun r hr => evI_loop (draw_app _) (he.trans hr)
theorem G_of {nt : Nat} {kp : Nat → Option (List Nat)} {b : Code} {tm : T Value} {h : AH} {K : Ex → T Value → AH → Res} {x : Res} (he : evC Tryd.prog (drawEv Tryd.prog) noSum O nt kp b tm h K = x) : Le x (O.code nt kp b tm h K) := fun r hr => evI_code (draw_app _) (he.trans hr)
theorem C_closed {f : FuncId} (hf : closedL.any (Nat.beq f) = true) (h : AH) : C f [] h = some (.bool true, h) := evI_ov (by unfold orO trueOv; rw [hf]; rfl)
end Go.Lg.Tryd
