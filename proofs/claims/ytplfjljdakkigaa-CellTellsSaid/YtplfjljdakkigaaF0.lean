/- The program by the evaluator's limit: names. -/
import Derived.Test.YtplfjljdakkigaaEv27
import Derived.Test.YtplfjljdakkigaaProg
import Derived.KernelRfl
namespace Go.Lg.Try
open Go Go.Proofs
set_option linter.unusedVariables false
set_option maxRecDepth 1000000

def keepT : Nat → Nat → Option (List Nat) := keepOf [(3, [(14, [1])]), (4, [(14, [0, 3]), (18, [0, 3, 5, 6]), (19, [2]), (23, [0, 3, 5, 6]), (26, [0, 3, 5, 6]), (32, [0, 3, 5, 6, 7, 8]), (47, [0, 3, 5, 6, 7, 8, 51, 56]), (56, [0, 3, 5, 6, 7, 9]), (74, [0, 3, 5, 6, 7, 10]), (86, [0, 3, 5, 6, 7, 8, 118]), (95, [0, 3, 5, 6, 7, 11]), (101, [0, 3, 5, 6]), (102, [0, 3, 5, 6, 151]), (103, [0, 2, 3, 5, 6]), (107, [0, 3, 5, 6, 151, 152]), (119, [0, 3, 5, 6, 151]), (122, [])]), (5, [(14, [0, 3]), (21, [0, 3, 5, 6, 7]), (22, [2]), (26, [0, 3, 5, 6, 7]), (29, [0, 3, 5, 6, 7]), (59, [0, 3, 5, 6, 7, 8, 11, 13, 49, 62]), (74, [0, 3, 5, 6, 7, 8, 11, 13, 79]), (83, [0, 3, 5, 6, 7, 8, 13]), (84, [0, 3, 5, 6, 7, 8, 13, 100]), (85, [0, 2, 3, 5, 6, 7]), (89, [0, 3, 5, 6, 7, 8, 13, 100, 101]), (101, [0, 3, 5, 6, 7, 8, 13, 14, 15, 16, 100]), (104, [0, 3, 5, 6, 7, 8, 13, 14, 15, 16, 100, 157]), (107, [0, 3, 5, 6, 7, 8, 13, 14, 15, 16, 100]), (110, [0, 3, 5, 6, 7, 8, 13, 100]), (113, [])]), (6, [(23, [80]), (26, []), (30, [8, 9]), (31, [0, 8]), (35, [8, 9]), (38, [8, 9]), (47, [8, 9, 118]), (50, [8]), (51, [8, 15]), (52, [0, 8]), (56, [8, 15]), (59, [8, 15]), (68, [8])]), (7, [(21, [0, 1, 5, 6, 7, 8, 26, 27]), (22, [0, 1, 4, 5, 6, 7, 8]), (26, [0, 1, 5, 6, 7, 8, 26, 27, 28]), (32, [0, 1, 5, 6, 7, 8, 26, 27]), (35, [0, 1, 5, 6, 7, 8]), (36, [0, 1, 5, 6, 7, 8, 10]), (37, [0, 1, 4, 7]), (41, [0, 1, 5, 6, 7, 8, 10]), (44, [0, 1, 5, 6, 7, 8, 10]), (53, [0, 1, 7]), (54, [0, 1, 7, 13]), (55, [4]), (59, [0, 1, 7, 13]), (62, [0, 1, 7, 13]), (63, [0, 1, 7, 13, 14]), (64, [0, 1, 4, 7, 13]), (68, [0, 1, 7, 13, 14]), (71, [0, 1, 7, 13, 14]), (77, [0, 1, 7, 13, 14, 86]), (80, [])]), (8, [(17, [0, 1, 5, 6, 7]), (23, [0, 1, 5, 7]), (24, [0, 1, 5, 7, 9]), (25, [0, 4, 5, 7]), (29, [0, 1, 5, 7, 9]), (32, [0, 1, 5, 7, 9]), (56, [0, 1, 5, 7, 9, 10, 14, 16]), (74, [0, 1, 5, 7, 9, 10, 20, 22]), (89, [0, 1, 5, 7, 9, 10, 11, 12, 64, 132]), (104, [0, 1, 5, 7, 9, 10, 11, 12, 161]), (107, [0, 1, 5, 7, 9, 10, 11, 12]), (113, [0, 5, 7]), (114, [0, 5, 7, 23]), (115, [0, 4, 5]), (119, [0, 5, 7, 23]), (122, [0, 5, 7, 23]), (131, [0, 5, 7, 23, 247]), (134, [0, 5])]), (9, [(2, [2])]), (10, [(26, [0, 1, 5, 6, 7, 8]), (27, [0, 1, 5, 6, 7, 8, 9]), (28, [1, 4, 5, 6, 7, 8]), (32, [0, 1, 5, 6, 7, 8, 9]), (35, [0, 1, 5, 6, 7, 8, 9]), (39, [0, 1, 5, 6, 7, 8, 9, 10, 48, 49]), (40, [0, 1, 4, 5, 6, 7, 8, 9, 10]), (44, [0, 1, 5, 6, 7, 8, 9, 10, 48, 49, 50]), (53, [0, 1, 5, 6, 7, 8, 9, 10, 48, 49]), (56, [0, 1, 5, 6, 7, 8, 9, 10]), (65, [0, 1, 5, 6, 7, 8, 9, 10, 14, 108]), (68, [0, 1, 5, 6, 7, 8, 9, 10, 14]), (74, [1, 5, 6, 7, 8]), (75, [1, 5, 6, 7, 8, 15]), (76, [4, 5, 6, 8]), (80, [1, 5, 6, 7, 8, 15]), (83, [1, 5, 6, 7, 8, 15]), (107, [1, 5, 6, 7, 8, 15]), (110, [1, 5, 6, 7, 8, 15, 203]), (113, [5, 6, 8]), (114, [5, 6, 8, 23]), (115, [4, 5, 8]), (119, [5, 6, 8, 23]), (122, [5, 6, 8, 23]), (128, [5, 8]), (129, [5, 8, 24]), (130, [4, 5, 8]), (134, [5, 8, 24]), (137, [5, 8, 24]), (143, [5, 8])]), (11, [(2, [2])]), (12, [(23, [0, 1, 5, 6, 7]), (24, [0, 1, 5, 6, 7, 33, 34]), (25, [0, 1, 4, 6, 7]), (29, [0, 1, 5, 6, 7, 33, 34, 35]), (41, [0, 1, 5, 6, 7, 33, 34]), (44, [0, 1, 6, 7]), (48, [0, 1, 6, 7, 11, 12]), (49, [0, 4, 6, 7, 11]), (53, [0, 1, 6, 7, 11, 12]), (56, [0, 1, 6, 7, 11, 12]), (68, [0, 1, 6, 7, 11, 12, 13, 14, 15, 16]), (71, [0, 1, 6, 7, 11, 12, 13, 14, 15]), (78, [0, 1, 6, 7, 11, 12, 13, 14, 15, 17, 84, 85, 86]), (79, [0, 1, 4, 6, 7, 11, 12, 13, 14, 15, 17]), (83, [0, 1, 6, 7, 11, 12, 13, 14, 15, 17, 84, 85, 86, 87]), (89, [0, 1, 6, 7, 11, 12, 13, 14, 15, 17, 84, 85, 86]), (92, [0, 1, 6, 7, 11, 12, 13, 14, 15, 17]), (98, [0, 6, 7, 11]), (102, [0, 6, 7, 11, 20, 122, 123]), (103, [0, 4, 6, 7, 11, 20]), (107, [0, 6, 7, 11, 20, 122, 123, 124]), (114, [0, 6, 7, 11, 20, 21, 122, 123, 133, 134, 135]), (115, [0, 4, 6, 7, 11, 20, 122, 123]), (119, [0, 6, 7, 11, 20, 21, 122, 123, 133, 134, 135, 136]), (128, [0, 6, 7, 11, 20, 21, 122, 123, 133, 134, 135]), (131, [0, 6, 7, 11, 20, 122, 123]), (134, [0, 6, 7, 11, 20])]), (13, [(11, [0])]), (14, [(17, [0])]), (15, [(14, [0, 1, 2]), (23, [2, 8])]), (16, [(14, [0, 1, 2, 3, 4]), (29, [3, 4, 12])]), (17, [(17, [0, 1])]), (18, [(11, [1, 39]), (14, [1])]), (19, [(14, [0, 1, 2]), (23, [8])]), (20, [(14, [0, 1, 2]), (29, [2, 8])]), (21, [(11, [0])]), (23, [(11, [0, 1]), (15, [0, 1, 6, 19, 20, 21]), (16, [0, 1, 4, 5, 6]), (20, [0, 1, 6, 19, 20, 21, 22]), (29, [0, 1, 6, 19, 20, 21]), (32, [0, 1, 6]), (38, [0, 1])]), (24, [(8, [0, 1, 27]), (11, [0, 1]), (38, [0, 8, 9, 87]), (50, [0, 8, 9])]), (25, [(23, [2, 3, 53]), (26, [2, 3]), (35, [2, 3, 106]), (38, [2, 3])]), (26, [(11, [0, 1]), (20, [0])]), (27, [(11, [0, 1])]), (28, [(11, [0])]), (29, [(11, [0])]), (30, [(11, [0, 1, 4])]), (31, [(23, [0, 1, 2])]), (32, [(8, [0, 1, 2, 7]), (17, [0, 1, 2])]), (33, [(8, [0, 1, 2, 7]), (17, [0, 1])]), (34, [(8, [0, 1, 2, 3, 4, 11]), (23, [0, 1, 3, 4])]), (35, [(11, [0, 1]), (12, [0, 1, 5]), (13, [4]), (17, [0, 1, 5]), (20, [0, 1, 5]), (26, [])]), (36, [(11, [0, 1]), (15, [0, 1, 5, 15, 16]), (16, [4, 5]), (20, [0, 1, 5, 15, 16, 17]), (29, [0, 1, 5, 15, 16]), (32, [5])]), (37, [(9, [0, 1, 5, 6]), (10, [4, 5]), (14, [0, 1, 5, 6]), (17, [0, 1, 5, 6]), (23, [5])]), (38, [(11, [0])]), (39, [(9, [0, 3, 4]), (10, [0, 2, 3]), (14, [0, 3, 4]), (17, [0, 3, 4]), (23, [0, 3]), (29, [0])]), (40, [(29, [0, 1])]), (41, [(11, [0, 1]), (23, [0, 1]), (29, [0, 1])]), (42, [(11, [0, 1]), (32, [0, 8, 9]), (41, [0, 8, 9]), (50, [0, 8, 9, 131]), (62, [0, 8])]), (43, [(11, [0])]), (44, [(11, [0])]), (45, [(9, [0, 3, 4]), (10, [2, 3]), (14, [0, 3, 4]), (17, [0, 3, 4]), (23, [3])]), (46, [(11, [0, 1])]), (48, [(17, [])]), (49, [(11, [0])]), (50, [(14, [0, 1, 2]), (29, [2, 8])]), (51, [(14, [0, 1, 2]), (23, [2, 8])]), (52, [(14, [0, 1, 2, 3, 4]), (29, [3, 4, 12])]), (53, [(17, [0])]), (54, [(17, [0, 1])]), (56, [(14, [0, 1, 2])]), (59, [(11, [0])]), (60, [(9, [1, 5, 11, 12, 13]), (10, [4, 5]), (14, [1, 5, 11, 12, 13, 14]), (23, [1, 5, 11, 12, 13]), (26, [5])]), (62, [(17, [])]), (82, [(14, [0, 3]), (29, [0, 3]), (35, [3])])]
def closedL : List Nat := [18, 25]
noncomputable def O : Orc := evI Try.prog (drawEv Try.prog) noSum (trueOv closedL) keepT
noncomputable def C (f : FuncId) (args : List Value) (h : AH) : Res := O.call f args h
abbrev k_gosem_cut_init : Nat := 2
abbrev k_law14_CellNumbers : Nat := 3
abbrev k_law14_CellOwners : Nat := 4
abbrev k_law14_CellVersions : Nat := 5
abbrev k_law13_SchedNumbers : Nat := 6
abbrev k_law13_SchedFair : Nat := 7
abbrev k_law14_CellTells : Nat := 8
abbrev k_law14_CellNone : Nat := 9
abbrev k_law13_SchedRuns : Nat := 10
abbrev k_law13_SchedNone : Nat := 11
abbrev k_law13_SchedSteps : Nat := 12
abbrev k_cell_New_int : Nat := 13
abbrev k_cell_Memory_int_Advance : Nat := 14
abbrev k_cell_Memory_int_Lock : Nat := 15
abbrev k_cell_Memory_int_Publish : Nat := 16
abbrev k_cell_Memory_int_Load : Nat := 17
abbrev k_law14_awake : Nat := 18
abbrev k_cell_Memory_int_Unlock : Nat := 19
abbrev k_cell_Memory_int_Fill : Nat := 20
abbrev k_cell_Memory_int_Clock : Nat := 21
abbrev k_sched_New : Nat := 22
abbrev k_sched_Sched_Add : Nat := 23
abbrev k_sched_Sched_Pick : Nat := 24
abbrev k_law13_awake : Nat := 25
abbrev k_kit_Pick : Nat := 26
abbrev k_sched_Sched_Steps : Nat := 27
abbrev k_ref14_New : Nat := 28
abbrev k_ref14_Memory_Advance : Nat := 29
abbrev k_ref14_Memory_Load : Nat := 30
abbrev k_ref14_Memory_Fill : Nat := 31
abbrev k_ref14_Memory_Lock : Nat := 32
abbrev k_ref14_Memory_Unlock : Nat := 33
abbrev k_ref14_Memory_Publish : Nat := 34
abbrev k_kit_SameInts : Nat := 35
abbrev k_cell_Memory_int_Owned : Nat := 36
abbrev k_ref14_Memory_Owned : Nat := 37
abbrev k_cell_Memory_int_Size : Nat := 38
abbrev k_ref13_World_Add : Nat := 39
abbrev k_sched_Sched_Wake : Nat := 40
abbrev k_ref13_World_Wake : Nat := 41
abbrev k_ref13_World_Pick : Nat := 42
abbrev k_sched_Sched_Ready : Nat := 43
abbrev k_sched_Sched_Blocked : Nat := 44
abbrev k_ref13_World_Blocked : Nat := 45
abbrev k_sched_Sched_Status : Nat := 46
abbrev k_cell_Memory_int_right : Nat := 47
abbrev k_cell_Memory_int_may : Nat := 48
abbrev k_cell_New_string : Nat := 49
abbrev k_cell_Memory_string_Fill : Nat := 50
abbrev k_cell_Memory_string_Lock : Nat := 51
abbrev k_cell_Memory_string_Publish : Nat := 52
abbrev k_cell_Memory_string_Advance : Nat := 53
abbrev k_cell_Memory_string_Load : Nat := 54
abbrev k_sched_Sched_right : Nat := 55
abbrev k_slices_Delete_int_int : Nat := 56
abbrev k_sched_Sched_there : Nat := 57
abbrev k_ref14_Memory_there : Nat := 58
abbrev k_slices_Clone_int_int : Nat := 59
abbrev k_sched_Sched_some : Nat := 60
abbrev k_sched_Sched_Blocked_1 : Nat := 61
abbrev k_cell_Memory_string_may : Nat := 62
abbrev k_cell_Memory_string_right : Nat := 63
abbrev k_law13_own_Step : Nat := 80
abbrev k_law13_brief_Step : Nat := 81
abbrev k_law13_task_Step : Nat := 82
theorem C_of {f : FuncId} {args : List Value} {h : AH} {x : Res} (hf : closedL.any (Nat.beq f) = false) (he : callF Try.prog (drawEv Try.prog) noSum O keepT f args h = x) : Le x (C f args h) := fun r hr => evI_call (draw_app _) (by unfold trueOv; rw [hf, Bool.and_false]; rfl) (he.trans hr)
theorem L_of {nt : Nat} {kp : Nat → Option (List Nat)} {b : Code} {tm : T Value} {h : AH} {K : Ex → T Value → AH → Res} {x : Res} (he : evC Try.prog (drawEv Try.prog) noSum O nt kp b tm h (loopK (fun tm h => O.loop nt kp b (scrubO tm (kp (3 * firstRegion b))) h K) K) = x) : Le x (O.loop nt kp b tm h K) := fun r hr => evI_loop (draw_app _) (he.trans hr)
theorem G_of {nt : Nat} {kp : Nat → Option (List Nat)} {b : Code} {tm : T Value} {h : AH} {K : Ex → T Value → AH → Res} {x : Res} (he : evC Try.prog (drawEv Try.prog) noSum O nt kp b tm h K = x) : Le x (O.code nt kp b tm h K) := fun r hr => evI_code (draw_app _) (he.trans hr)
theorem C_closed {f : FuncId} (hf : closedL.any (Nat.beq f) = true) (h : AH) : C f [] h = some (.bool true, h) := evI_ov (by unfold trueOv; rw [hf]; rfl)
end Go.Lg.Try
