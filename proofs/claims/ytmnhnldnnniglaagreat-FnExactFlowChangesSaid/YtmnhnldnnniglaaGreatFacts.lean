/- The tables of this program's types, and that its functions have bodies. Printed by a program (mkfacts.py). -/
import Derived.Test.YtmnhnldnnniglaaGreatChecked
import Derived.Test.YtmnhnldnnniglaaGreatMem
import Derived.KernelRfl
namespace Go.Proofs.YtmnhnldnnniglaaGreat

def tAggs : List (Nat × Bool) := [(3, false), (9, false), (4, false), (47, false), (49, true), (23, false), (25, true), (5, false), (22, false), (53, true), (51, true), (28, false), (105, false), (60, false), (103, true), (27, false), (30, false), (31, false), (33, false), (34, false), (36, false), (38, true), (39, false), (40, false), (41, false), (42, false), (43, false), (44, false), (45, false), (46, false), (55, false), (56, false), (57, false), (58, false), (61, false), (62, false), (63, false), (64, false), (69, false), (70, false), (73, false), (74, false), (75, false), (76, false), (77, false), (78, false), (79, false), (80, false), (81, true), (83, true), (84, false), (85, false), (86, false), (87, false), (88, false), (92, false), (93, false), (94, false), (95, false), (96, false), (97, false), (99, false), (108, false), (109, false), (111, false), (112, false), (113, false), (115, false), (116, false), (117, false), (118, false), (122, false), (125, false), (126, false), (128, false), (129, false), (130, false), (132, false), (133, false), (134, false), (135, false), (136, false), (137, false), (140, false), (141, false), (142, false), (144, false), (151, false), (155, false), (157, false), (166, false), (185, false), (1, false), (2, false), (6, false), (7, true), (8, true), (10, false), (11, false), (12, false), (13, true), (14, true), (15, false), (16, false), (17, false), (18, true), (19, true), (20, false), (21, false), (24, true), (35, false), (37, true), (48, true), (50, true), (52, true), (59, false), (65, false), (66, false), (67, false), (68, false), (71, false), (72, false), (82, true), (89, false), (90, false), (98, false), (100, false), (101, false), (102, true), (104, false), (106, false), (107, false), (110, false), (119, false), (120, false), (121, false), (123, false), (124, false), (127, false), (138, false), (145, false), (146, false), (147, false), (148, false), (149, false), (150, false), (152, false), (153, false), (154, false), (156, false), (158, false), (159, false), (160, false), (161, false), (162, false), (163, false), (164, false), (167, false), (168, false), (169, false), (170, false), (171, true), (172, true), (173, true), (174, true), (175, true), (176, false), (177, false), (178, false), (179, false), (180, false), (181, false), (182, false), (183, true), (184, true), (186, false)]
def tSles : List (Nat × Nat) := [(47, 9), (23, 49), (22, 5), (28, 51), (105, 3), (36, 81), (39, 83)]
def tStrs : List (Nat × Unit) := [(9, ()), (10, ()), (11, ())]
def tFlds : List (Nat × List (Nat × Nat)) := [(49, [(0, 9), (1, 47), (2, 4)]), (25, [(0, 3), (1, 23)]), (53, [(0, 3), (1, 47)]), (51, [(0, 3), (1, 49)]), (103, [(0, 22), (1, 3)]), (38, [(0, 3), (1, 36)]), (81, [(0, 9), (1, 47), (2, 4)]), (83, [(0, 3), (1, 81)]), (7, [(0, 2), (1, 3), (2, 4), (3, 6)]), (8, [(0, 2), (1, 3), (2, 4), (3, 6)]), (13, [(0, 9), (1, 12)]), (14, [(0, 9), (1, 12)]), (18, [(0, 17)]), (19, [(0, 17)]), (24, [(0, 3), (1, 23)]), (37, [(0, 3), (1, 36)]), (48, [(0, 9), (1, 47), (2, 4)]), (50, [(0, 3), (1, 49)]), (52, [(0, 3), (1, 47)]), (82, [(0, 3), (1, 81)]), (102, [(0, 22), (1, 3)]), (171, [(0, 17), (1, 17), (2, 17), (3, 9)]), (172, [(0, 17), (1, 17), (2, 17), (3, 9)]), (174, [(0, 173)]), (175, [(0, 173)]), (183, [(0, 12), (1, 12), (2, 146), (3, 177), (4, 5), (5, 5), (6, 178), (7, 179), (8, 180), (9, 181), (10, 182)]), (184, [(0, 12), (1, 12), (2, 146), (3, 177), (4, 5), (5, 5), (6, 178), (7, 179), (8, 180), (9, 181), (10, 182)])]
def tInfs : List (Nat × (Value × Nat × Nat)) := [(3, (.int .i64 0, 1, 8)),
  (9, (.string ByteArray.empty, 1, 16)),
  (4, (.bool false, 1, 1)),
  (47, (.slice none 0 0, 1, 24)),
  (49, (.agg #[.string ByteArray.empty, .slice none 0 0, .bool false], 3, 48)),
  (23, (.slice none 0 0, 1, 24)),
  (25, (.agg #[.int .i64 0, .slice none 0 0], 2, 32)),
  (5, (.int .u8 0, 1, 1)),
  (22, (.slice none 0 0, 1, 24)),
  (53, (.agg #[.int .i64 0, .slice none 0 0], 2, 32)),
  (51, (.agg #[.int .i64 0, .string ByteArray.empty, .slice none 0 0, .bool false], 4, 56)),
  (28, (.slice none 0 0, 1, 24)),
  (105, (.slice none 0 0, 1, 24)),
  (60, (.pointer none, 1, 8)),
  (103, (.agg #[.slice none 0 0, .int .i64 0], 2, 32)),
  (27, (.nilFunc, 1, 8)),
  (30, (.nilFunc, 1, 8)),
  (31, (.nilFunc, 1, 8)),
  (33, (.nilFunc, 1, 8)),
  (34, (.nilFunc, 1, 8)),
  (36, (.slice none 0 0, 1, 24)),
  (38, (.agg #[.int .i64 0, .slice none 0 0], 2, 32)),
  (39, (.slice none 0 0, 1, 24)),
  (40, (.nilFunc, 1, 8)),
  (41, (.nilFunc, 1, 8)),
  (42, (.nilFunc, 1, 8)),
  (43, (.nilFunc, 1, 8)),
  (44, (.nilFunc, 1, 8)),
  (45, (.nilFunc, 1, 8)),
  (46, (.nilFunc, 1, 8)),
  (55, (.nilFunc, 1, 8)),
  (56, (.nilFunc, 1, 8)),
  (57, (.nilFunc, 1, 8)),
  (58, (.nilFunc, 1, 8)),
  (61, (.nilFunc, 1, 8)),
  (62, (.nilFunc, 1, 8)),
  (63, (.nilFunc, 1, 8)),
  (64, (.nilFunc, 1, 8)),
  (69, (.nilFunc, 1, 8)),
  (70, (.nilFunc, 1, 8)),
  (73, (.nilFunc, 1, 8)),
  (74, (.nilFunc, 1, 8)),
  (75, (.nilFunc, 1, 8)),
  (76, (.nilFunc, 1, 8)),
  (77, (.nilFunc, 1, 8)),
  (78, (.nilFunc, 1, 8)),
  (79, (.nilFunc, 1, 8)),
  (80, (.nilFunc, 1, 8)),
  (81, (.agg #[.string ByteArray.empty, .slice none 0 0, .bool false], 3, 48)),
  (83, (.agg #[.int .i64 0, .string ByteArray.empty, .slice none 0 0, .bool false], 4, 56)),
  (84, (.nilFunc, 1, 8)),
  (85, (.nilFunc, 1, 8)),
  (86, (.nilFunc, 1, 8)),
  (87, (.nilFunc, 1, 8)),
  (88, (.nilFunc, 1, 8)),
  (92, (.nilFunc, 1, 8)),
  (93, (.nilFunc, 1, 8)),
  (94, (.nilFunc, 1, 8)),
  (95, (.nilFunc, 1, 8)),
  (96, (.nilFunc, 1, 8)),
  (97, (.nilFunc, 1, 8)),
  (99, (.nilFunc, 1, 8)),
  (108, (.nilFunc, 1, 8)),
  (109, (.nilFunc, 1, 8)),
  (111, (.nilFunc, 1, 8)),
  (112, (.nilFunc, 1, 8)),
  (113, (.nilFunc, 1, 8)),
  (115, (.nilFunc, 1, 8)),
  (116, (.nilFunc, 1, 8)),
  (117, (.nilFunc, 1, 8)),
  (118, (.nilFunc, 1, 8)),
  (122, (.nilFunc, 1, 8)),
  (125, (.pointer none, 1, 8)),
  (126, (.nilFunc, 1, 8)),
  (128, (.nilFunc, 1, 8)),
  (129, (.nilFunc, 1, 8)),
  (130, (.nilFunc, 1, 8)),
  (132, (.nilFunc, 1, 8)),
  (133, (.nilFunc, 1, 8)),
  (134, (.nilFunc, 1, 8)),
  (135, (.nilFunc, 1, 8)),
  (136, (.nilFunc, 1, 8)),
  (137, (.nilFunc, 1, 8)),
  (140, (.nilFunc, 1, 8)),
  (141, (.nilFunc, 1, 8)),
  (142, (.nilFunc, 1, 8)),
  (144, (.nilFunc, 1, 8)),
  (151, (.nilFunc, 1, 8)),
  (155, (.nilFunc, 1, 8)),
  (157, (.nilFunc, 1, 8)),
  (166, (.nilFunc, 1, 8)),
  (185, (.nilFunc, 1, 8)),
  (1, (.nilFunc, 1, 8)),
  (2, (.int .i64 0, 1, 8)),
  (6, (.int .u8 0, 1, 1)),
  (7, (.agg #[.int .i64 0, .int .i64 0, .bool false, .int .u8 0], 4, 24)),
  (8, (.agg #[.int .i64 0, .int .i64 0, .bool false, .int .u8 0], 4, 24)),
  (10, (.string ByteArray.empty, 1, 16)),
  (11, (.string ByteArray.empty, 1, 16)),
  (12, (.int .u64 0, 1, 8)),
  (13, (.agg #[.string ByteArray.empty, .int .u64 0], 2, 24)),
  (14, (.agg #[.string ByteArray.empty, .int .u64 0], 2, 24)),
  (15, (.pointer none, 1, 8)),
  (16, (.pointer none, 1, 8)),
  (17, (.pointer none, 1, 8)),
  (18, (.agg #[.pointer none], 1, 8)),
  (19, (.agg #[.pointer none], 1, 8)),
  (20, (.nilIface, 1, 16)),
  (21, (.int .i32 0, 1, 4)),
  (24, (.agg #[.int .i64 0, .slice none 0 0], 2, 32)),
  (35, (.nilFunc, 1, 8)),
  (37, (.agg #[.int .i64 0, .slice none 0 0], 2, 32)),
  (48, (.agg #[.string ByteArray.empty, .slice none 0 0, .bool false], 3, 48)),
  (50, (.agg #[.int .i64 0, .string ByteArray.empty, .slice none 0 0, .bool false], 4, 56)),
  (52, (.agg #[.int .i64 0, .slice none 0 0], 2, 32)),
  (59, (.nilFunc, 1, 8)),
  (65, (.nilFunc, 1, 8)),
  (66, (.nilFunc, 1, 8)),
  (67, (.nilFunc, 1, 8)),
  (68, (.nilFunc, 1, 8)),
  (71, (.nilFunc, 1, 8)),
  (72, (.nilFunc, 1, 8)),
  (82, (.agg #[.int .i64 0, .string ByteArray.empty, .slice none 0 0, .bool false], 4, 56)),
  (89, (.nilFunc, 1, 8)),
  (90, (.nilFunc, 1, 8)),
  (98, (.nilFunc, 1, 8)),
  (100, (.nilFunc, 1, 8)),
  (101, (.nilFunc, 1, 8)),
  (102, (.agg #[.slice none 0 0, .int .i64 0], 2, 32)),
  (104, (.nilFunc, 1, 8)),
  (106, (.nilFunc, 1, 8)),
  (107, (.nilFunc, 1, 8)),
  (110, (.nilFunc, 1, 8)),
  (119, (.nilFunc, 1, 8)),
  (120, (.nilFunc, 1, 8)),
  (121, (.nilFunc, 1, 8)),
  (123, (.nilFunc, 1, 8)),
  (124, (.int .u64 0, 1, 8)),
  (127, (.nilFunc, 1, 8)),
  (138, (.int .i64 0, 1, 8)),
  (145, (.nilFunc, 1, 8)),
  (146, (.int .u32 0, 1, 4)),
  (147, (.nilFunc, 1, 8)),
  (148, (.int .u64 0, 1, 8)),
  (149, (.nilFunc, 1, 8)),
  (150, (.nilFunc, 1, 8)),
  (152, (.int .u64 0, 1, 8)),
  (153, (.nilFunc, 1, 8)),
  (154, (.nilFunc, 1, 8)),
  (156, (.pointer none, 1, 8)),
  (158, (.nilFunc, 1, 8)),
  (159, (.nilFunc, 1, 8)),
  (160, (.nilFunc, 1, 8)),
  (161, (.nilFunc, 1, 8)),
  (162, (.nilFunc, 1, 8)),
  (163, (.nilFunc, 1, 8)),
  (164, (.pointer none, 1, 8)),
  (167, (.nilFunc, 1, 8)),
  (168, (.nilFunc, 1, 8)),
  (169, (.nilFunc, 1, 8)),
  (170, (.nilFunc, 1, 8)),
  (171, (.agg #[.pointer none, .pointer none, .pointer none, .string ByteArray.empty], 4, 40)),
  (172, (.agg #[.pointer none, .pointer none, .pointer none, .string ByteArray.empty], 4, 40)),
  (176, (.nilFunc, 1, 8)),
  (177, (.int .u8 0, 1, 1)),
  (178, (.int .u8 0, 1, 1)),
  (179, (.nilFunc, 1, 8)),
  (180, (.pointer none, 1, 8)),
  (181, (.int .i32 0, 1, 4)),
  (182, (.int .i32 0, 1, 4)),
  (183, (.agg #[.int .u64 0, .int .u64 0, .int .u32 0, .int .u8 0, .int .u8 0, .int .u8 0, .int .u8 0, .nilFunc, .pointer none, .int .i32 0, .int .i32 0], 11, 48)),
  (184, (.agg #[.int .u64 0, .int .u64 0, .int .u32 0, .int .u8 0, .int .u8 0, .int .u8 0, .int .u8 0, .nilFunc, .pointer none, .int .i32 0, .int .i32 0], 11, 48)),
  (186, (.pointer none, 1, 8))]

theorem tAggs_ok : tAggs.all (chkAgg Tryz.prog) = true := by kernel_rfl
theorem tSles_ok : tSles.all (chkSle Tryz.prog) = true := by kernel_rfl
theorem tStrs_ok : tStrs.all (chkStr Tryz.prog) = true := by kernel_rfl
theorem tFlds_ok : tFlds.all (chkFld Tryz.prog) = true := by kernel_rfl
theorem tInfs_eq : tInfs.map (fun p => (Tryz.prog.info? p.1).map (fun i => (i.zero, i.size, i.bytes))) = tInfs.map (fun p => some (some p.2.1, p.2.2.1, p.2.2.2)) := by kernel_rfl
theorem tInfs_ok : ∀ p ∈ tInfs, (Tryz.prog.info? p.1).map (fun i => (i.zero, i.size, i.bytes)) = some (some p.2.1, p.2.2.1, p.2.2.2) :=
  List.map_inj_left.1 tInfs_eq
def Tb : Tab Tryz.prog := ⟨tAggs, tAggs_ok, tSles, tSles_ok, tStrs, tStrs_ok, tFlds, tFlds_ok, tInfs, tInfs_ok⟩

set_option maxRecDepth 100000 in
theorem hb3 : hasBody Tryz.prog 3 := ⟨_, Tryz.func3, rfl, by decide⟩
set_option maxRecDepth 100000 in
theorem hb4 : hasBody Tryz.prog 4 := ⟨_, Tryz.func4, rfl, by decide⟩
set_option maxRecDepth 100000 in
theorem hb5 : hasBody Tryz.prog 5 := ⟨_, Tryz.func5, rfl, by decide⟩
set_option maxRecDepth 100000 in
theorem hb6 : hasBody Tryz.prog 6 := ⟨_, Tryz.func6, rfl, by decide⟩
set_option maxRecDepth 100000 in
theorem hb7 : hasBody Tryz.prog 7 := ⟨_, Tryz.func7, rfl, by decide⟩
set_option maxRecDepth 100000 in
theorem hb8 : hasBody Tryz.prog 8 := ⟨_, Tryz.func8, rfl, by decide⟩
set_option maxRecDepth 100000 in
theorem hb9 : hasBody Tryz.prog 9 := ⟨_, Tryz.func9, rfl, by decide⟩
set_option maxRecDepth 100000 in
theorem hb10 : hasBody Tryz.prog 10 := ⟨_, Tryz.func10, rfl, by decide⟩
set_option maxRecDepth 100000 in
theorem hb11 : hasBody Tryz.prog 11 := ⟨_, Tryz.func11, rfl, by decide⟩
set_option maxRecDepth 100000 in
theorem hb12 : hasBody Tryz.prog 12 := ⟨_, Tryz.func12, rfl, by decide⟩
set_option maxRecDepth 100000 in
theorem hb13 : hasBody Tryz.prog 13 := ⟨_, Tryz.func13, rfl, by decide⟩
set_option maxRecDepth 100000 in
theorem hb14 : hasBody Tryz.prog 14 := ⟨_, Tryz.func14, rfl, by decide⟩
set_option maxRecDepth 100000 in
theorem hb15 : hasBody Tryz.prog 15 := ⟨_, Tryz.func15, rfl, by decide⟩
set_option maxRecDepth 100000 in
theorem hb16 : hasBody Tryz.prog 16 := ⟨_, Tryz.func16, rfl, by decide⟩
set_option maxRecDepth 100000 in
theorem hb17 : hasBody Tryz.prog 17 := ⟨_, Tryz.func17, rfl, by decide⟩
set_option maxRecDepth 100000 in
theorem hb18 : hasBody Tryz.prog 18 := ⟨_, Tryz.func18, rfl, by decide⟩
set_option maxRecDepth 100000 in
theorem hb19 : hasBody Tryz.prog 19 := ⟨_, Tryz.func19, rfl, by decide⟩
set_option maxRecDepth 100000 in
theorem hb20 : hasBody Tryz.prog 20 := ⟨_, Tryz.func20, rfl, by decide⟩
set_option maxRecDepth 100000 in
theorem hb21 : hasBody Tryz.prog 21 := ⟨_, Tryz.func21, rfl, by decide⟩
set_option maxRecDepth 100000 in
theorem hb22 : hasBody Tryz.prog 22 := ⟨_, Tryz.func22, rfl, by decide⟩
set_option maxRecDepth 100000 in
theorem hb23 : hasBody Tryz.prog 23 := ⟨_, Tryz.func23, rfl, by decide⟩
set_option maxRecDepth 100000 in
theorem hb24 : hasBody Tryz.prog 24 := ⟨_, Tryz.func24, rfl, by decide⟩
set_option maxRecDepth 100000 in
theorem hb25 : hasBody Tryz.prog 25 := ⟨_, Tryz.func25, rfl, by decide⟩
set_option maxRecDepth 100000 in
theorem hb26 : hasBody Tryz.prog 26 := ⟨_, Tryz.func26, rfl, by decide⟩
set_option maxRecDepth 100000 in
theorem hb27 : hasBody Tryz.prog 27 := ⟨_, Tryz.func27, rfl, by decide⟩
set_option maxRecDepth 100000 in
theorem hb28 : hasBody Tryz.prog 28 := ⟨_, Tryz.func28, rfl, by decide⟩
set_option maxRecDepth 100000 in
theorem hb29 : hasBody Tryz.prog 29 := ⟨_, Tryz.func29, rfl, by decide⟩
set_option maxRecDepth 100000 in
theorem hb30 : hasBody Tryz.prog 30 := ⟨_, Tryz.func30, rfl, by decide⟩
set_option maxRecDepth 100000 in
theorem hb31 : hasBody Tryz.prog 31 := ⟨_, Tryz.func31, rfl, by decide⟩
set_option maxRecDepth 100000 in
theorem hb32 : hasBody Tryz.prog 32 := ⟨_, Tryz.func32, rfl, by decide⟩
set_option maxRecDepth 100000 in
theorem hb33 : hasBody Tryz.prog 33 := ⟨_, Tryz.func33, rfl, by decide⟩
set_option maxRecDepth 100000 in
theorem hb34 : hasBody Tryz.prog 34 := ⟨_, Tryz.func34, rfl, by decide⟩
set_option maxRecDepth 100000 in
theorem hb35 : hasBody Tryz.prog 35 := ⟨_, Tryz.func35, rfl, by decide⟩
set_option maxRecDepth 100000 in
theorem hb36 : hasBody Tryz.prog 36 := ⟨_, Tryz.func36, rfl, by decide⟩
set_option maxRecDepth 100000 in
theorem hb37 : hasBody Tryz.prog 37 := ⟨_, Tryz.func37, rfl, by decide⟩
set_option maxRecDepth 100000 in
theorem hb38 : hasBody Tryz.prog 38 := ⟨_, Tryz.func38, rfl, by decide⟩
set_option maxRecDepth 100000 in
theorem hb39 : hasBody Tryz.prog 39 := ⟨_, Tryz.func39, rfl, by decide⟩
set_option maxRecDepth 100000 in
theorem hb40 : hasBody Tryz.prog 40 := ⟨_, Tryz.func40, rfl, by decide⟩
set_option maxRecDepth 100000 in
theorem hb41 : hasBody Tryz.prog 41 := ⟨_, Tryz.func41, rfl, by decide⟩
set_option maxRecDepth 100000 in
theorem hb42 : hasBody Tryz.prog 42 := ⟨_, Tryz.func42, rfl, by decide⟩
set_option maxRecDepth 100000 in
theorem hb43 : hasBody Tryz.prog 43 := ⟨_, Tryz.func43, rfl, by decide⟩
set_option maxRecDepth 100000 in
theorem hb44 : hasBody Tryz.prog 44 := ⟨_, Tryz.func44, rfl, by decide⟩
set_option maxRecDepth 100000 in
theorem hb45 : hasBody Tryz.prog 45 := ⟨_, Tryz.func45, rfl, by decide⟩
set_option maxRecDepth 100000 in
theorem hb46 : hasBody Tryz.prog 46 := ⟨_, Tryz.func46, rfl, by decide⟩
set_option maxRecDepth 100000 in
theorem hb47 : hasBody Tryz.prog 47 := ⟨_, Tryz.func47, rfl, by decide⟩
set_option maxRecDepth 100000 in
theorem hb48 : hasBody Tryz.prog 48 := ⟨_, Tryz.func48, rfl, by decide⟩
set_option maxRecDepth 100000 in
theorem hb49 : hasBody Tryz.prog 49 := ⟨_, Tryz.func49, rfl, by decide⟩
set_option maxRecDepth 100000 in
theorem hb50 : hasBody Tryz.prog 50 := ⟨_, Tryz.func50, rfl, by decide⟩
set_option maxRecDepth 100000 in
theorem hb51 : hasBody Tryz.prog 51 := ⟨_, Tryz.func51, rfl, by decide⟩
set_option maxRecDepth 100000 in
theorem hb52 : hasBody Tryz.prog 52 := ⟨_, Tryz.func52, rfl, by decide⟩
set_option maxRecDepth 100000 in
theorem hb53 : hasBody Tryz.prog 53 := ⟨_, Tryz.func53, rfl, by decide⟩
set_option maxRecDepth 100000 in
theorem hb54 : hasBody Tryz.prog 54 := ⟨_, Tryz.func54, rfl, by decide⟩
set_option maxRecDepth 100000 in
theorem hb55 : hasBody Tryz.prog 55 := ⟨_, Tryz.func55, rfl, by decide⟩
set_option maxRecDepth 100000 in
theorem hb56 : hasBody Tryz.prog 56 := ⟨_, Tryz.func56, rfl, by decide⟩
set_option maxRecDepth 100000 in
theorem hb57 : hasBody Tryz.prog 57 := ⟨_, Tryz.func57, rfl, by decide⟩
set_option maxRecDepth 100000 in
theorem hb58 : hasBody Tryz.prog 58 := ⟨_, Tryz.func58, rfl, by decide⟩
set_option maxRecDepth 100000 in
theorem hb59 : hasBody Tryz.prog 59 := ⟨_, Tryz.func59, rfl, by decide⟩
set_option maxRecDepth 100000 in
theorem hb60 : hasBody Tryz.prog 60 := ⟨_, Tryz.func60, rfl, by decide⟩
set_option maxRecDepth 100000 in
theorem hb61 : hasBody Tryz.prog 61 := ⟨_, Tryz.func61, rfl, by decide⟩
set_option maxRecDepth 100000 in
theorem hb62 : hasBody Tryz.prog 62 := ⟨_, Tryz.func62, rfl, by decide⟩
set_option maxRecDepth 100000 in
theorem hb63 : hasBody Tryz.prog 63 := ⟨_, Tryz.func63, rfl, by decide⟩
set_option maxRecDepth 100000 in
theorem hb64 : hasBody Tryz.prog 64 := ⟨_, Tryz.func64, rfl, by decide⟩
set_option maxRecDepth 100000 in
theorem hb65 : hasBody Tryz.prog 65 := ⟨_, Tryz.func65, rfl, by decide⟩
set_option maxRecDepth 100000 in
theorem hb66 : hasBody Tryz.prog 66 := ⟨_, Tryz.func66, rfl, by decide⟩
set_option maxRecDepth 100000 in
theorem hb67 : hasBody Tryz.prog 67 := ⟨_, Tryz.func67, rfl, by decide⟩
set_option maxRecDepth 100000 in
theorem hb68 : hasBody Tryz.prog 68 := ⟨_, Tryz.func68, rfl, by decide⟩
set_option maxRecDepth 100000 in
theorem hb69 : hasBody Tryz.prog 69 := ⟨_, Tryz.func69, rfl, by decide⟩
set_option maxRecDepth 100000 in
theorem hb70 : hasBody Tryz.prog 70 := ⟨_, Tryz.func70, rfl, by decide⟩
set_option maxRecDepth 100000 in
theorem hb71 : hasBody Tryz.prog 71 := ⟨_, Tryz.func71, rfl, by decide⟩
set_option maxRecDepth 100000 in
theorem hb72 : hasBody Tryz.prog 72 := ⟨_, Tryz.func72, rfl, by decide⟩
set_option maxRecDepth 100000 in
theorem hb73 : hasBody Tryz.prog 73 := ⟨_, Tryz.func73, rfl, by decide⟩
set_option maxRecDepth 100000 in
theorem hb74 : hasBody Tryz.prog 74 := ⟨_, Tryz.func74, rfl, by decide⟩
set_option maxRecDepth 100000 in
theorem hb75 : hasBody Tryz.prog 75 := ⟨_, Tryz.func75, rfl, by decide⟩
set_option maxRecDepth 100000 in
theorem hb76 : hasBody Tryz.prog 76 := ⟨_, Tryz.func76, rfl, by decide⟩
set_option maxRecDepth 100000 in
theorem hb77 : hasBody Tryz.prog 77 := ⟨_, Tryz.func77, rfl, by decide⟩
set_option maxRecDepth 100000 in
theorem hb78 : hasBody Tryz.prog 78 := ⟨_, Tryz.func78, rfl, by decide⟩
set_option maxRecDepth 100000 in
theorem hb79 : hasBody Tryz.prog 79 := ⟨_, Tryz.func79, rfl, by decide⟩
set_option maxRecDepth 100000 in
theorem hb80 : hasBody Tryz.prog 80 := ⟨_, Tryz.func80, rfl, by decide⟩
set_option maxRecDepth 100000 in
theorem hb81 : hasBody Tryz.prog 81 := ⟨_, Tryz.func81, rfl, by decide⟩
set_option maxRecDepth 100000 in
theorem hb82 : hasBody Tryz.prog 82 := ⟨_, Tryz.func82, rfl, by decide⟩
set_option maxRecDepth 100000 in
theorem hb83 : hasBody Tryz.prog 83 := ⟨_, Tryz.func83, rfl, by decide⟩
set_option maxRecDepth 100000 in
theorem hb84 : hasBody Tryz.prog 84 := ⟨_, Tryz.func84, rfl, by decide⟩
set_option maxRecDepth 100000 in
theorem hb85 : hasBody Tryz.prog 85 := ⟨_, Tryz.func85, rfl, by decide⟩
set_option maxRecDepth 100000 in
theorem hb86 : hasBody Tryz.prog 86 := ⟨_, Tryz.func86, rfl, by decide⟩
set_option maxRecDepth 100000 in
theorem hb87 : hasBody Tryz.prog 87 := ⟨_, Tryz.func87, rfl, by decide⟩
set_option maxRecDepth 100000 in
theorem hb88 : hasBody Tryz.prog 88 := ⟨_, Tryz.func88, rfl, by decide⟩
set_option maxRecDepth 100000 in
theorem hb89 : hasBody Tryz.prog 89 := ⟨_, Tryz.func89, rfl, by decide⟩
set_option maxRecDepth 100000 in
theorem hb90 : hasBody Tryz.prog 90 := ⟨_, Tryz.func90, rfl, by decide⟩
set_option maxRecDepth 100000 in
theorem hb91 : hasBody Tryz.prog 91 := ⟨_, Tryz.func91, rfl, by decide⟩
set_option maxRecDepth 100000 in
theorem hb92 : hasBody Tryz.prog 92 := ⟨_, Tryz.func92, rfl, by decide⟩
set_option maxRecDepth 100000 in
theorem hb93 : hasBody Tryz.prog 93 := ⟨_, Tryz.func93, rfl, by decide⟩
set_option maxRecDepth 100000 in
theorem hb94 : hasBody Tryz.prog 94 := ⟨_, Tryz.func94, rfl, by decide⟩
set_option maxRecDepth 100000 in
theorem hb95 : hasBody Tryz.prog 95 := ⟨_, Tryz.func95, rfl, by decide⟩
set_option maxRecDepth 100000 in
theorem hb96 : hasBody Tryz.prog 96 := ⟨_, Tryz.func96, rfl, by decide⟩
set_option maxRecDepth 100000 in
theorem hb97 : hasBody Tryz.prog 97 := ⟨_, Tryz.func97, rfl, by decide⟩
set_option maxRecDepth 100000 in
theorem hb98 : hasBody Tryz.prog 98 := ⟨_, Tryz.func98, rfl, by decide⟩
set_option maxRecDepth 100000 in
theorem hb99 : hasBody Tryz.prog 99 := ⟨_, Tryz.func99, rfl, by decide⟩
set_option maxRecDepth 100000 in
theorem hb100 : hasBody Tryz.prog 100 := ⟨_, Tryz.func100, rfl, by decide⟩
set_option maxRecDepth 100000 in
theorem hb101 : hasBody Tryz.prog 101 := ⟨_, Tryz.func101, rfl, by decide⟩
set_option maxRecDepth 100000 in
theorem hb102 : hasBody Tryz.prog 102 := ⟨_, Tryz.func102, rfl, by decide⟩
set_option maxRecDepth 100000 in
theorem hb103 : hasBody Tryz.prog 103 := ⟨_, Tryz.func103, rfl, by decide⟩
set_option maxRecDepth 100000 in
theorem hb104 : hasBody Tryz.prog 104 := ⟨_, Tryz.func104, rfl, by decide⟩
set_option maxRecDepth 100000 in
theorem hb105 : hasBody Tryz.prog 105 := ⟨_, Tryz.func105, rfl, by decide⟩
set_option maxRecDepth 100000 in
theorem hb107 : hasBody Tryz.prog 107 := ⟨_, Tryz.func107, rfl, by decide⟩
set_option maxRecDepth 100000 in
theorem hb108 : hasBody Tryz.prog 108 := ⟨_, Tryz.func108, rfl, by decide⟩
set_option maxRecDepth 100000 in
theorem hb109 : hasBody Tryz.prog 109 := ⟨_, Tryz.func109, rfl, by decide⟩
set_option maxRecDepth 100000 in
theorem hb110 : hasBody Tryz.prog 110 := ⟨_, Tryz.func110, rfl, by decide⟩
set_option maxRecDepth 100000 in
theorem hb111 : hasBody Tryz.prog 111 := ⟨_, Tryz.func111, rfl, by decide⟩
set_option maxRecDepth 100000 in
theorem hb112 : hasBody Tryz.prog 112 := ⟨_, Tryz.func112, rfl, by decide⟩
set_option maxRecDepth 100000 in
theorem hb113 : hasBody Tryz.prog 113 := ⟨_, Tryz.func113, rfl, by decide⟩
set_option maxRecDepth 100000 in
theorem hb114 : hasBody Tryz.prog 114 := ⟨_, Tryz.func114, rfl, by decide⟩
set_option maxRecDepth 100000 in
theorem hb115 : hasBody Tryz.prog 115 := ⟨_, Tryz.func115, rfl, by decide⟩
set_option maxRecDepth 100000 in
theorem hb116 : hasBody Tryz.prog 116 := ⟨_, Tryz.func116, rfl, by decide⟩
set_option maxRecDepth 100000 in
theorem hb117 : hasBody Tryz.prog 117 := ⟨_, Tryz.func117, rfl, by decide⟩
set_option maxRecDepth 100000 in
theorem hb118 : hasBody Tryz.prog 118 := ⟨_, Tryz.func118, rfl, by decide⟩
set_option maxRecDepth 100000 in
theorem hb119 : hasBody Tryz.prog 119 := ⟨_, Tryz.func119, rfl, by decide⟩
set_option maxRecDepth 100000 in
theorem hb120 : hasBody Tryz.prog 120 := ⟨_, Tryz.func120, rfl, by decide⟩
set_option maxRecDepth 100000 in
theorem hb121 : hasBody Tryz.prog 121 := ⟨_, Tryz.func121, rfl, by decide⟩
set_option maxRecDepth 100000 in
theorem hb122 : hasBody Tryz.prog 122 := ⟨_, Tryz.func122, rfl, by decide⟩
set_option maxRecDepth 100000 in
theorem hb123 : hasBody Tryz.prog 123 := ⟨_, Tryz.func123, rfl, by decide⟩
set_option maxRecDepth 100000 in
theorem hb124 : hasBody Tryz.prog 124 := ⟨_, Tryz.func124, rfl, by decide⟩
set_option maxRecDepth 100000 in
theorem hb125 : hasBody Tryz.prog 125 := ⟨_, Tryz.func125, rfl, by decide⟩
set_option maxRecDepth 100000 in
theorem hb126 : hasBody Tryz.prog 126 := ⟨_, Tryz.func126, rfl, by decide⟩
set_option maxRecDepth 100000 in
theorem hb127 : hasBody Tryz.prog 127 := ⟨_, Tryz.func127, rfl, by decide⟩
set_option maxRecDepth 100000 in
theorem hb128 : hasBody Tryz.prog 128 := ⟨_, Tryz.func128, rfl, by decide⟩
set_option maxRecDepth 100000 in
theorem hb129 : hasBody Tryz.prog 129 := ⟨_, Tryz.func129, rfl, by decide⟩
set_option maxRecDepth 100000 in
theorem hb130 : hasBody Tryz.prog 130 := ⟨_, Tryz.func130, rfl, by decide⟩
set_option maxRecDepth 100000 in
theorem hb131 : hasBody Tryz.prog 131 := ⟨_, Tryz.func131, rfl, by decide⟩
set_option maxRecDepth 100000 in
theorem hb132 : hasBody Tryz.prog 132 := ⟨_, Tryz.func132, rfl, by decide⟩
set_option maxRecDepth 100000 in
theorem hb133 : hasBody Tryz.prog 133 := ⟨_, Tryz.func133, rfl, by decide⟩
set_option maxRecDepth 100000 in
theorem hb134 : hasBody Tryz.prog 134 := ⟨_, Tryz.func134, rfl, by decide⟩
set_option maxRecDepth 100000 in
theorem hb135 : hasBody Tryz.prog 135 := ⟨_, Tryz.func135, rfl, by decide⟩
set_option maxRecDepth 100000 in
theorem hb137 : hasBody Tryz.prog 137 := ⟨_, Tryz.func137, rfl, by decide⟩
set_option maxRecDepth 100000 in
theorem hb138 : hasBody Tryz.prog 138 := ⟨_, Tryz.func138, rfl, by decide⟩
set_option maxRecDepth 100000 in
theorem hb139 : hasBody Tryz.prog 139 := ⟨_, Tryz.func139, rfl, by decide⟩
set_option maxRecDepth 100000 in
theorem hb140 : hasBody Tryz.prog 140 := ⟨_, Tryz.func140, rfl, by decide⟩
set_option maxRecDepth 100000 in
theorem hb141 : hasBody Tryz.prog 141 := ⟨_, Tryz.func141, rfl, by decide⟩
set_option maxRecDepth 100000 in
theorem hb143 : hasBody Tryz.prog 143 := ⟨_, Tryz.func143, rfl, by decide⟩
set_option maxRecDepth 100000 in
theorem hb144 : hasBody Tryz.prog 144 := ⟨_, Tryz.func144, rfl, by decide⟩
set_option maxRecDepth 100000 in
theorem hb145 : hasBody Tryz.prog 145 := ⟨_, Tryz.func145, rfl, by decide⟩
set_option maxRecDepth 100000 in
theorem hb146 : hasBody Tryz.prog 146 := ⟨_, Tryz.func146, rfl, by decide⟩
set_option maxRecDepth 100000 in
theorem hb147 : hasBody Tryz.prog 147 := ⟨_, Tryz.func147, rfl, by decide⟩
set_option maxRecDepth 100000 in
theorem hb148 : hasBody Tryz.prog 148 := ⟨_, Tryz.func148, rfl, by decide⟩
set_option maxRecDepth 100000 in
theorem hb149 : hasBody Tryz.prog 149 := ⟨_, Tryz.func149, rfl, by decide⟩
set_option maxRecDepth 100000 in
theorem hb150 : hasBody Tryz.prog 150 := ⟨_, Tryz.func150, rfl, by decide⟩
set_option maxRecDepth 100000 in
theorem hb151 : hasBody Tryz.prog 151 := ⟨_, Tryz.func151, rfl, by decide⟩
set_option maxRecDepth 100000 in
theorem hb152 : hasBody Tryz.prog 152 := ⟨_, Tryz.func152, rfl, by decide⟩
set_option maxRecDepth 100000 in
theorem hb153 : hasBody Tryz.prog 153 := ⟨_, Tryz.func153, rfl, by decide⟩
set_option maxRecDepth 100000 in
theorem hb154 : hasBody Tryz.prog 154 := ⟨_, Tryz.func154, rfl, by decide⟩
set_option maxRecDepth 100000 in
theorem hb155 : hasBody Tryz.prog 155 := ⟨_, Tryz.func155, rfl, by decide⟩
set_option maxRecDepth 100000 in
theorem hb156 : hasBody Tryz.prog 156 := ⟨_, Tryz.func156, rfl, by decide⟩
set_option maxRecDepth 100000 in
theorem hb157 : hasBody Tryz.prog 157 := ⟨_, Tryz.func157, rfl, by decide⟩
set_option maxRecDepth 100000 in
theorem hb158 : hasBody Tryz.prog 158 := ⟨_, Tryz.func158, rfl, by decide⟩
set_option maxRecDepth 100000 in
theorem hb159 : hasBody Tryz.prog 159 := ⟨_, Tryz.func159, rfl, by decide⟩

end Go.Proofs.YtmnhnldnnniglaaGreat
