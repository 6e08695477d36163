/- The tables of this program's types, and that its functions have bodies. Printed by a program (mkfacts.py). -/
import Derived.Test.YthmifmpllgofkaaChecked
import Derived.Test.YthmifmpllgofkaaMem
import Derived.KernelRfl
namespace Go.Proofs.Ythmifmpllgofkaa

def tAggs : List (Nat × Bool) := [(3, false), (9, false), (4, false), (46, false), (48, true), (34, false), (36, true), (5, false), (22, false), (23, false), (50, true), (31, false), (105, false), (63, false), (95, true), (24, false), (25, false), (27, false), (29, true), (30, false), (33, false), (37, false), (38, false), (39, false), (40, false), (41, false), (42, false), (44, false), (52, false), (54, false), (55, false), (57, false), (58, false), (60, false), (62, false), (64, false), (65, false), (66, false), (67, false), (72, false), (73, false), (75, false), (76, false), (79, false), (80, false), (81, false), (82, false), (83, false), (84, false), (85, false), (87, false), (91, false), (96, false), (98, false), (99, false), (100, true), (101, false), (102, false), (104, false), (106, false), (107, false), (110, false), (113, false), (114, false), (116, false), (117, false), (118, false), (119, false), (120, false), (123, false), (124, false), (125, false), (127, false), (137, false), (139, false), (148, false), (1, false), (2, false), (6, false), (7, true), (8, true), (10, false), (11, false), (12, false), (13, true), (14, true), (15, false), (16, false), (17, false), (18, true), (19, true), (20, false), (21, false), (26, false), (28, true), (35, true), (45, false), (47, true), (49, true), (59, false), (61, false), (68, false), (69, false), (70, false), (71, false), (74, false), (77, false), (78, false), (86, false), (88, false), (89, false), (92, false), (93, false), (94, true), (97, false), (103, false), (108, false), (109, false), (111, false), (112, false), (115, false), (121, false), (128, false), (129, false), (130, false), (131, false), (132, false), (133, false), (134, false), (135, false), (136, false), (138, false), (140, false), (141, false), (142, false), (143, false), (144, false), (145, false), (146, false), (149, false), (150, false), (151, false), (152, false), (153, true), (154, true), (155, true), (156, true), (157, true), (158, false), (159, false), (160, false), (161, false), (162, false), (163, false), (164, false), (165, true), (166, true), (167, false)]
def tSles : List (Nat × Nat) := [(46, 9), (34, 48), (22, 5), (23, 36), (31, 50), (105, 3), (27, 100)]
def tStrs : List (Nat × Unit) := [(9, ()), (10, ()), (11, ())]
def tFlds : List (Nat × List (Nat × Nat)) := [(48, [(0, 9), (1, 46), (2, 4)]), (36, [(0, 3), (1, 34)]), (50, [(0, 3), (1, 48)]), (95, [(0, 22), (1, 3)]), (29, [(0, 3), (1, 27)]), (100, [(0, 9), (1, 46), (2, 4)]), (7, [(0, 2), (1, 3), (2, 4), (3, 6)]), (8, [(0, 2), (1, 3), (2, 4), (3, 6)]), (13, [(0, 9), (1, 12)]), (14, [(0, 9), (1, 12)]), (18, [(0, 17)]), (19, [(0, 17)]), (28, [(0, 3), (1, 27)]), (35, [(0, 3), (1, 34)]), (47, [(0, 9), (1, 46), (2, 4)]), (49, [(0, 3), (1, 48)]), (94, [(0, 22), (1, 3)]), (153, [(0, 17), (1, 17), (2, 17), (3, 9)]), (154, [(0, 17), (1, 17), (2, 17), (3, 9)]), (156, [(0, 155)]), (157, [(0, 155)]), (165, [(0, 12), (1, 12), (2, 129), (3, 159), (4, 5), (5, 5), (6, 160), (7, 161), (8, 162), (9, 163), (10, 164)]), (166, [(0, 12), (1, 12), (2, 129), (3, 159), (4, 5), (5, 5), (6, 160), (7, 161), (8, 162), (9, 163), (10, 164)])]
def tInfs : List (Nat × (Value × Nat × Nat)) := [(3, (.int .i64 0, 1, 8)),
  (9, (.string ByteArray.empty, 1, 16)),
  (4, (.bool false, 1, 1)),
  (46, (.slice none 0 0, 1, 24)),
  (48, (.agg #[.string ByteArray.empty, .slice none 0 0, .bool false], 3, 48)),
  (34, (.slice none 0 0, 1, 24)),
  (36, (.agg #[.int .i64 0, .slice none 0 0], 2, 32)),
  (5, (.int .u8 0, 1, 1)),
  (22, (.slice none 0 0, 1, 24)),
  (23, (.slice none 0 0, 1, 24)),
  (50, (.agg #[.int .i64 0, .string ByteArray.empty, .slice none 0 0, .bool false], 4, 56)),
  (31, (.slice none 0 0, 1, 24)),
  (105, (.slice none 0 0, 1, 24)),
  (63, (.pointer none, 1, 8)),
  (95, (.agg #[.slice none 0 0, .int .i64 0], 2, 32)),
  (24, (.nilFunc, 1, 8)),
  (25, (.nilFunc, 1, 8)),
  (27, (.slice none 0 0, 1, 24)),
  (29, (.agg #[.int .i64 0, .slice none 0 0], 2, 32)),
  (30, (.nilFunc, 1, 8)),
  (33, (.nilFunc, 1, 8)),
  (37, (.nilFunc, 1, 8)),
  (38, (.nilFunc, 1, 8)),
  (39, (.nilFunc, 1, 8)),
  (40, (.nilFunc, 1, 8)),
  (41, (.nilFunc, 1, 8)),
  (42, (.nilFunc, 1, 8)),
  (44, (.nilFunc, 1, 8)),
  (52, (.nilFunc, 1, 8)),
  (54, (.nilFunc, 1, 8)),
  (55, (.nilFunc, 1, 8)),
  (57, (.nilFunc, 1, 8)),
  (58, (.nilFunc, 1, 8)),
  (60, (.nilFunc, 1, 8)),
  (62, (.nilFunc, 1, 8)),
  (64, (.nilFunc, 1, 8)),
  (65, (.nilFunc, 1, 8)),
  (66, (.nilFunc, 1, 8)),
  (67, (.nilFunc, 1, 8)),
  (72, (.nilFunc, 1, 8)),
  (73, (.nilFunc, 1, 8)),
  (75, (.nilFunc, 1, 8)),
  (76, (.nilFunc, 1, 8)),
  (79, (.nilFunc, 1, 8)),
  (80, (.nilFunc, 1, 8)),
  (81, (.nilFunc, 1, 8)),
  (82, (.nilFunc, 1, 8)),
  (83, (.nilFunc, 1, 8)),
  (84, (.nilFunc, 1, 8)),
  (85, (.nilFunc, 1, 8)),
  (87, (.nilFunc, 1, 8)),
  (91, (.nilFunc, 1, 8)),
  (96, (.nilFunc, 1, 8)),
  (98, (.nilFunc, 1, 8)),
  (99, (.nilFunc, 1, 8)),
  (100, (.agg #[.string ByteArray.empty, .slice none 0 0, .bool false], 3, 48)),
  (101, (.nilFunc, 1, 8)),
  (102, (.nilFunc, 1, 8)),
  (104, (.nilFunc, 1, 8)),
  (106, (.nilFunc, 1, 8)),
  (107, (.nilFunc, 1, 8)),
  (110, (.nilFunc, 1, 8)),
  (113, (.pointer none, 1, 8)),
  (114, (.nilFunc, 1, 8)),
  (116, (.nilFunc, 1, 8)),
  (117, (.nilFunc, 1, 8)),
  (118, (.nilFunc, 1, 8)),
  (119, (.nilFunc, 1, 8)),
  (120, (.nilFunc, 1, 8)),
  (123, (.nilFunc, 1, 8)),
  (124, (.nilFunc, 1, 8)),
  (125, (.nilFunc, 1, 8)),
  (127, (.nilFunc, 1, 8)),
  (137, (.nilFunc, 1, 8)),
  (139, (.nilFunc, 1, 8)),
  (148, (.nilFunc, 1, 8)),
  (1, (.nilFunc, 1, 8)),
  (2, (.int .i64 0, 1, 8)),
  (6, (.int .u8 0, 1, 1)),
  (7, (.agg #[.int .i64 0, .int .i64 0, .bool false, .int .u8 0], 4, 24)),
  (8, (.agg #[.int .i64 0, .int .i64 0, .bool false, .int .u8 0], 4, 24)),
  (10, (.string ByteArray.empty, 1, 16)),
  (11, (.string ByteArray.empty, 1, 16)),
  (12, (.int .u64 0, 1, 8)),
  (13, (.agg #[.string ByteArray.empty, .int .u64 0], 2, 24)),
  (14, (.agg #[.string ByteArray.empty, .int .u64 0], 2, 24)),
  (15, (.pointer none, 1, 8)),
  (16, (.pointer none, 1, 8)),
  (17, (.pointer none, 1, 8)),
  (18, (.agg #[.pointer none], 1, 8)),
  (19, (.agg #[.pointer none], 1, 8)),
  (20, (.nilIface, 1, 16)),
  (21, (.int .i32 0, 1, 4)),
  (26, (.nilFunc, 1, 8)),
  (28, (.agg #[.int .i64 0, .slice none 0 0], 2, 32)),
  (35, (.agg #[.int .i64 0, .slice none 0 0], 2, 32)),
  (45, (.nilFunc, 1, 8)),
  (47, (.agg #[.string ByteArray.empty, .slice none 0 0, .bool false], 3, 48)),
  (49, (.agg #[.int .i64 0, .string ByteArray.empty, .slice none 0 0, .bool false], 4, 56)),
  (59, (.nilFunc, 1, 8)),
  (61, (.nilFunc, 1, 8)),
  (68, (.nilFunc, 1, 8)),
  (69, (.nilFunc, 1, 8)),
  (70, (.nilFunc, 1, 8)),
  (71, (.nilFunc, 1, 8)),
  (74, (.nilFunc, 1, 8)),
  (77, (.nilFunc, 1, 8)),
  (78, (.nilFunc, 1, 8)),
  (86, (.nilFunc, 1, 8)),
  (88, (.nilFunc, 1, 8)),
  (89, (.nilFunc, 1, 8)),
  (92, (.nilFunc, 1, 8)),
  (93, (.nilFunc, 1, 8)),
  (94, (.agg #[.slice none 0 0, .int .i64 0], 2, 32)),
  (97, (.nilFunc, 1, 8)),
  (103, (.nilFunc, 1, 8)),
  (108, (.nilFunc, 1, 8)),
  (109, (.nilFunc, 1, 8)),
  (111, (.nilFunc, 1, 8)),
  (112, (.int .u64 0, 1, 8)),
  (115, (.nilFunc, 1, 8)),
  (121, (.int .i64 0, 1, 8)),
  (128, (.nilFunc, 1, 8)),
  (129, (.int .u32 0, 1, 4)),
  (130, (.nilFunc, 1, 8)),
  (131, (.int .u64 0, 1, 8)),
  (132, (.nilFunc, 1, 8)),
  (133, (.nilFunc, 1, 8)),
  (134, (.int .u64 0, 1, 8)),
  (135, (.nilFunc, 1, 8)),
  (136, (.nilFunc, 1, 8)),
  (138, (.pointer none, 1, 8)),
  (140, (.nilFunc, 1, 8)),
  (141, (.nilFunc, 1, 8)),
  (142, (.nilFunc, 1, 8)),
  (143, (.nilFunc, 1, 8)),
  (144, (.nilFunc, 1, 8)),
  (145, (.nilFunc, 1, 8)),
  (146, (.pointer none, 1, 8)),
  (149, (.nilFunc, 1, 8)),
  (150, (.nilFunc, 1, 8)),
  (151, (.nilFunc, 1, 8)),
  (152, (.nilFunc, 1, 8)),
  (153, (.agg #[.pointer none, .pointer none, .pointer none, .string ByteArray.empty], 4, 40)),
  (154, (.agg #[.pointer none, .pointer none, .pointer none, .string ByteArray.empty], 4, 40)),
  (158, (.nilFunc, 1, 8)),
  (159, (.int .u8 0, 1, 1)),
  (160, (.int .u8 0, 1, 1)),
  (161, (.nilFunc, 1, 8)),
  (162, (.pointer none, 1, 8)),
  (163, (.int .i32 0, 1, 4)),
  (164, (.int .i32 0, 1, 4)),
  (165, (.agg #[.int .u64 0, .int .u64 0, .int .u32 0, .int .u8 0, .int .u8 0, .int .u8 0, .int .u8 0, .nilFunc, .pointer none, .int .i32 0, .int .i32 0], 11, 48)),
  (166, (.agg #[.int .u64 0, .int .u64 0, .int .u32 0, .int .u8 0, .int .u8 0, .int .u8 0, .int .u8 0, .nilFunc, .pointer none, .int .i32 0, .int .i32 0], 11, 48)),
  (167, (.pointer none, 1, 8))]

theorem tAggs_ok : tAggs.all (chkAgg Try.prog) = true := by kernel_rfl
theorem tSles_ok : tSles.all (chkSle Try.prog) = true := by kernel_rfl
theorem tStrs_ok : tStrs.all (chkStr Try.prog) = true := by kernel_rfl
theorem tFlds_ok : tFlds.all (chkFld Try.prog) = true := by kernel_rfl
theorem tInfs_eq : tInfs.map (fun p => (Try.prog.info? p.1).map (fun i => (i.zero, i.size, i.bytes))) = tInfs.map (fun p => some (some p.2.1, p.2.2.1, p.2.2.2)) := by kernel_rfl
theorem tInfs_ok : ∀ p ∈ tInfs, (Try.prog.info? p.1).map (fun i => (i.zero, i.size, i.bytes)) = some (some p.2.1, p.2.2.1, p.2.2.2) :=
  List.map_inj_left.1 tInfs_eq
def Tb : Tab Try.prog := ⟨tAggs, tAggs_ok, tSles, tSles_ok, tStrs, tStrs_ok, tFlds, tFlds_ok, tInfs, tInfs_ok⟩

set_option maxRecDepth 100000 in
theorem hb3 : hasBody Try.prog 3 := ⟨_, Try.func3, rfl, by decide⟩
set_option maxRecDepth 100000 in
theorem hb4 : hasBody Try.prog 4 := ⟨_, Try.func4, rfl, by decide⟩
set_option maxRecDepth 100000 in
theorem hb5 : hasBody Try.prog 5 := ⟨_, Try.func5, rfl, by decide⟩
set_option maxRecDepth 100000 in
theorem hb6 : hasBody Try.prog 6 := ⟨_, Try.func6, rfl, by decide⟩
set_option maxRecDepth 100000 in
theorem hb7 : hasBody Try.prog 7 := ⟨_, Try.func7, rfl, by decide⟩
set_option maxRecDepth 100000 in
theorem hb8 : hasBody Try.prog 8 := ⟨_, Try.func8, rfl, by decide⟩
set_option maxRecDepth 100000 in
theorem hb9 : hasBody Try.prog 9 := ⟨_, Try.func9, rfl, by decide⟩
set_option maxRecDepth 100000 in
theorem hb10 : hasBody Try.prog 10 := ⟨_, Try.func10, rfl, by decide⟩
set_option maxRecDepth 100000 in
theorem hb11 : hasBody Try.prog 11 := ⟨_, Try.func11, rfl, by decide⟩
set_option maxRecDepth 100000 in
theorem hb12 : hasBody Try.prog 12 := ⟨_, Try.func12, rfl, by decide⟩
set_option maxRecDepth 100000 in
theorem hb13 : hasBody Try.prog 13 := ⟨_, Try.func13, rfl, by decide⟩
set_option maxRecDepth 100000 in
theorem hb14 : hasBody Try.prog 14 := ⟨_, Try.func14, rfl, by decide⟩
set_option maxRecDepth 100000 in
theorem hb15 : hasBody Try.prog 15 := ⟨_, Try.func15, rfl, by decide⟩
set_option maxRecDepth 100000 in
theorem hb16 : hasBody Try.prog 16 := ⟨_, Try.func16, rfl, by decide⟩
set_option maxRecDepth 100000 in
theorem hb17 : hasBody Try.prog 17 := ⟨_, Try.func17, rfl, by decide⟩
set_option maxRecDepth 100000 in
theorem hb18 : hasBody Try.prog 18 := ⟨_, Try.func18, rfl, by decide⟩
set_option maxRecDepth 100000 in
theorem hb19 : hasBody Try.prog 19 := ⟨_, Try.func19, rfl, by decide⟩
set_option maxRecDepth 100000 in
theorem hb20 : hasBody Try.prog 20 := ⟨_, Try.func20, rfl, by decide⟩
set_option maxRecDepth 100000 in
theorem hb21 : hasBody Try.prog 21 := ⟨_, Try.func21, rfl, by decide⟩
set_option maxRecDepth 100000 in
theorem hb22 : hasBody Try.prog 22 := ⟨_, Try.func22, rfl, by decide⟩
set_option maxRecDepth 100000 in
theorem hb23 : hasBody Try.prog 23 := ⟨_, Try.func23, rfl, by decide⟩
set_option maxRecDepth 100000 in
theorem hb24 : hasBody Try.prog 24 := ⟨_, Try.func24, rfl, by decide⟩
set_option maxRecDepth 100000 in
theorem hb25 : hasBody Try.prog 25 := ⟨_, Try.func25, rfl, by decide⟩
set_option maxRecDepth 100000 in
theorem hb26 : hasBody Try.prog 26 := ⟨_, Try.func26, rfl, by decide⟩
set_option maxRecDepth 100000 in
theorem hb27 : hasBody Try.prog 27 := ⟨_, Try.func27, rfl, by decide⟩
set_option maxRecDepth 100000 in
theorem hb28 : hasBody Try.prog 28 := ⟨_, Try.func28, rfl, by decide⟩
set_option maxRecDepth 100000 in
theorem hb29 : hasBody Try.prog 29 := ⟨_, Try.func29, rfl, by decide⟩
set_option maxRecDepth 100000 in
theorem hb30 : hasBody Try.prog 30 := ⟨_, Try.func30, rfl, by decide⟩
set_option maxRecDepth 100000 in
theorem hb31 : hasBody Try.prog 31 := ⟨_, Try.func31, rfl, by decide⟩
set_option maxRecDepth 100000 in
theorem hb32 : hasBody Try.prog 32 := ⟨_, Try.func32, rfl, by decide⟩
set_option maxRecDepth 100000 in
theorem hb33 : hasBody Try.prog 33 := ⟨_, Try.func33, rfl, by decide⟩
set_option maxRecDepth 100000 in
theorem hb34 : hasBody Try.prog 34 := ⟨_, Try.func34, rfl, by decide⟩
set_option maxRecDepth 100000 in
theorem hb35 : hasBody Try.prog 35 := ⟨_, Try.func35, rfl, by decide⟩
set_option maxRecDepth 100000 in
theorem hb36 : hasBody Try.prog 36 := ⟨_, Try.func36, rfl, by decide⟩
set_option maxRecDepth 100000 in
theorem hb37 : hasBody Try.prog 37 := ⟨_, Try.func37, rfl, by decide⟩
set_option maxRecDepth 100000 in
theorem hb38 : hasBody Try.prog 38 := ⟨_, Try.func38, rfl, by decide⟩
set_option maxRecDepth 100000 in
theorem hb39 : hasBody Try.prog 39 := ⟨_, Try.func39, rfl, by decide⟩
set_option maxRecDepth 100000 in
theorem hb40 : hasBody Try.prog 40 := ⟨_, Try.func40, rfl, by decide⟩
set_option maxRecDepth 100000 in
theorem hb41 : hasBody Try.prog 41 := ⟨_, Try.func41, rfl, by decide⟩
set_option maxRecDepth 100000 in
theorem hb42 : hasBody Try.prog 42 := ⟨_, Try.func42, rfl, by decide⟩
set_option maxRecDepth 100000 in
theorem hb43 : hasBody Try.prog 43 := ⟨_, Try.func43, rfl, by decide⟩
set_option maxRecDepth 100000 in
theorem hb44 : hasBody Try.prog 44 := ⟨_, Try.func44, rfl, by decide⟩
set_option maxRecDepth 100000 in
theorem hb45 : hasBody Try.prog 45 := ⟨_, Try.func45, rfl, by decide⟩
set_option maxRecDepth 100000 in
theorem hb46 : hasBody Try.prog 46 := ⟨_, Try.func46, rfl, by decide⟩
set_option maxRecDepth 100000 in
theorem hb47 : hasBody Try.prog 47 := ⟨_, Try.func47, rfl, by decide⟩
set_option maxRecDepth 100000 in
theorem hb48 : hasBody Try.prog 48 := ⟨_, Try.func48, rfl, by decide⟩
set_option maxRecDepth 100000 in
theorem hb49 : hasBody Try.prog 49 := ⟨_, Try.func49, rfl, by decide⟩
set_option maxRecDepth 100000 in
theorem hb50 : hasBody Try.prog 50 := ⟨_, Try.func50, rfl, by decide⟩
set_option maxRecDepth 100000 in
theorem hb51 : hasBody Try.prog 51 := ⟨_, Try.func51, rfl, by decide⟩
set_option maxRecDepth 100000 in
theorem hb52 : hasBody Try.prog 52 := ⟨_, Try.func52, rfl, by decide⟩
set_option maxRecDepth 100000 in
theorem hb53 : hasBody Try.prog 53 := ⟨_, Try.func53, rfl, by decide⟩
set_option maxRecDepth 100000 in
theorem hb54 : hasBody Try.prog 54 := ⟨_, Try.func54, rfl, by decide⟩
set_option maxRecDepth 100000 in
theorem hb55 : hasBody Try.prog 55 := ⟨_, Try.func55, rfl, by decide⟩
set_option maxRecDepth 100000 in
theorem hb56 : hasBody Try.prog 56 := ⟨_, Try.func56, rfl, by decide⟩
set_option maxRecDepth 100000 in
theorem hb57 : hasBody Try.prog 57 := ⟨_, Try.func57, rfl, by decide⟩
set_option maxRecDepth 100000 in
theorem hb58 : hasBody Try.prog 58 := ⟨_, Try.func58, rfl, by decide⟩
set_option maxRecDepth 100000 in
theorem hb59 : hasBody Try.prog 59 := ⟨_, Try.func59, rfl, by decide⟩
set_option maxRecDepth 100000 in
theorem hb60 : hasBody Try.prog 60 := ⟨_, Try.func60, rfl, by decide⟩
set_option maxRecDepth 100000 in
theorem hb61 : hasBody Try.prog 61 := ⟨_, Try.func61, rfl, by decide⟩
set_option maxRecDepth 100000 in
theorem hb62 : hasBody Try.prog 62 := ⟨_, Try.func62, rfl, by decide⟩
set_option maxRecDepth 100000 in
theorem hb63 : hasBody Try.prog 63 := ⟨_, Try.func63, rfl, by decide⟩
set_option maxRecDepth 100000 in
theorem hb64 : hasBody Try.prog 64 := ⟨_, Try.func64, rfl, by decide⟩
set_option maxRecDepth 100000 in
theorem hb65 : hasBody Try.prog 65 := ⟨_, Try.func65, rfl, by decide⟩
set_option maxRecDepth 100000 in
theorem hb66 : hasBody Try.prog 66 := ⟨_, Try.func66, rfl, by decide⟩
set_option maxRecDepth 100000 in
theorem hb67 : hasBody Try.prog 67 := ⟨_, Try.func67, rfl, by decide⟩
set_option maxRecDepth 100000 in
theorem hb68 : hasBody Try.prog 68 := ⟨_, Try.func68, rfl, by decide⟩
set_option maxRecDepth 100000 in
theorem hb69 : hasBody Try.prog 69 := ⟨_, Try.func69, rfl, by decide⟩
set_option maxRecDepth 100000 in
theorem hb70 : hasBody Try.prog 70 := ⟨_, Try.func70, rfl, by decide⟩
set_option maxRecDepth 100000 in
theorem hb71 : hasBody Try.prog 71 := ⟨_, Try.func71, rfl, by decide⟩
set_option maxRecDepth 100000 in
theorem hb72 : hasBody Try.prog 72 := ⟨_, Try.func72, rfl, by decide⟩
set_option maxRecDepth 100000 in
theorem hb73 : hasBody Try.prog 73 := ⟨_, Try.func73, rfl, by decide⟩
set_option maxRecDepth 100000 in
theorem hb74 : hasBody Try.prog 74 := ⟨_, Try.func74, rfl, by decide⟩
set_option maxRecDepth 100000 in
theorem hb75 : hasBody Try.prog 75 := ⟨_, Try.func75, rfl, by decide⟩
set_option maxRecDepth 100000 in
theorem hb76 : hasBody Try.prog 76 := ⟨_, Try.func76, rfl, by decide⟩
set_option maxRecDepth 100000 in
theorem hb77 : hasBody Try.prog 77 := ⟨_, Try.func77, rfl, by decide⟩
set_option maxRecDepth 100000 in
theorem hb78 : hasBody Try.prog 78 := ⟨_, Try.func78, rfl, by decide⟩
set_option maxRecDepth 100000 in
theorem hb79 : hasBody Try.prog 79 := ⟨_, Try.func79, rfl, by decide⟩
set_option maxRecDepth 100000 in
theorem hb80 : hasBody Try.prog 80 := ⟨_, Try.func80, rfl, by decide⟩
set_option maxRecDepth 100000 in
theorem hb81 : hasBody Try.prog 81 := ⟨_, Try.func81, rfl, by decide⟩
set_option maxRecDepth 100000 in
theorem hb82 : hasBody Try.prog 82 := ⟨_, Try.func82, rfl, by decide⟩
set_option maxRecDepth 100000 in
theorem hb83 : hasBody Try.prog 83 := ⟨_, Try.func83, rfl, by decide⟩
set_option maxRecDepth 100000 in
theorem hb84 : hasBody Try.prog 84 := ⟨_, Try.func84, rfl, by decide⟩
set_option maxRecDepth 100000 in
theorem hb85 : hasBody Try.prog 85 := ⟨_, Try.func85, rfl, by decide⟩
set_option maxRecDepth 100000 in
theorem hb86 : hasBody Try.prog 86 := ⟨_, Try.func86, rfl, by decide⟩
set_option maxRecDepth 100000 in
theorem hb87 : hasBody Try.prog 87 := ⟨_, Try.func87, rfl, by decide⟩
set_option maxRecDepth 100000 in
theorem hb88 : hasBody Try.prog 88 := ⟨_, Try.func88, rfl, by decide⟩
set_option maxRecDepth 100000 in
theorem hb89 : hasBody Try.prog 89 := ⟨_, Try.func89, rfl, by decide⟩
set_option maxRecDepth 100000 in
theorem hb90 : hasBody Try.prog 90 := ⟨_, Try.func90, rfl, by decide⟩
set_option maxRecDepth 100000 in
theorem hb91 : hasBody Try.prog 91 := ⟨_, Try.func91, rfl, by decide⟩
set_option maxRecDepth 100000 in
theorem hb92 : hasBody Try.prog 92 := ⟨_, Try.func92, rfl, by decide⟩
set_option maxRecDepth 100000 in
theorem hb93 : hasBody Try.prog 93 := ⟨_, Try.func93, rfl, by decide⟩
set_option maxRecDepth 100000 in
theorem hb94 : hasBody Try.prog 94 := ⟨_, Try.func94, rfl, by decide⟩
set_option maxRecDepth 100000 in
theorem hb95 : hasBody Try.prog 95 := ⟨_, Try.func95, rfl, by decide⟩
set_option maxRecDepth 100000 in
theorem hb96 : hasBody Try.prog 96 := ⟨_, Try.func96, rfl, by decide⟩
set_option maxRecDepth 100000 in
theorem hb98 : hasBody Try.prog 98 := ⟨_, Try.func98, rfl, by decide⟩
set_option maxRecDepth 100000 in
theorem hb99 : hasBody Try.prog 99 := ⟨_, Try.func99, rfl, by decide⟩
set_option maxRecDepth 100000 in
theorem hb100 : hasBody Try.prog 100 := ⟨_, Try.func100, rfl, by decide⟩
set_option maxRecDepth 100000 in
theorem hb101 : hasBody Try.prog 101 := ⟨_, Try.func101, rfl, by decide⟩
set_option maxRecDepth 100000 in
theorem hb102 : hasBody Try.prog 102 := ⟨_, Try.func102, rfl, by decide⟩
set_option maxRecDepth 100000 in
theorem hb103 : hasBody Try.prog 103 := ⟨_, Try.func103, rfl, by decide⟩
set_option maxRecDepth 100000 in
theorem hb104 : hasBody Try.prog 104 := ⟨_, Try.func104, rfl, by decide⟩
set_option maxRecDepth 100000 in
theorem hb105 : hasBody Try.prog 105 := ⟨_, Try.func105, rfl, by decide⟩
set_option maxRecDepth 100000 in
theorem hb106 : hasBody Try.prog 106 := ⟨_, Try.func106, rfl, by decide⟩
set_option maxRecDepth 100000 in
theorem hb107 : hasBody Try.prog 107 := ⟨_, Try.func107, rfl, by decide⟩
set_option maxRecDepth 100000 in
theorem hb108 : hasBody Try.prog 108 := ⟨_, Try.func108, rfl, by decide⟩
set_option maxRecDepth 100000 in
theorem hb109 : hasBody Try.prog 109 := ⟨_, Try.func109, rfl, by decide⟩
set_option maxRecDepth 100000 in
theorem hb110 : hasBody Try.prog 110 := ⟨_, Try.func110, rfl, by decide⟩
set_option maxRecDepth 100000 in
theorem hb111 : hasBody Try.prog 111 := ⟨_, Try.func111, rfl, by decide⟩
set_option maxRecDepth 100000 in
theorem hb112 : hasBody Try.prog 112 := ⟨_, Try.func112, rfl, by decide⟩
set_option maxRecDepth 100000 in
theorem hb113 : hasBody Try.prog 113 := ⟨_, Try.func113, rfl, by decide⟩
set_option maxRecDepth 100000 in
theorem hb114 : hasBody Try.prog 114 := ⟨_, Try.func114, rfl, by decide⟩
set_option maxRecDepth 100000 in
theorem hb115 : hasBody Try.prog 115 := ⟨_, Try.func115, rfl, by decide⟩
set_option maxRecDepth 100000 in
theorem hb116 : hasBody Try.prog 116 := ⟨_, Try.func116, rfl, by decide⟩
set_option maxRecDepth 100000 in
theorem hb117 : hasBody Try.prog 117 := ⟨_, Try.func117, rfl, by decide⟩
set_option maxRecDepth 100000 in
theorem hb118 : hasBody Try.prog 118 := ⟨_, Try.func118, rfl, by decide⟩
set_option maxRecDepth 100000 in
theorem hb119 : hasBody Try.prog 119 := ⟨_, Try.func119, rfl, by decide⟩
set_option maxRecDepth 100000 in
theorem hb120 : hasBody Try.prog 120 := ⟨_, Try.func120, rfl, by decide⟩
set_option maxRecDepth 100000 in
theorem hb121 : hasBody Try.prog 121 := ⟨_, Try.func121, rfl, by decide⟩
set_option maxRecDepth 100000 in
theorem hb122 : hasBody Try.prog 122 := ⟨_, Try.func122, rfl, by decide⟩
set_option maxRecDepth 100000 in
theorem hb124 : hasBody Try.prog 124 := ⟨_, Try.func124, rfl, by decide⟩
set_option maxRecDepth 100000 in
theorem hb125 : hasBody Try.prog 125 := ⟨_, Try.func125, rfl, by decide⟩
set_option maxRecDepth 100000 in
theorem hb126 : hasBody Try.prog 126 := ⟨_, Try.func126, rfl, by decide⟩
set_option maxRecDepth 100000 in
theorem hb127 : hasBody Try.prog 127 := ⟨_, Try.func127, rfl, by decide⟩
set_option maxRecDepth 100000 in
theorem hb128 : hasBody Try.prog 128 := ⟨_, Try.func128, rfl, by decide⟩
set_option maxRecDepth 100000 in
theorem hb130 : hasBody Try.prog 130 := ⟨_, Try.func130, rfl, by decide⟩
set_option maxRecDepth 100000 in
theorem hb131 : hasBody Try.prog 131 := ⟨_, Try.func131, rfl, by decide⟩
set_option maxRecDepth 100000 in
theorem hb132 : hasBody Try.prog 132 := ⟨_, Try.func132, rfl, by decide⟩
set_option maxRecDepth 100000 in
theorem hb133 : hasBody Try.prog 133 := ⟨_, Try.func133, rfl, by decide⟩
set_option maxRecDepth 100000 in
theorem hb134 : hasBody Try.prog 134 := ⟨_, Try.func134, rfl, by decide⟩
set_option maxRecDepth 100000 in
theorem hb135 : hasBody Try.prog 135 := ⟨_, Try.func135, rfl, by decide⟩
set_option maxRecDepth 100000 in
theorem hb136 : hasBody Try.prog 136 := ⟨_, Try.func136, rfl, by decide⟩
set_option maxRecDepth 100000 in
theorem hb137 : hasBody Try.prog 137 := ⟨_, Try.func137, rfl, by decide⟩
set_option maxRecDepth 100000 in
theorem hb138 : hasBody Try.prog 138 := ⟨_, Try.func138, rfl, by decide⟩
set_option maxRecDepth 100000 in
theorem hb139 : hasBody Try.prog 139 := ⟨_, Try.func139, rfl, by decide⟩
set_option maxRecDepth 100000 in
theorem hb140 : hasBody Try.prog 140 := ⟨_, Try.func140, rfl, by decide⟩
set_option maxRecDepth 100000 in
theorem hb141 : hasBody Try.prog 141 := ⟨_, Try.func141, rfl, by decide⟩
set_option maxRecDepth 100000 in
theorem hb142 : hasBody Try.prog 142 := ⟨_, Try.func142, rfl, by decide⟩
set_option maxRecDepth 100000 in
theorem hb143 : hasBody Try.prog 143 := ⟨_, Try.func143, rfl, by decide⟩
set_option maxRecDepth 100000 in
theorem hb144 : hasBody Try.prog 144 := ⟨_, Try.func144, rfl, by decide⟩
set_option maxRecDepth 100000 in
theorem hb145 : hasBody Try.prog 145 := ⟨_, Try.func145, rfl, by decide⟩
set_option maxRecDepth 100000 in
theorem hb146 : hasBody Try.prog 146 := ⟨_, Try.func146, rfl, by decide⟩

end Go.Proofs.Ythmifmpllgofkaa
