/- The tables of this program's types, and that its functions have bodies. Printed by a program (mkfacts.py). -/
import Derived.Test.YtmnhnldnnniglaaChecked
import Derived.Test.YtmnhnldnnniglaaMem
import Derived.KernelRfl
namespace Go.Proofs.Ytmnhnldnnniglaa

def tAggs : List (Nat × Bool) := [(3, false), (9, false), (4, false), (26, false), (28, true), (23, false), (25, true), (5, false), (22, false), (30, true), (42, false), (87, false), (55, false), (86, true), (32, false), (34, false), (35, false), (37, false), (41, false), (44, false), (45, false), (48, false), (50, false), (51, false), (54, false), (56, false), (57, false), (58, false), (59, false), (60, false), (62, false), (63, false), (64, false), (66, false), (70, false), (71, false), (76, false), (77, false), (80, false), (82, false), (83, false), (88, false), (91, false), (92, false), (95, false), (96, false), (97, false), (99, false), (100, false), (101, false), (102, false), (103, false), (106, false), (107, false), (110, false), (111, false), (112, false), (114, false), (119, false), (130, false), (132, false), (137, false), (1, false), (2, false), (6, false), (7, true), (8, true), (10, false), (11, false), (12, false), (13, true), (14, true), (15, false), (16, false), (17, false), (18, true), (19, true), (20, false), (21, false), (24, true), (27, true), (29, true), (38, false), (39, false), (40, false), (46, false), (53, false), (61, false), (65, false), (67, false), (68, false), (72, false), (73, false), (74, false), (75, false), (78, false), (79, false), (81, false), (84, false), (85, true), (89, false), (90, false), (93, false), (94, false), (98, false), (104, false), (105, false), (108, false), (115, false), (116, false), (117, false), (118, false), (120, false), (121, false), (122, false), (123, false), (124, false), (125, false), (126, false), (127, false), (128, false), (129, false), (131, false), (133, false), (134, false), (135, false), (138, false), (139, false), (140, true), (141, true), (142, true), (143, true), (144, true), (145, false), (146, false), (147, false), (148, false), (149, false), (150, false), (151, false), (152, true), (153, true), (154, false)]
def tSles : List (Nat × Nat) := [(26, 9), (23, 28), (22, 5), (42, 30), (87, 3)]
def tStrs : List (Nat × Unit) := [(9, ()), (10, ()), (11, ())]
def tFlds : List (Nat × List (Nat × Nat)) := [(28, [(0, 9), (1, 26), (2, 4)]), (25, [(0, 3), (1, 23)]), (30, [(0, 3), (1, 28)]), (86, [(0, 22), (1, 3)]), (7, [(0, 2), (1, 3), (2, 4), (3, 6)]), (8, [(0, 2), (1, 3), (2, 4), (3, 6)]), (13, [(0, 9), (1, 12)]), (14, [(0, 9), (1, 12)]), (18, [(0, 17)]), (19, [(0, 17)]), (24, [(0, 3), (1, 23)]), (27, [(0, 9), (1, 26), (2, 4)]), (29, [(0, 3), (1, 28)]), (85, [(0, 22), (1, 3)]), (140, [(0, 17), (1, 17), (2, 17), (3, 9)]), (141, [(0, 17), (1, 17), (2, 17), (3, 9)]), (143, [(0, 142)]), (144, [(0, 142)]), (152, [(0, 12), (1, 12), (2, 116), (3, 146), (4, 5), (5, 5), (6, 147), (7, 148), (8, 149), (9, 150), (10, 151)]), (153, [(0, 12), (1, 12), (2, 116), (3, 146), (4, 5), (5, 5), (6, 147), (7, 148), (8, 149), (9, 150), (10, 151)])]
def tInfs : List (Nat × (Value × Nat × Nat)) := [(3, (.int .i64 0, 1, 8)),
  (9, (.string ByteArray.empty, 1, 16)),
  (4, (.bool false, 1, 1)),
  (26, (.slice none 0 0, 1, 24)),
  (28, (.agg #[.string ByteArray.empty, .slice none 0 0, .bool false], 3, 48)),
  (23, (.slice none 0 0, 1, 24)),
  (25, (.agg #[.int .i64 0, .slice none 0 0], 2, 32)),
  (5, (.int .u8 0, 1, 1)),
  (22, (.slice none 0 0, 1, 24)),
  (30, (.agg #[.int .i64 0, .string ByteArray.empty, .slice none 0 0, .bool false], 4, 56)),
  (42, (.slice none 0 0, 1, 24)),
  (87, (.slice none 0 0, 1, 24)),
  (55, (.pointer none, 1, 8)),
  (86, (.agg #[.slice none 0 0, .int .i64 0], 2, 32)),
  (32, (.nilFunc, 1, 8)),
  (34, (.nilFunc, 1, 8)),
  (35, (.nilFunc, 1, 8)),
  (37, (.nilFunc, 1, 8)),
  (41, (.nilFunc, 1, 8)),
  (44, (.nilFunc, 1, 8)),
  (45, (.nilFunc, 1, 8)),
  (48, (.nilFunc, 1, 8)),
  (50, (.nilFunc, 1, 8)),
  (51, (.nilFunc, 1, 8)),
  (54, (.nilFunc, 1, 8)),
  (56, (.nilFunc, 1, 8)),
  (57, (.nilFunc, 1, 8)),
  (58, (.nilFunc, 1, 8)),
  (59, (.nilFunc, 1, 8)),
  (60, (.nilFunc, 1, 8)),
  (62, (.nilFunc, 1, 8)),
  (63, (.nilFunc, 1, 8)),
  (64, (.nilFunc, 1, 8)),
  (66, (.nilFunc, 1, 8)),
  (70, (.nilFunc, 1, 8)),
  (71, (.nilFunc, 1, 8)),
  (76, (.nilFunc, 1, 8)),
  (77, (.nilFunc, 1, 8)),
  (80, (.nilFunc, 1, 8)),
  (82, (.nilFunc, 1, 8)),
  (83, (.nilFunc, 1, 8)),
  (88, (.nilFunc, 1, 8)),
  (91, (.nilFunc, 1, 8)),
  (92, (.nilFunc, 1, 8)),
  (95, (.pointer none, 1, 8)),
  (96, (.nilFunc, 1, 8)),
  (97, (.nilFunc, 1, 8)),
  (99, (.nilFunc, 1, 8)),
  (100, (.nilFunc, 1, 8)),
  (101, (.nilFunc, 1, 8)),
  (102, (.nilFunc, 1, 8)),
  (103, (.nilFunc, 1, 8)),
  (106, (.nilFunc, 1, 8)),
  (107, (.nilFunc, 1, 8)),
  (110, (.nilFunc, 1, 8)),
  (111, (.nilFunc, 1, 8)),
  (112, (.nilFunc, 1, 8)),
  (114, (.nilFunc, 1, 8)),
  (119, (.nilFunc, 1, 8)),
  (130, (.nilFunc, 1, 8)),
  (132, (.nilFunc, 1, 8)),
  (137, (.nilFunc, 1, 8)),
  (1, (.nilFunc, 1, 8)),
  (2, (.int .i64 0, 1, 8)),
  (6, (.int .u8 0, 1, 1)),
  (7, (.agg #[.int .i64 0, .int .i64 0, .bool false, .int .u8 0], 4, 24)),
  (8, (.agg #[.int .i64 0, .int .i64 0, .bool false, .int .u8 0], 4, 24)),
  (10, (.string ByteArray.empty, 1, 16)),
  (11, (.string ByteArray.empty, 1, 16)),
  (12, (.int .u64 0, 1, 8)),
  (13, (.agg #[.string ByteArray.empty, .int .u64 0], 2, 24)),
  (14, (.agg #[.string ByteArray.empty, .int .u64 0], 2, 24)),
  (15, (.pointer none, 1, 8)),
  (16, (.pointer none, 1, 8)),
  (17, (.pointer none, 1, 8)),
  (18, (.agg #[.pointer none], 1, 8)),
  (19, (.agg #[.pointer none], 1, 8)),
  (20, (.nilIface, 1, 16)),
  (21, (.int .i32 0, 1, 4)),
  (24, (.agg #[.int .i64 0, .slice none 0 0], 2, 32)),
  (27, (.agg #[.string ByteArray.empty, .slice none 0 0, .bool false], 3, 48)),
  (29, (.agg #[.int .i64 0, .string ByteArray.empty, .slice none 0 0, .bool false], 4, 56)),
  (38, (.nilFunc, 1, 8)),
  (39, (.nilFunc, 1, 8)),
  (40, (.nilFunc, 1, 8)),
  (46, (.nilFunc, 1, 8)),
  (53, (.nilFunc, 1, 8)),
  (61, (.nilFunc, 1, 8)),
  (65, (.nilFunc, 1, 8)),
  (67, (.nilFunc, 1, 8)),
  (68, (.nilFunc, 1, 8)),
  (72, (.nilFunc, 1, 8)),
  (73, (.map none, 1, 8)),
  (74, (.nilFunc, 1, 8)),
  (75, (.nilFunc, 1, 8)),
  (78, (.nilFunc, 1, 8)),
  (79, (.nilFunc, 1, 8)),
  (81, (.nilFunc, 1, 8)),
  (84, (.nilFunc, 1, 8)),
  (85, (.agg #[.slice none 0 0, .int .i64 0], 2, 32)),
  (89, (.nilFunc, 1, 8)),
  (90, (.nilFunc, 1, 8)),
  (93, (.nilFunc, 1, 8)),
  (94, (.int .u64 0, 1, 8)),
  (98, (.nilFunc, 1, 8)),
  (104, (.nilFunc, 1, 8)),
  (105, (.nilFunc, 1, 8)),
  (108, (.int .i64 0, 1, 8)),
  (115, (.nilFunc, 1, 8)),
  (116, (.int .u32 0, 1, 4)),
  (117, (.nilFunc, 1, 8)),
  (118, (.int .u64 0, 1, 8)),
  (120, (.nilFunc, 1, 8)),
  (121, (.nilFunc, 1, 8)),
  (122, (.nilFunc, 1, 8)),
  (123, (.nilFunc, 1, 8)),
  (124, (.nilFunc, 1, 8)),
  (125, (.nilFunc, 1, 8)),
  (126, (.nilFunc, 1, 8)),
  (127, (.int .u64 0, 1, 8)),
  (128, (.nilFunc, 1, 8)),
  (129, (.nilFunc, 1, 8)),
  (131, (.pointer none, 1, 8)),
  (133, (.nilFunc, 1, 8)),
  (134, (.nilFunc, 1, 8)),
  (135, (.pointer none, 1, 8)),
  (138, (.nilFunc, 1, 8)),
  (139, (.nilFunc, 1, 8)),
  (140, (.agg #[.pointer none, .pointer none, .pointer none, .string ByteArray.empty], 4, 40)),
  (141, (.agg #[.pointer none, .pointer none, .pointer none, .string ByteArray.empty], 4, 40)),
  (145, (.nilFunc, 1, 8)),
  (146, (.int .u8 0, 1, 1)),
  (147, (.int .u8 0, 1, 1)),
  (148, (.nilFunc, 1, 8)),
  (149, (.pointer none, 1, 8)),
  (150, (.int .i32 0, 1, 4)),
  (151, (.int .i32 0, 1, 4)),
  (152, (.agg #[.int .u64 0, .int .u64 0, .int .u32 0, .int .u8 0, .int .u8 0, .int .u8 0, .int .u8 0, .nilFunc, .pointer none, .int .i32 0, .int .i32 0], 11, 48)),
  (153, (.agg #[.int .u64 0, .int .u64 0, .int .u32 0, .int .u8 0, .int .u8 0, .int .u8 0, .int .u8 0, .nilFunc, .pointer none, .int .i32 0, .int .i32 0], 11, 48)),
  (154, (.pointer none, 1, 8))]

theorem tAggs_ok : tAggs.all (chkAgg Try.prog) = true := by kernel_rfl
theorem tSles_ok : tSles.all (chkSle Try.prog) = true := by kernel_rfl
theorem tStrs_ok : tStrs.all (chkStr Try.prog) = true := by kernel_rfl
theorem tFlds_ok : tFlds.all (chkFld Try.prog) = true := by kernel_rfl
theorem tInfs_eq : tInfs.map (fun p => (Try.prog.info? p.1).map (fun i => (i.zero, i.size, i.bytes))) = tInfs.map (fun p => some (some p.2.1, p.2.2.1, p.2.2.2)) := by kernel_rfl
theorem tInfs_ok : ∀ p ∈ tInfs, (Try.prog.info? p.1).map (fun i => (i.zero, i.size, i.bytes)) = some (some p.2.1, p.2.2.1, p.2.2.2) :=
  List.map_inj_left.1 tInfs_eq
def Tb : Tab Try.prog := ⟨tAggs, tAggs_ok, tSles, tSles_ok, tStrs, tStrs_ok, tFlds, tFlds_ok, tInfs, tInfs_ok⟩

set_option maxRecDepth 100000 in
theorem hb3 : hasBody Try.prog 3 := ⟨_, Try.func3, rfl, by decide⟩
set_option maxRecDepth 100000 in
theorem hb4 : hasBody Try.prog 4 := ⟨_, Try.func4, rfl, by decide⟩
set_option maxRecDepth 100000 in
theorem hb5 : hasBody Try.prog 5 := ⟨_, Try.func5, rfl, by decide⟩
set_option maxRecDepth 100000 in
theorem hb6 : hasBody Try.prog 6 := ⟨_, Try.func6, rfl, by decide⟩
set_option maxRecDepth 100000 in
theorem hb7 : hasBody Try.prog 7 := ⟨_, Try.func7, rfl, by decide⟩
set_option maxRecDepth 100000 in
theorem hb8 : hasBody Try.prog 8 := ⟨_, Try.func8, rfl, by decide⟩
set_option maxRecDepth 100000 in
theorem hb9 : hasBody Try.prog 9 := ⟨_, Try.func9, rfl, by decide⟩
set_option maxRecDepth 100000 in
theorem hb10 : hasBody Try.prog 10 := ⟨_, Try.func10, rfl, by decide⟩
set_option maxRecDepth 100000 in
theorem hb11 : hasBody Try.prog 11 := ⟨_, Try.func11, rfl, by decide⟩
set_option maxRecDepth 100000 in
theorem hb12 : hasBody Try.prog 12 := ⟨_, Try.func12, rfl, by decide⟩
set_option maxRecDepth 100000 in
theorem hb13 : hasBody Try.prog 13 := ⟨_, Try.func13, rfl, by decide⟩
set_option maxRecDepth 100000 in
theorem hb14 : hasBody Try.prog 14 := ⟨_, Try.func14, rfl, by decide⟩
set_option maxRecDepth 100000 in
theorem hb15 : hasBody Try.prog 15 := ⟨_, Try.func15, rfl, by decide⟩
set_option maxRecDepth 100000 in
theorem hb16 : hasBody Try.prog 16 := ⟨_, Try.func16, rfl, by decide⟩
set_option maxRecDepth 100000 in
theorem hb17 : hasBody Try.prog 17 := ⟨_, Try.func17, rfl, by decide⟩
set_option maxRecDepth 100000 in
theorem hb18 : hasBody Try.prog 18 := ⟨_, Try.func18, rfl, by decide⟩
set_option maxRecDepth 100000 in
theorem hb19 : hasBody Try.prog 19 := ⟨_, Try.func19, rfl, by decide⟩
set_option maxRecDepth 100000 in
theorem hb20 : hasBody Try.prog 20 := ⟨_, Try.func20, rfl, by decide⟩
set_option maxRecDepth 100000 in
theorem hb21 : hasBody Try.prog 21 := ⟨_, Try.func21, rfl, by decide⟩
set_option maxRecDepth 100000 in
theorem hb22 : hasBody Try.prog 22 := ⟨_, Try.func22, rfl, by decide⟩
set_option maxRecDepth 100000 in
theorem hb23 : hasBody Try.prog 23 := ⟨_, Try.func23, rfl, by decide⟩
set_option maxRecDepth 100000 in
theorem hb24 : hasBody Try.prog 24 := ⟨_, Try.func24, rfl, by decide⟩
set_option maxRecDepth 100000 in
theorem hb25 : hasBody Try.prog 25 := ⟨_, Try.func25, rfl, by decide⟩
set_option maxRecDepth 100000 in
theorem hb26 : hasBody Try.prog 26 := ⟨_, Try.func26, rfl, by decide⟩
set_option maxRecDepth 100000 in
theorem hb27 : hasBody Try.prog 27 := ⟨_, Try.func27, rfl, by decide⟩
set_option maxRecDepth 100000 in
theorem hb28 : hasBody Try.prog 28 := ⟨_, Try.func28, rfl, by decide⟩
set_option maxRecDepth 100000 in
theorem hb29 : hasBody Try.prog 29 := ⟨_, Try.func29, rfl, by decide⟩
set_option maxRecDepth 100000 in
theorem hb30 : hasBody Try.prog 30 := ⟨_, Try.func30, rfl, by decide⟩
set_option maxRecDepth 100000 in
theorem hb31 : hasBody Try.prog 31 := ⟨_, Try.func31, rfl, by decide⟩
set_option maxRecDepth 100000 in
theorem hb32 : hasBody Try.prog 32 := ⟨_, Try.func32, rfl, by decide⟩
set_option maxRecDepth 100000 in
theorem hb33 : hasBody Try.prog 33 := ⟨_, Try.func33, rfl, by decide⟩
set_option maxRecDepth 100000 in
theorem hb34 : hasBody Try.prog 34 := ⟨_, Try.func34, rfl, by decide⟩
set_option maxRecDepth 100000 in
theorem hb35 : hasBody Try.prog 35 := ⟨_, Try.func35, rfl, by decide⟩
set_option maxRecDepth 100000 in
theorem hb36 : hasBody Try.prog 36 := ⟨_, Try.func36, rfl, by decide⟩
set_option maxRecDepth 100000 in
theorem hb37 : hasBody Try.prog 37 := ⟨_, Try.func37, rfl, by decide⟩
set_option maxRecDepth 100000 in
theorem hb38 : hasBody Try.prog 38 := ⟨_, Try.func38, rfl, by decide⟩
set_option maxRecDepth 100000 in
theorem hb39 : hasBody Try.prog 39 := ⟨_, Try.func39, rfl, by decide⟩
set_option maxRecDepth 100000 in
theorem hb40 : hasBody Try.prog 40 := ⟨_, Try.func40, rfl, by decide⟩
set_option maxRecDepth 100000 in
theorem hb41 : hasBody Try.prog 41 := ⟨_, Try.func41, rfl, by decide⟩
set_option maxRecDepth 100000 in
theorem hb42 : hasBody Try.prog 42 := ⟨_, Try.func42, rfl, by decide⟩
set_option maxRecDepth 100000 in
theorem hb43 : hasBody Try.prog 43 := ⟨_, Try.func43, rfl, by decide⟩
set_option maxRecDepth 100000 in
theorem hb44 : hasBody Try.prog 44 := ⟨_, Try.func44, rfl, by decide⟩
set_option maxRecDepth 100000 in
theorem hb45 : hasBody Try.prog 45 := ⟨_, Try.func45, rfl, by decide⟩
set_option maxRecDepth 100000 in
theorem hb46 : hasBody Try.prog 46 := ⟨_, Try.func46, rfl, by decide⟩
set_option maxRecDepth 100000 in
theorem hb47 : hasBody Try.prog 47 := ⟨_, Try.func47, rfl, by decide⟩
set_option maxRecDepth 100000 in
theorem hb48 : hasBody Try.prog 48 := ⟨_, Try.func48, rfl, by decide⟩
set_option maxRecDepth 100000 in
theorem hb49 : hasBody Try.prog 49 := ⟨_, Try.func49, rfl, by decide⟩
set_option maxRecDepth 100000 in
theorem hb50 : hasBody Try.prog 50 := ⟨_, Try.func50, rfl, by decide⟩
set_option maxRecDepth 100000 in
theorem hb51 : hasBody Try.prog 51 := ⟨_, Try.func51, rfl, by decide⟩
set_option maxRecDepth 100000 in
theorem hb52 : hasBody Try.prog 52 := ⟨_, Try.func52, rfl, by decide⟩
set_option maxRecDepth 100000 in
theorem hb53 : hasBody Try.prog 53 := ⟨_, Try.func53, rfl, by decide⟩
set_option maxRecDepth 100000 in
theorem hb54 : hasBody Try.prog 54 := ⟨_, Try.func54, rfl, by decide⟩
set_option maxRecDepth 100000 in
theorem hb55 : hasBody Try.prog 55 := ⟨_, Try.func55, rfl, by decide⟩
set_option maxRecDepth 100000 in
theorem hb56 : hasBody Try.prog 56 := ⟨_, Try.func56, rfl, by decide⟩
set_option maxRecDepth 100000 in
theorem hb57 : hasBody Try.prog 57 := ⟨_, Try.func57, rfl, by decide⟩
set_option maxRecDepth 100000 in
theorem hb58 : hasBody Try.prog 58 := ⟨_, Try.func58, rfl, by decide⟩
set_option maxRecDepth 100000 in
theorem hb59 : hasBody Try.prog 59 := ⟨_, Try.func59, rfl, by decide⟩
set_option maxRecDepth 100000 in
theorem hb60 : hasBody Try.prog 60 := ⟨_, Try.func60, rfl, by decide⟩
set_option maxRecDepth 100000 in
theorem hb61 : hasBody Try.prog 61 := ⟨_, Try.func61, rfl, by decide⟩
set_option maxRecDepth 100000 in
theorem hb62 : hasBody Try.prog 62 := ⟨_, Try.func62, rfl, by decide⟩
set_option maxRecDepth 100000 in
theorem hb63 : hasBody Try.prog 63 := ⟨_, Try.func63, rfl, by decide⟩
set_option maxRecDepth 100000 in
theorem hb64 : hasBody Try.prog 64 := ⟨_, Try.func64, rfl, by decide⟩
set_option maxRecDepth 100000 in
theorem hb65 : hasBody Try.prog 65 := ⟨_, Try.func65, rfl, by decide⟩
set_option maxRecDepth 100000 in
theorem hb66 : hasBody Try.prog 66 := ⟨_, Try.func66, rfl, by decide⟩
set_option maxRecDepth 100000 in
theorem hb67 : hasBody Try.prog 67 := ⟨_, Try.func67, rfl, by decide⟩
set_option maxRecDepth 100000 in
theorem hb68 : hasBody Try.prog 68 := ⟨_, Try.func68, rfl, by decide⟩
set_option maxRecDepth 100000 in
theorem hb69 : hasBody Try.prog 69 := ⟨_, Try.func69, rfl, by decide⟩
set_option maxRecDepth 100000 in
theorem hb70 : hasBody Try.prog 70 := ⟨_, Try.func70, rfl, by decide⟩
set_option maxRecDepth 100000 in
theorem hb72 : hasBody Try.prog 72 := ⟨_, Try.func72, rfl, by decide⟩
set_option maxRecDepth 100000 in
theorem hb73 : hasBody Try.prog 73 := ⟨_, Try.func73, rfl, by decide⟩
set_option maxRecDepth 100000 in
theorem hb74 : hasBody Try.prog 74 := ⟨_, Try.func74, rfl, by decide⟩
set_option maxRecDepth 100000 in
theorem hb75 : hasBody Try.prog 75 := ⟨_, Try.func75, rfl, by decide⟩
set_option maxRecDepth 100000 in
theorem hb76 : hasBody Try.prog 76 := ⟨_, Try.func76, rfl, by decide⟩
set_option maxRecDepth 100000 in
theorem hb77 : hasBody Try.prog 77 := ⟨_, Try.func77, rfl, by decide⟩
set_option maxRecDepth 100000 in
theorem hb78 : hasBody Try.prog 78 := ⟨_, Try.func78, rfl, by decide⟩
set_option maxRecDepth 100000 in
theorem hb79 : hasBody Try.prog 79 := ⟨_, Try.func79, rfl, by decide⟩
set_option maxRecDepth 100000 in
theorem hb80 : hasBody Try.prog 80 := ⟨_, Try.func80, rfl, by decide⟩
set_option maxRecDepth 100000 in
theorem hb81 : hasBody Try.prog 81 := ⟨_, Try.func81, rfl, by decide⟩
set_option maxRecDepth 100000 in
theorem hb82 : hasBody Try.prog 82 := ⟨_, Try.func82, rfl, by decide⟩
set_option maxRecDepth 100000 in
theorem hb83 : hasBody Try.prog 83 := ⟨_, Try.func83, rfl, by decide⟩
set_option maxRecDepth 100000 in
theorem hb84 : hasBody Try.prog 84 := ⟨_, Try.func84, rfl, by decide⟩
set_option maxRecDepth 100000 in
theorem hb85 : hasBody Try.prog 85 := ⟨_, Try.func85, rfl, by decide⟩
set_option maxRecDepth 100000 in
theorem hb86 : hasBody Try.prog 86 := ⟨_, Try.func86, rfl, by decide⟩
set_option maxRecDepth 100000 in
theorem hb87 : hasBody Try.prog 87 := ⟨_, Try.func87, rfl, by decide⟩
set_option maxRecDepth 100000 in
theorem hb88 : hasBody Try.prog 88 := ⟨_, Try.func88, rfl, by decide⟩
set_option maxRecDepth 100000 in
theorem hb89 : hasBody Try.prog 89 := ⟨_, Try.func89, rfl, by decide⟩
set_option maxRecDepth 100000 in
theorem hb90 : hasBody Try.prog 90 := ⟨_, Try.func90, rfl, by decide⟩
set_option maxRecDepth 100000 in
theorem hb91 : hasBody Try.prog 91 := ⟨_, Try.func91, rfl, by decide⟩
set_option maxRecDepth 100000 in
theorem hb92 : hasBody Try.prog 92 := ⟨_, Try.func92, rfl, by decide⟩
set_option maxRecDepth 100000 in
theorem hb93 : hasBody Try.prog 93 := ⟨_, Try.func93, rfl, by decide⟩
set_option maxRecDepth 100000 in
theorem hb94 : hasBody Try.prog 94 := ⟨_, Try.func94, rfl, by decide⟩
set_option maxRecDepth 100000 in
theorem hb95 : hasBody Try.prog 95 := ⟨_, Try.func95, rfl, by decide⟩
set_option maxRecDepth 100000 in
theorem hb96 : hasBody Try.prog 96 := ⟨_, Try.func96, rfl, by decide⟩
set_option maxRecDepth 100000 in
theorem hb97 : hasBody Try.prog 97 := ⟨_, Try.func97, rfl, by decide⟩
set_option maxRecDepth 100000 in
theorem hb98 : hasBody Try.prog 98 := ⟨_, Try.func98, rfl, by decide⟩
set_option maxRecDepth 100000 in
theorem hb100 : hasBody Try.prog 100 := ⟨_, Try.func100, rfl, by decide⟩
set_option maxRecDepth 100000 in
theorem hb101 : hasBody Try.prog 101 := ⟨_, Try.func101, rfl, by decide⟩
set_option maxRecDepth 100000 in
theorem hb102 : hasBody Try.prog 102 := ⟨_, Try.func102, rfl, by decide⟩
set_option maxRecDepth 100000 in
theorem hb103 : hasBody Try.prog 103 := ⟨_, Try.func103, rfl, by decide⟩
set_option maxRecDepth 100000 in
theorem hb104 : hasBody Try.prog 104 := ⟨_, Try.func104, rfl, by decide⟩
set_option maxRecDepth 100000 in
theorem hb105 : hasBody Try.prog 105 := ⟨_, Try.func105, rfl, by decide⟩
set_option maxRecDepth 100000 in
theorem hb106 : hasBody Try.prog 106 := ⟨_, Try.func106, rfl, by decide⟩
set_option maxRecDepth 100000 in
theorem hb107 : hasBody Try.prog 107 := ⟨_, Try.func107, rfl, by decide⟩
set_option maxRecDepth 100000 in
theorem hb108 : hasBody Try.prog 108 := ⟨_, Try.func108, rfl, by decide⟩
set_option maxRecDepth 100000 in
theorem hb109 : hasBody Try.prog 109 := ⟨_, Try.func109, rfl, by decide⟩
set_option maxRecDepth 100000 in
theorem hb110 : hasBody Try.prog 110 := ⟨_, Try.func110, rfl, by decide⟩
set_option maxRecDepth 100000 in
theorem hb111 : hasBody Try.prog 111 := ⟨_, Try.func111, rfl, by decide⟩
set_option maxRecDepth 100000 in
theorem hb112 : hasBody Try.prog 112 := ⟨_, Try.func112, rfl, by decide⟩
set_option maxRecDepth 100000 in
theorem hb114 : hasBody Try.prog 114 := ⟨_, Try.func114, rfl, by decide⟩
set_option maxRecDepth 100000 in
theorem hb115 : hasBody Try.prog 115 := ⟨_, Try.func115, rfl, by decide⟩
set_option maxRecDepth 100000 in
theorem hb116 : hasBody Try.prog 116 := ⟨_, Try.func116, rfl, by decide⟩
set_option maxRecDepth 100000 in
theorem hb117 : hasBody Try.prog 117 := ⟨_, Try.func117, rfl, by decide⟩
set_option maxRecDepth 100000 in
theorem hb118 : hasBody Try.prog 118 := ⟨_, Try.func118, rfl, by decide⟩
set_option maxRecDepth 100000 in
theorem hb119 : hasBody Try.prog 119 := ⟨_, Try.func119, rfl, by decide⟩
set_option maxRecDepth 100000 in
theorem hb120 : hasBody Try.prog 120 := ⟨_, Try.func120, rfl, by decide⟩
set_option maxRecDepth 100000 in
theorem hb121 : hasBody Try.prog 121 := ⟨_, Try.func121, rfl, by decide⟩
set_option maxRecDepth 100000 in
theorem hb122 : hasBody Try.prog 122 := ⟨_, Try.func122, rfl, by decide⟩

end Go.Proofs.Ytmnhnldnnniglaa
