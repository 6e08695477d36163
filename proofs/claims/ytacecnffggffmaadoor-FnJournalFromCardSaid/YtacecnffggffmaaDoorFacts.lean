/- The tables of this program's types, and that its functions have bodies. Printed by a program (mkfacts.py). -/
import Derived.Test.YtacecnffggffmaaDoorChecked
import Derived.Test.YtacecnffggffmaaDoorMem
import Derived.KernelRfl
namespace Go.Proofs.YtacecnffggffmaaDoor

def tAggs : List (Nat × Bool) := [(3, false), (9, false), (4, false), (58, false), (5, false), (22, false), (35, true), (23, false), (37, false), (63, true), (24, false), (25, false), (26, false), (28, false), (29, false), (31, false), (36, false), (38, false), (39, false), (53, false), (55, false), (59, false), (60, false), (1, false), (2, false), (6, false), (7, true), (8, true), (10, false), (11, false), (12, false), (13, true), (14, true), (15, false), (16, false), (17, false), (18, true), (19, true), (20, false), (21, false), (30, false), (32, false), (33, false), (34, true), (40, false), (41, false), (42, true), (43, true), (44, false), (45, false), (47, false), (48, false), (49, false), (51, false), (54, false), (56, false), (57, false), (61, false), (62, true), (64, false), (65, false), (66, false), (67, false), (68, false), (69, false), (70, false), (71, false), (72, false), (73, false), (74, false), (75, false), (76, false), (78, false), (79, false), (80, false), (81, false), (82, true), (83, false), (84, false), (85, false), (87, false), (88, false), (90, false), (92, false), (94, false), (95, false), (96, true), (97, true), (98, false), (99, false), (100, true), (101, true), (102, false), (103, false), (104, false), (105, false), (106, true), (107, true), (108, false), (109, true), (110, true), (111, true), (112, true), (113, true), (114, true), (115, true), (116, true), (117, true), (118, true), (119, true), (120, false), (121, false), (122, false), (123, false), (124, false), (125, false), (126, true), (127, true)]
def tSles : List (Nat × Nat) := [(58, 9), (22, 5), (23, 35)]
def tStrs : List (Nat × Unit) := [(9, ()), (10, ()), (11, ())]
def tFlds : List (Nat × List (Nat × Nat)) := [(35, [(0, 3), (1, 9)]), (63, [(0, 22), (1, 3)]), (7, [(0, 2), (1, 3), (2, 4), (3, 6)]), (8, [(0, 2), (1, 3), (2, 4), (3, 6)]), (13, [(0, 9), (1, 12)]), (14, [(0, 9), (1, 12)]), (18, [(0, 17)]), (19, [(0, 17)]), (34, [(0, 3), (1, 9)]), (42, [(0, 41), (1, 22)]), (43, [(0, 41), (1, 22)]), (62, [(0, 22), (1, 3)]), (96, [(0, 9), (1, 9), (2, 45)]), (97, [(0, 9), (1, 9), (2, 45)]), (106, [(0, 9)]), (107, [(0, 9)]), (110, [(0, 5), (1, 5)]), (111, [(0, 5), (1, 5)]), (115, [(0, 17), (1, 17), (2, 17), (3, 9)]), (116, [(0, 17), (1, 17), (2, 17), (3, 9)]), (118, [(0, 117)]), (119, [(0, 117)]), (126, [(0, 12), (1, 12), (2, 88), (3, 121), (4, 5), (5, 5), (6, 122), (7, 123), (8, 64), (9, 124), (10, 125)]), (127, [(0, 12), (1, 12), (2, 88), (3, 121), (4, 5), (5, 5), (6, 122), (7, 123), (8, 64), (9, 124), (10, 125)])]
def tInfs : List (Nat × (Value × Nat × Nat)) := [(3, (.int .i64 0, 1, 8)),
  (9, (.string ByteArray.empty, 1, 16)),
  (4, (.bool false, 1, 1)),
  (58, (.slice none 0 0, 1, 24)),
  (5, (.int .u8 0, 1, 1)),
  (22, (.slice none 0 0, 1, 24)),
  (35, (.agg #[.int .i64 0, .string ByteArray.empty], 2, 24)),
  (23, (.slice none 0 0, 1, 24)),
  (37, (.pointer none, 1, 8)),
  (63, (.agg #[.slice none 0 0, .int .i64 0], 2, 32)),
  (24, (.nilFunc, 1, 8)),
  (25, (.nilFunc, 1, 8)),
  (26, (.nilFunc, 1, 8)),
  (28, (.nilFunc, 1, 8)),
  (29, (.nilFunc, 1, 8)),
  (31, (.nilFunc, 1, 8)),
  (36, (.nilFunc, 1, 8)),
  (38, (.nilFunc, 1, 8)),
  (39, (.nilFunc, 1, 8)),
  (53, (.nilFunc, 1, 8)),
  (55, (.nilFunc, 1, 8)),
  (59, (.nilFunc, 1, 8)),
  (60, (.nilFunc, 1, 8)),
  (1, (.nilFunc, 1, 8)),
  (2, (.int .i64 0, 1, 8)),
  (6, (.int .u8 0, 1, 1)),
  (7, (.agg #[.int .i64 0, .int .i64 0, .bool false, .int .u8 0], 4, 24)),
  (8, (.agg #[.int .i64 0, .int .i64 0, .bool false, .int .u8 0], 4, 24)),
  (10, (.string ByteArray.empty, 1, 16)),
  (11, (.string ByteArray.empty, 1, 16)),
  (12, (.int .u64 0, 1, 8)),
  (13, (.agg #[.string ByteArray.empty, .int .u64 0], 2, 24)),
  (14, (.agg #[.string ByteArray.empty, .int .u64 0], 2, 24)),
  (15, (.pointer none, 1, 8)),
  (16, (.pointer none, 1, 8)),
  (17, (.pointer none, 1, 8)),
  (18, (.agg #[.pointer none], 1, 8)),
  (19, (.agg #[.pointer none], 1, 8)),
  (20, (.nilIface, 1, 16)),
  (21, (.int .i32 0, 1, 4)),
  (30, (.nilFunc, 1, 8)),
  (32, (.nilFunc, 1, 8)),
  (33, (.nilFunc, 1, 8)),
  (34, (.agg #[.int .i64 0, .string ByteArray.empty], 2, 24)),
  (40, (.nilFunc, 1, 8)),
  (41, (.pointer none, 1, 8)),
  (42, (.agg #[.pointer none, .slice none 0 0], 2, 32)),
  (43, (.agg #[.pointer none, .slice none 0 0], 2, 32)),
  (44, (.nilIface, 1, 16)),
  (45, (.nilIface, 1, 16)),
  (47, (.nilFunc, 1, 8)),
  (48, (.nilFunc, 1, 8)),
  (49, (.nilFunc, 1, 8)),
  (51, (.nilFunc, 1, 8)),
  (54, (.nilFunc, 1, 8)),
  (56, (.nilFunc, 1, 8)),
  (57, (.nilFunc, 1, 8)),
  (61, (.nilFunc, 1, 8)),
  (62, (.agg #[.slice none 0 0, .int .i64 0], 2, 32)),
  (64, (.pointer none, 1, 8)),
  (65, (.nilFunc, 1, 8)),
  (66, (.nilFunc, 1, 8)),
  (67, (.pointer none, 1, 8)),
  (68, (.nilFunc, 1, 8)),
  (69, (.nilFunc, 1, 8)),
  (70, (.nilFunc, 1, 8)),
  (71, (.nilFunc, 1, 8)),
  (72, (.nilFunc, 1, 8)),
  (73, (.nilFunc, 1, 8)),
  (74, (.int .u64 0, 1, 8)),
  (75, (.nilFunc, 1, 8)),
  (76, (.int .i64 0, 1, 8)),
  (78, (.nilFunc, 1, 8)),
  (79, (.pointer none, 1, 8)),
  (80, (.nilFunc, 1, 8)),
  (81, (.nilFunc, 1, 8)),
  (83, (.int .u64 0, 1, 8)),
  (84, (.nilFunc, 1, 8)),
  (85, (.nilFunc, 1, 8)),
  (87, (.nilFunc, 1, 8)),
  (88, (.int .u32 0, 1, 4)),
  (90, (.nilFunc, 1, 8)),
  (92, (.nilFunc, 1, 8)),
  (94, (.nilFunc, 1, 8)),
  (95, (.nilFunc, 1, 8)),
  (96, (.agg #[.string ByteArray.empty, .string ByteArray.empty, .nilIface], 3, 48)),
  (97, (.agg #[.string ByteArray.empty, .string ByteArray.empty, .nilIface], 3, 48)),
  (98, (.nilFunc, 1, 8)),
  (99, (.nilFunc, 1, 8)),
  (102, (.nilFunc, 1, 8)),
  (103, (.nilFunc, 1, 8)),
  (104, (.nilFunc, 1, 8)),
  (105, (.pointer none, 1, 8)),
  (106, (.agg #[.string ByteArray.empty], 1, 16)),
  (107, (.agg #[.string ByteArray.empty], 1, 16)),
  (108, (.nilFunc, 1, 8)),
  (110, (.agg #[.int .u8 0, .int .u8 0], 2, 2)),
  (111, (.agg #[.int .u8 0, .int .u8 0], 2, 2)),
  (115, (.agg #[.pointer none, .pointer none, .pointer none, .string ByteArray.empty], 4, 40)),
  (116, (.agg #[.pointer none, .pointer none, .pointer none, .string ByteArray.empty], 4, 40)),
  (120, (.nilFunc, 1, 8)),
  (121, (.int .u8 0, 1, 1)),
  (122, (.int .u8 0, 1, 1)),
  (123, (.nilFunc, 1, 8)),
  (124, (.int .i32 0, 1, 4)),
  (125, (.int .i32 0, 1, 4)),
  (126, (.agg #[.int .u64 0, .int .u64 0, .int .u32 0, .int .u8 0, .int .u8 0, .int .u8 0, .int .u8 0, .nilFunc, .pointer none, .int .i32 0, .int .i32 0], 11, 48)),
  (127, (.agg #[.int .u64 0, .int .u64 0, .int .u32 0, .int .u8 0, .int .u8 0, .int .u8 0, .int .u8 0, .nilFunc, .pointer none, .int .i32 0, .int .i32 0], 11, 48))]

theorem tAggs_ok : tAggs.all (chkAgg Tryd.prog) = true := by kernel_rfl
theorem tSles_ok : tSles.all (chkSle Tryd.prog) = true := by kernel_rfl
theorem tStrs_ok : tStrs.all (chkStr Tryd.prog) = true := by kernel_rfl
theorem tFlds_ok : tFlds.all (chkFld Tryd.prog) = true := by kernel_rfl
theorem tInfs_eq : tInfs.map (fun p => (Tryd.prog.info? p.1).map (fun i => (i.zero, i.size, i.bytes))) = tInfs.map (fun p => some (some p.2.1, p.2.2.1, p.2.2.2)) := by kernel_rfl
theorem tInfs_ok : ∀ p ∈ tInfs, (Tryd.prog.info? p.1).map (fun i => (i.zero, i.size, i.bytes)) = some (some p.2.1, p.2.2.1, p.2.2.2) :=
  List.map_inj_left.1 tInfs_eq
def Tb : Tab Tryd.prog := ⟨tAggs, tAggs_ok, tSles, tSles_ok, tStrs, tStrs_ok, tFlds, tFlds_ok, tInfs, tInfs_ok⟩

set_option maxRecDepth 100000 in
theorem hb3 : hasBody Tryd.prog 3 := ⟨_, Tryd.func3, rfl, by decide⟩
set_option maxRecDepth 100000 in
theorem hb4 : hasBody Tryd.prog 4 := ⟨_, Tryd.func4, rfl, by decide⟩
set_option maxRecDepth 100000 in
theorem hb5 : hasBody Tryd.prog 5 := ⟨_, Tryd.func5, rfl, by decide⟩
set_option maxRecDepth 100000 in
theorem hb6 : hasBody Tryd.prog 6 := ⟨_, Tryd.func6, rfl, by decide⟩
set_option maxRecDepth 100000 in
theorem hb7 : hasBody Tryd.prog 7 := ⟨_, Tryd.func7, rfl, by decide⟩
set_option maxRecDepth 100000 in
theorem hb8 : hasBody Tryd.prog 8 := ⟨_, Tryd.func8, rfl, by decide⟩
set_option maxRecDepth 100000 in
theorem hb9 : hasBody Tryd.prog 9 := ⟨_, Tryd.func9, rfl, by decide⟩
set_option maxRecDepth 100000 in
theorem hb10 : hasBody Tryd.prog 10 := ⟨_, Tryd.func10, rfl, by decide⟩
set_option maxRecDepth 100000 in
theorem hb11 : hasBody Tryd.prog 11 := ⟨_, Tryd.func11, rfl, by decide⟩
set_option maxRecDepth 100000 in
theorem hb12 : hasBody Tryd.prog 12 := ⟨_, Tryd.func12, rfl, by decide⟩
set_option maxRecDepth 100000 in
theorem hb13 : hasBody Tryd.prog 13 := ⟨_, Tryd.func13, rfl, by decide⟩
set_option maxRecDepth 100000 in
theorem hb14 : hasBody Tryd.prog 14 := ⟨_, Tryd.func14, rfl, by decide⟩
set_option maxRecDepth 100000 in
theorem hb15 : hasBody Tryd.prog 15 := ⟨_, Tryd.func15, rfl, by decide⟩
set_option maxRecDepth 100000 in
theorem hb16 : hasBody Tryd.prog 16 := ⟨_, Tryd.func16, rfl, by decide⟩
set_option maxRecDepth 100000 in
theorem hb17 : hasBody Tryd.prog 17 := ⟨_, Tryd.func17, rfl, by decide⟩
set_option maxRecDepth 100000 in
theorem hb18 : hasBody Tryd.prog 18 := ⟨_, Tryd.func18, rfl, by decide⟩
set_option maxRecDepth 100000 in
theorem hb19 : hasBody Tryd.prog 19 := ⟨_, Tryd.func19, rfl, by decide⟩
set_option maxRecDepth 100000 in
theorem hb20 : hasBody Tryd.prog 20 := ⟨_, Tryd.func20, rfl, by decide⟩
set_option maxRecDepth 100000 in
theorem hb21 : hasBody Tryd.prog 21 := ⟨_, Tryd.func21, rfl, by decide⟩
set_option maxRecDepth 100000 in
theorem hb22 : hasBody Tryd.prog 22 := ⟨_, Tryd.func22, rfl, by decide⟩
set_option maxRecDepth 100000 in
theorem hb23 : hasBody Tryd.prog 23 := ⟨_, Tryd.func23, rfl, by decide⟩
set_option maxRecDepth 100000 in
theorem hb24 : hasBody Tryd.prog 24 := ⟨_, Tryd.func24, rfl, by decide⟩
set_option maxRecDepth 100000 in
theorem hb25 : hasBody Tryd.prog 25 := ⟨_, Tryd.func25, rfl, by decide⟩
set_option maxRecDepth 100000 in
theorem hb26 : hasBody Tryd.prog 26 := ⟨_, Tryd.func26, rfl, by decide⟩
set_option maxRecDepth 100000 in
theorem hb27 : hasBody Tryd.prog 27 := ⟨_, Tryd.func27, rfl, by decide⟩
set_option maxRecDepth 100000 in
theorem hb28 : hasBody Tryd.prog 28 := ⟨_, Tryd.func28, rfl, by decide⟩
set_option maxRecDepth 100000 in
theorem hb29 : hasBody Tryd.prog 29 := ⟨_, Tryd.func29, rfl, by decide⟩
set_option maxRecDepth 100000 in
theorem hb30 : hasBody Tryd.prog 30 := ⟨_, Tryd.func30, rfl, by decide⟩
set_option maxRecDepth 100000 in
theorem hb31 : hasBody Tryd.prog 31 := ⟨_, Tryd.func31, rfl, by decide⟩
set_option maxRecDepth 100000 in
theorem hb32 : hasBody Tryd.prog 32 := ⟨_, Tryd.func32, rfl, by decide⟩
set_option maxRecDepth 100000 in
theorem hb33 : hasBody Tryd.prog 33 := ⟨_, Tryd.func33, rfl, by decide⟩
set_option maxRecDepth 100000 in
theorem hb34 : hasBody Tryd.prog 34 := ⟨_, Tryd.func34, rfl, by decide⟩
set_option maxRecDepth 100000 in
theorem hb35 : hasBody Tryd.prog 35 := ⟨_, Tryd.func35, rfl, by decide⟩
set_option maxRecDepth 100000 in
theorem hb36 : hasBody Tryd.prog 36 := ⟨_, Tryd.func36, rfl, by decide⟩
set_option maxRecDepth 100000 in
theorem hb37 : hasBody Tryd.prog 37 := ⟨_, Tryd.func37, rfl, by decide⟩
set_option maxRecDepth 100000 in
theorem hb38 : hasBody Tryd.prog 38 := ⟨_, Tryd.func38, rfl, by decide⟩
set_option maxRecDepth 100000 in
theorem hb39 : hasBody Tryd.prog 39 := ⟨_, Tryd.func39, rfl, by decide⟩
set_option maxRecDepth 100000 in
theorem hb40 : hasBody Tryd.prog 40 := ⟨_, Tryd.func40, rfl, by decide⟩
set_option maxRecDepth 100000 in
theorem hb41 : hasBody Tryd.prog 41 := ⟨_, Tryd.func41, rfl, by decide⟩
set_option maxRecDepth 100000 in
theorem hb42 : hasBody Tryd.prog 42 := ⟨_, Tryd.func42, rfl, by decide⟩
set_option maxRecDepth 100000 in
theorem hb43 : hasBody Tryd.prog 43 := ⟨_, Tryd.func43, rfl, by decide⟩
set_option maxRecDepth 100000 in
theorem hb44 : hasBody Tryd.prog 44 := ⟨_, Tryd.func44, rfl, by decide⟩
set_option maxRecDepth 100000 in
theorem hb45 : hasBody Tryd.prog 45 := ⟨_, Tryd.func45, rfl, by decide⟩
set_option maxRecDepth 100000 in
theorem hb46 : hasBody Tryd.prog 46 := ⟨_, Tryd.func46, rfl, by decide⟩
set_option maxRecDepth 100000 in
theorem hb47 : hasBody Tryd.prog 47 := ⟨_, Tryd.func47, rfl, by decide⟩
set_option maxRecDepth 100000 in
theorem hb48 : hasBody Tryd.prog 48 := ⟨_, Tryd.func48, rfl, by decide⟩
set_option maxRecDepth 100000 in
theorem hb49 : hasBody Tryd.prog 49 := ⟨_, Tryd.func49, rfl, by decide⟩
set_option maxRecDepth 100000 in
theorem hb50 : hasBody Tryd.prog 50 := ⟨_, Tryd.func50, rfl, by decide⟩
set_option maxRecDepth 100000 in
theorem hb51 : hasBody Tryd.prog 51 := ⟨_, Tryd.func51, rfl, by decide⟩
set_option maxRecDepth 100000 in
theorem hb52 : hasBody Tryd.prog 52 := ⟨_, Tryd.func52, rfl, by decide⟩
set_option maxRecDepth 100000 in
theorem hb54 : hasBody Tryd.prog 54 := ⟨_, Tryd.func54, rfl, by decide⟩
set_option maxRecDepth 100000 in
theorem hb55 : hasBody Tryd.prog 55 := ⟨_, Tryd.func55, rfl, by decide⟩
set_option maxRecDepth 100000 in
theorem hb56 : hasBody Tryd.prog 56 := ⟨_, Tryd.func56, rfl, by decide⟩
set_option maxRecDepth 100000 in
theorem hb57 : hasBody Tryd.prog 57 := ⟨_, Tryd.func57, rfl, by decide⟩
set_option maxRecDepth 100000 in
theorem hb58 : hasBody Tryd.prog 58 := ⟨_, Tryd.func58, rfl, by decide⟩
set_option maxRecDepth 100000 in
theorem hb59 : hasBody Tryd.prog 59 := ⟨_, Tryd.func59, rfl, by decide⟩
set_option maxRecDepth 100000 in
theorem hb63 : hasBody Tryd.prog 63 := ⟨_, Tryd.func63, rfl, by decide⟩
set_option maxRecDepth 100000 in
theorem hb64 : hasBody Tryd.prog 64 := ⟨_, Tryd.func64, rfl, by decide⟩
set_option maxRecDepth 100000 in
theorem hb65 : hasBody Tryd.prog 65 := ⟨_, Tryd.func65, rfl, by decide⟩
set_option maxRecDepth 100000 in
theorem hb66 : hasBody Tryd.prog 66 := ⟨_, Tryd.func66, rfl, by decide⟩
set_option maxRecDepth 100000 in
theorem hb67 : hasBody Tryd.prog 67 := ⟨_, Tryd.func67, rfl, by decide⟩
set_option maxRecDepth 100000 in
theorem hb68 : hasBody Tryd.prog 68 := ⟨_, Tryd.func68, rfl, by decide⟩
set_option maxRecDepth 100000 in
theorem hb69 : hasBody Tryd.prog 69 := ⟨_, Tryd.func69, rfl, by decide⟩
set_option maxRecDepth 100000 in
theorem hb70 : hasBody Tryd.prog 70 := ⟨_, Tryd.func70, rfl, by decide⟩
set_option maxRecDepth 100000 in
theorem hb71 : hasBody Tryd.prog 71 := ⟨_, Tryd.func71, rfl, by decide⟩
set_option maxRecDepth 100000 in
theorem hb72 : hasBody Tryd.prog 72 := ⟨_, Tryd.func72, rfl, by decide⟩
set_option maxRecDepth 100000 in
theorem hb73 : hasBody Tryd.prog 73 := ⟨_, Tryd.func73, rfl, by decide⟩
set_option maxRecDepth 100000 in
theorem hb74 : hasBody Tryd.prog 74 := ⟨_, Tryd.func74, rfl, by decide⟩
set_option maxRecDepth 100000 in
theorem hb77 : hasBody Tryd.prog 77 := ⟨_, Tryd.func77, rfl, by decide⟩
set_option maxRecDepth 100000 in
theorem hb78 : hasBody Tryd.prog 78 := ⟨_, Tryd.func78, rfl, by decide⟩
set_option maxRecDepth 100000 in
theorem hb80 : hasBody Tryd.prog 80 := ⟨_, Tryd.func80, rfl, by decide⟩
set_option maxRecDepth 100000 in
theorem hb81 : hasBody Tryd.prog 81 := ⟨_, Tryd.func81, rfl, by decide⟩
set_option maxRecDepth 100000 in
theorem hb83 : hasBody Tryd.prog 83 := ⟨_, Tryd.func83, rfl, by decide⟩
set_option maxRecDepth 100000 in
theorem hb84 : hasBody Tryd.prog 84 := ⟨_, Tryd.func84, rfl, by decide⟩
set_option maxRecDepth 100000 in
theorem hb85 : hasBody Tryd.prog 85 := ⟨_, Tryd.func85, rfl, by decide⟩
set_option maxRecDepth 100000 in
theorem hb86 : hasBody Tryd.prog 86 := ⟨_, Tryd.func86, rfl, by decide⟩
set_option maxRecDepth 100000 in
theorem hb87 : hasBody Tryd.prog 87 := ⟨_, Tryd.func87, rfl, by decide⟩
set_option maxRecDepth 100000 in
theorem hb88 : hasBody Tryd.prog 88 := ⟨_, Tryd.func88, rfl, by decide⟩
set_option maxRecDepth 100000 in
theorem hb89 : hasBody Tryd.prog 89 := ⟨_, Tryd.func89, rfl, by decide⟩
set_option maxRecDepth 100000 in
theorem hb90 : hasBody Tryd.prog 90 := ⟨_, Tryd.func90, rfl, by decide⟩
set_option maxRecDepth 100000 in
theorem hb91 : hasBody Tryd.prog 91 := ⟨_, Tryd.func91, rfl, by decide⟩
set_option maxRecDepth 100000 in
theorem hb92 : hasBody Tryd.prog 92 := ⟨_, Tryd.func92, rfl, by decide⟩

end Go.Proofs.YtacecnffggffmaaDoor
