/- The tables of this program's types, and that its functions have bodies. Printed by a program (mkfacts.py). -/
import Derived.Test.YtibjdlpfejdedaaDoorChecked
import Derived.Test.YtibjdlpfejdedaaDoorMem
import Derived.KernelRfl
namespace Go.Proofs.YtibjdlpfejdedaaDoor

def tAggs : List (Nat × Bool) := [(3, false), (9, false), (4, false), (40, false), (5, false), (22, false), (24, true), (34, false), (51, true), (26, false), (27, false), (29, false), (31, false), (35, false), (37, false), (38, false), (49, false), (1, false), (2, false), (6, false), (7, true), (8, true), (10, false), (11, false), (12, false), (13, true), (14, true), (15, false), (16, false), (17, false), (18, true), (19, true), (20, false), (21, false), (23, true), (30, false), (32, false), (33, false), (36, false), (39, false), (41, false), (42, false), (43, false), (44, false), (45, false), (47, false), (48, false), (50, true), (52, false), (53, false), (54, false), (55, false), (56, false), (57, false), (58, false), (60, false), (61, false), (62, false), (63, false), (64, true), (65, false), (66, false), (67, false), (69, false), (71, false), (72, false), (74, false), (75, false), (76, false), (77, true), (78, true), (79, false), (80, false), (81, true), (82, false), (83, true), (84, false), (85, false), (86, false), (87, false), (88, false), (89, true), (90, true), (91, false), (92, true), (93, true), (94, true), (95, true), (97, false), (98, true), (99, true), (100, false), (101, true), (102, true), (103, true), (104, true), (105, true), (106, false), (107, false), (108, false), (109, false), (110, false), (111, false), (112, true), (113, true), (114, false)]
def tSles : List (Nat × Nat) := [(40, 9), (22, 5)]
def tStrs : List (Nat × Unit) := [(9, ()), (10, ()), (11, ())]
def tFlds : List (Nat × List (Nat × Nat)) := [(24, [(0, 3), (1, 9)]), (51, [(0, 22), (1, 3)]), (7, [(0, 2), (1, 3), (2, 4), (3, 6)]), (8, [(0, 2), (1, 3), (2, 4), (3, 6)]), (13, [(0, 9), (1, 12)]), (14, [(0, 9), (1, 12)]), (18, [(0, 17)]), (19, [(0, 17)]), (23, [(0, 3), (1, 9)]), (50, [(0, 22), (1, 3)]), (77, [(0, 9), (1, 9), (2, 45)]), (78, [(0, 9), (1, 9), (2, 45)]), (89, [(0, 9)]), (90, [(0, 9)]), (93, [(0, 5), (1, 5)]), (94, [(0, 5), (1, 5)]), (101, [(0, 17), (1, 17), (2, 17), (3, 9)]), (102, [(0, 17), (1, 17), (2, 17), (3, 9)]), (104, [(0, 103)]), (105, [(0, 103)]), (112, [(0, 12), (1, 12), (2, 82), (3, 107), (4, 5), (5, 5), (6, 108), (7, 109), (8, 87), (9, 110), (10, 111)]), (113, [(0, 12), (1, 12), (2, 82), (3, 107), (4, 5), (5, 5), (6, 108), (7, 109), (8, 87), (9, 110), (10, 111)])]
def tInfs : List (Nat × (Value × Nat × Nat)) := [(3, (.int .i64 0, 1, 8)),
  (9, (.string ByteArray.empty, 1, 16)),
  (4, (.bool false, 1, 1)),
  (40, (.slice none 0 0, 1, 24)),
  (5, (.int .u8 0, 1, 1)),
  (22, (.slice none 0 0, 1, 24)),
  (24, (.agg #[.int .i64 0, .string ByteArray.empty], 2, 24)),
  (34, (.pointer none, 1, 8)),
  (51, (.agg #[.slice none 0 0, .int .i64 0], 2, 32)),
  (26, (.nilFunc, 1, 8)),
  (27, (.nilFunc, 1, 8)),
  (29, (.nilFunc, 1, 8)),
  (31, (.nilFunc, 1, 8)),
  (35, (.nilFunc, 1, 8)),
  (37, (.nilFunc, 1, 8)),
  (38, (.nilFunc, 1, 8)),
  (49, (.nilFunc, 1, 8)),
  (1, (.nilFunc, 1, 8)),
  (2, (.int .i64 0, 1, 8)),
  (6, (.int .u8 0, 1, 1)),
  (7, (.agg #[.int .i64 0, .int .i64 0, .bool false, .int .u8 0], 4, 24)),
  (8, (.agg #[.int .i64 0, .int .i64 0, .bool false, .int .u8 0], 4, 24)),
  (10, (.string ByteArray.empty, 1, 16)),
  (11, (.string ByteArray.empty, 1, 16)),
  (12, (.int .u64 0, 1, 8)),
  (13, (.agg #[.string ByteArray.empty, .int .u64 0], 2, 24)),
  (14, (.agg #[.string ByteArray.empty, .int .u64 0], 2, 24)),
  (15, (.pointer none, 1, 8)),
  (16, (.pointer none, 1, 8)),
  (17, (.pointer none, 1, 8)),
  (18, (.agg #[.pointer none], 1, 8)),
  (19, (.agg #[.pointer none], 1, 8)),
  (20, (.nilIface, 1, 16)),
  (21, (.int .i32 0, 1, 4)),
  (23, (.agg #[.int .i64 0, .string ByteArray.empty], 2, 24)),
  (30, (.nilFunc, 1, 8)),
  (32, (.nilFunc, 1, 8)),
  (33, (.nilFunc, 1, 8)),
  (36, (.nilFunc, 1, 8)),
  (39, (.nilFunc, 1, 8)),
  (41, (.nilFunc, 1, 8)),
  (42, (.nilFunc, 1, 8)),
  (43, (.nilFunc, 1, 8)),
  (44, (.nilIface, 1, 16)),
  (45, (.nilIface, 1, 16)),
  (47, (.nilFunc, 1, 8)),
  (48, (.nilFunc, 1, 8)),
  (50, (.agg #[.slice none 0 0, .int .i64 0], 2, 32)),
  (52, (.nilFunc, 1, 8)),
  (53, (.nilFunc, 1, 8)),
  (54, (.nilFunc, 1, 8)),
  (55, (.nilFunc, 1, 8)),
  (56, (.nilFunc, 1, 8)),
  (57, (.nilFunc, 1, 8)),
  (58, (.int .i64 0, 1, 8)),
  (60, (.nilFunc, 1, 8)),
  (61, (.pointer none, 1, 8)),
  (62, (.nilFunc, 1, 8)),
  (63, (.nilFunc, 1, 8)),
  (65, (.int .u64 0, 1, 8)),
  (66, (.nilFunc, 1, 8)),
  (67, (.nilFunc, 1, 8)),
  (69, (.nilFunc, 1, 8)),
  (71, (.nilFunc, 1, 8)),
  (72, (.nilFunc, 1, 8)),
  (74, (.nilFunc, 1, 8)),
  (75, (.int .u64 0, 1, 8)),
  (76, (.nilFunc, 1, 8)),
  (77, (.agg #[.string ByteArray.empty, .string ByteArray.empty, .nilIface], 3, 48)),
  (78, (.agg #[.string ByteArray.empty, .string ByteArray.empty, .nilIface], 3, 48)),
  (79, (.nilFunc, 1, 8)),
  (80, (.nilFunc, 1, 8)),
  (82, (.int .u32 0, 1, 4)),
  (84, (.nilFunc, 1, 8)),
  (85, (.nilFunc, 1, 8)),
  (86, (.nilFunc, 1, 8)),
  (87, (.pointer none, 1, 8)),
  (88, (.pointer none, 1, 8)),
  (89, (.agg #[.string ByteArray.empty], 1, 16)),
  (90, (.agg #[.string ByteArray.empty], 1, 16)),
  (91, (.nilFunc, 1, 8)),
  (93, (.agg #[.int .u8 0, .int .u8 0], 2, 2)),
  (94, (.agg #[.int .u8 0, .int .u8 0], 2, 2)),
  (97, (.nilFunc, 1, 8)),
  (100, (.nilFunc, 1, 8)),
  (101, (.agg #[.pointer none, .pointer none, .pointer none, .string ByteArray.empty], 4, 40)),
  (102, (.agg #[.pointer none, .pointer none, .pointer none, .string ByteArray.empty], 4, 40)),
  (106, (.nilFunc, 1, 8)),
  (107, (.int .u8 0, 1, 1)),
  (108, (.int .u8 0, 1, 1)),
  (109, (.nilFunc, 1, 8)),
  (110, (.int .i32 0, 1, 4)),
  (111, (.int .i32 0, 1, 4)),
  (112, (.agg #[.int .u64 0, .int .u64 0, .int .u32 0, .int .u8 0, .int .u8 0, .int .u8 0, .int .u8 0, .nilFunc, .pointer none, .int .i32 0, .int .i32 0], 11, 48)),
  (113, (.agg #[.int .u64 0, .int .u64 0, .int .u32 0, .int .u8 0, .int .u8 0, .int .u8 0, .int .u8 0, .nilFunc, .pointer none, .int .i32 0, .int .i32 0], 11, 48)),
  (114, (.pointer none, 1, 8))]

theorem tAggs_ok : tAggs.all (chkAgg Tryd.prog) = true := by kernel_rfl
theorem tSles_ok : tSles.all (chkSle Tryd.prog) = true := by kernel_rfl
theorem tStrs_ok : tStrs.all (chkStr Tryd.prog) = true := by kernel_rfl
theorem tFlds_ok : tFlds.all (chkFld Tryd.prog) = true := by kernel_rfl
theorem tInfs_eq : tInfs.map (fun p => (Tryd.prog.info? p.1).map (fun i => (i.zero, i.size, i.bytes))) = tInfs.map (fun p => some (some p.2.1, p.2.2.1, p.2.2.2)) := by kernel_rfl
theorem tInfs_ok : ∀ p ∈ tInfs, (Tryd.prog.info? p.1).map (fun i => (i.zero, i.size, i.bytes)) = some (some p.2.1, p.2.2.1, p.2.2.2) :=
  List.map_inj_left.1 tInfs_eq
def Tb : Tab Tryd.prog := ⟨tAggs, tAggs_ok, tSles, tSles_ok, tStrs, tStrs_ok, tFlds, tFlds_ok, tInfs, tInfs_ok⟩

set_option maxRecDepth 100000 in
theorem hb3 : hasBody Tryd.prog 3 := ⟨_, Tryd.func3, rfl, by decide⟩
set_option maxRecDepth 100000 in
theorem hb4 : hasBody Tryd.prog 4 := ⟨_, Tryd.func4, rfl, by decide⟩
set_option maxRecDepth 100000 in
theorem hb5 : hasBody Tryd.prog 5 := ⟨_, Tryd.func5, rfl, by decide⟩
set_option maxRecDepth 100000 in
theorem hb6 : hasBody Tryd.prog 6 := ⟨_, Tryd.func6, rfl, by decide⟩
set_option maxRecDepth 100000 in
theorem hb7 : hasBody Tryd.prog 7 := ⟨_, Tryd.func7, rfl, by decide⟩
set_option maxRecDepth 100000 in
theorem hb8 : hasBody Tryd.prog 8 := ⟨_, Tryd.func8, rfl, by decide⟩
set_option maxRecDepth 100000 in
theorem hb9 : hasBody Tryd.prog 9 := ⟨_, Tryd.func9, rfl, by decide⟩
set_option maxRecDepth 100000 in
theorem hb10 : hasBody Tryd.prog 10 := ⟨_, Tryd.func10, rfl, by decide⟩
set_option maxRecDepth 100000 in
theorem hb11 : hasBody Tryd.prog 11 := ⟨_, Tryd.func11, rfl, by decide⟩
set_option maxRecDepth 100000 in
theorem hb12 : hasBody Tryd.prog 12 := ⟨_, Tryd.func12, rfl, by decide⟩
set_option maxRecDepth 100000 in
theorem hb13 : hasBody Tryd.prog 13 := ⟨_, Tryd.func13, rfl, by decide⟩
set_option maxRecDepth 100000 in
theorem hb14 : hasBody Tryd.prog 14 := ⟨_, Tryd.func14, rfl, by decide⟩
set_option maxRecDepth 100000 in
theorem hb15 : hasBody Tryd.prog 15 := ⟨_, Tryd.func15, rfl, by decide⟩
set_option maxRecDepth 100000 in
theorem hb16 : hasBody Tryd.prog 16 := ⟨_, Tryd.func16, rfl, by decide⟩
set_option maxRecDepth 100000 in
theorem hb17 : hasBody Tryd.prog 17 := ⟨_, Tryd.func17, rfl, by decide⟩
set_option maxRecDepth 100000 in
theorem hb18 : hasBody Tryd.prog 18 := ⟨_, Tryd.func18, rfl, by decide⟩
set_option maxRecDepth 100000 in
theorem hb19 : hasBody Tryd.prog 19 := ⟨_, Tryd.func19, rfl, by decide⟩
set_option maxRecDepth 100000 in
theorem hb20 : hasBody Tryd.prog 20 := ⟨_, Tryd.func20, rfl, by decide⟩
set_option maxRecDepth 100000 in
theorem hb21 : hasBody Tryd.prog 21 := ⟨_, Tryd.func21, rfl, by decide⟩
set_option maxRecDepth 100000 in
theorem hb22 : hasBody Tryd.prog 22 := ⟨_, Tryd.func22, rfl, by decide⟩
set_option maxRecDepth 100000 in
theorem hb23 : hasBody Tryd.prog 23 := ⟨_, Tryd.func23, rfl, by decide⟩
set_option maxRecDepth 100000 in
theorem hb24 : hasBody Tryd.prog 24 := ⟨_, Tryd.func24, rfl, by decide⟩
set_option maxRecDepth 100000 in
theorem hb25 : hasBody Tryd.prog 25 := ⟨_, Tryd.func25, rfl, by decide⟩
set_option maxRecDepth 100000 in
theorem hb26 : hasBody Tryd.prog 26 := ⟨_, Tryd.func26, rfl, by decide⟩
set_option maxRecDepth 100000 in
theorem hb27 : hasBody Tryd.prog 27 := ⟨_, Tryd.func27, rfl, by decide⟩
set_option maxRecDepth 100000 in
theorem hb28 : hasBody Tryd.prog 28 := ⟨_, Tryd.func28, rfl, by decide⟩
set_option maxRecDepth 100000 in
theorem hb29 : hasBody Tryd.prog 29 := ⟨_, Tryd.func29, rfl, by decide⟩
set_option maxRecDepth 100000 in
theorem hb30 : hasBody Tryd.prog 30 := ⟨_, Tryd.func30, rfl, by decide⟩
set_option maxRecDepth 100000 in
theorem hb31 : hasBody Tryd.prog 31 := ⟨_, Tryd.func31, rfl, by decide⟩
set_option maxRecDepth 100000 in
theorem hb32 : hasBody Tryd.prog 32 := ⟨_, Tryd.func32, rfl, by decide⟩
set_option maxRecDepth 100000 in
theorem hb33 : hasBody Tryd.prog 33 := ⟨_, Tryd.func33, rfl, by decide⟩
set_option maxRecDepth 100000 in
theorem hb34 : hasBody Tryd.prog 34 := ⟨_, Tryd.func34, rfl, by decide⟩
set_option maxRecDepth 100000 in
theorem hb35 : hasBody Tryd.prog 35 := ⟨_, Tryd.func35, rfl, by decide⟩
set_option maxRecDepth 100000 in
theorem hb36 : hasBody Tryd.prog 36 := ⟨_, Tryd.func36, rfl, by decide⟩
set_option maxRecDepth 100000 in
theorem hb37 : hasBody Tryd.prog 37 := ⟨_, Tryd.func37, rfl, by decide⟩
set_option maxRecDepth 100000 in
theorem hb38 : hasBody Tryd.prog 38 := ⟨_, Tryd.func38, rfl, by decide⟩
set_option maxRecDepth 100000 in
theorem hb39 : hasBody Tryd.prog 39 := ⟨_, Tryd.func39, rfl, by decide⟩
set_option maxRecDepth 100000 in
theorem hb40 : hasBody Tryd.prog 40 := ⟨_, Tryd.func40, rfl, by decide⟩
set_option maxRecDepth 100000 in
theorem hb41 : hasBody Tryd.prog 41 := ⟨_, Tryd.func41, rfl, by decide⟩
set_option maxRecDepth 100000 in
theorem hb42 : hasBody Tryd.prog 42 := ⟨_, Tryd.func42, rfl, by decide⟩
set_option maxRecDepth 100000 in
theorem hb43 : hasBody Tryd.prog 43 := ⟨_, Tryd.func43, rfl, by decide⟩
set_option maxRecDepth 100000 in
theorem hb44 : hasBody Tryd.prog 44 := ⟨_, Tryd.func44, rfl, by decide⟩
set_option maxRecDepth 100000 in
theorem hb45 : hasBody Tryd.prog 45 := ⟨_, Tryd.func45, rfl, by decide⟩
set_option maxRecDepth 100000 in
theorem hb46 : hasBody Tryd.prog 46 := ⟨_, Tryd.func46, rfl, by decide⟩
set_option maxRecDepth 100000 in
theorem hb47 : hasBody Tryd.prog 47 := ⟨_, Tryd.func47, rfl, by decide⟩
set_option maxRecDepth 100000 in
theorem hb48 : hasBody Tryd.prog 48 := ⟨_, Tryd.func48, rfl, by decide⟩
set_option maxRecDepth 100000 in
theorem hb49 : hasBody Tryd.prog 49 := ⟨_, Tryd.func49, rfl, by decide⟩
set_option maxRecDepth 100000 in
theorem hb50 : hasBody Tryd.prog 50 := ⟨_, Tryd.func50, rfl, by decide⟩
set_option maxRecDepth 100000 in
theorem hb51 : hasBody Tryd.prog 51 := ⟨_, Tryd.func51, rfl, by decide⟩
set_option maxRecDepth 100000 in
theorem hb53 : hasBody Tryd.prog 53 := ⟨_, Tryd.func53, rfl, by decide⟩
set_option maxRecDepth 100000 in
theorem hb54 : hasBody Tryd.prog 54 := ⟨_, Tryd.func54, rfl, by decide⟩
set_option maxRecDepth 100000 in
theorem hb55 : hasBody Tryd.prog 55 := ⟨_, Tryd.func55, rfl, by decide⟩
set_option maxRecDepth 100000 in
theorem hb57 : hasBody Tryd.prog 57 := ⟨_, Tryd.func57, rfl, by decide⟩
set_option maxRecDepth 100000 in
theorem hb58 : hasBody Tryd.prog 58 := ⟨_, Tryd.func58, rfl, by decide⟩
set_option maxRecDepth 100000 in
theorem hb59 : hasBody Tryd.prog 59 := ⟨_, Tryd.func59, rfl, by decide⟩
set_option maxRecDepth 100000 in
theorem hb60 : hasBody Tryd.prog 60 := ⟨_, Tryd.func60, rfl, by decide⟩
set_option maxRecDepth 100000 in
theorem hb61 : hasBody Tryd.prog 61 := ⟨_, Tryd.func61, rfl, by decide⟩
set_option maxRecDepth 100000 in
theorem hb62 : hasBody Tryd.prog 62 := ⟨_, Tryd.func62, rfl, by decide⟩
set_option maxRecDepth 100000 in
theorem hb63 : hasBody Tryd.prog 63 := ⟨_, Tryd.func63, rfl, by decide⟩
set_option maxRecDepth 100000 in
theorem hb67 : hasBody Tryd.prog 67 := ⟨_, Tryd.func67, rfl, by decide⟩
set_option maxRecDepth 100000 in
theorem hb68 : hasBody Tryd.prog 68 := ⟨_, Tryd.func68, rfl, by decide⟩
set_option maxRecDepth 100000 in
theorem hb69 : hasBody Tryd.prog 69 := ⟨_, Tryd.func69, rfl, by decide⟩
set_option maxRecDepth 100000 in
theorem hb70 : hasBody Tryd.prog 70 := ⟨_, Tryd.func70, rfl, by decide⟩

end Go.Proofs.YtibjdlpfejdedaaDoor
