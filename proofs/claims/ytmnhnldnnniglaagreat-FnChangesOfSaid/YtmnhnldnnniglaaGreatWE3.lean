/- Mirrors and contracts, printed by a program: what each function computes as a plain term, and that it does. -/
import Derived.Test.YtmnhnldnnniglaaGreatR
import Derived.Test.YtmnhnldnnniglaaGreatK
import Derived.Test.YtmnhnldnnniglaaGreatWE0
import Derived.Test.YtmnhnldnnniglaaGreatWE1
import Derived.Test.YtmnhnldnnniglaaGreatWE2
set_option linter.all false
set_option maxRecDepth 100000
namespace Go.Proofs.YtmnhnldnnniglaaGreat
open Go.RowKit

def m_impl_Flow_drop_L9 (N : Nat) (u1 : Str) (y19 : Step) (x29 : List Step) : Nat → (List Step) → Nat → Option (Ex (List Step × Nat) (List Step))
  | 0, _, _ => none
  | n + 1, s0_c_1, s37 => (bif ltb ((s37 : Nat) : Int) ((x29.length : Nat) : Int) then (s0_c_1[s37]?).bind fun y40 => (m_slices_Contains_string N y40.after u1).bind fun x45 => (bif !x45 then m_impl_Flow_drop_L9 N u1 y19 x29 n s0_c_1 (s37 + 1)
 else ((m_impl_cloneNames N y40.after).bind fun x49 => (m_slices_DeleteFunc_string N x49 (fun x0 => m_impl_Flow_drop_f1 N x0 u1)).bind fun x51 => (appd x51 y19.after).bind fun l54 => some (x51 ++ y19.after) : Option ((List Str))).bind fun j116 => (m_slices_Sort_string N j116).bind fun x56 => (m_slices_Compact_string N x56.2).bind fun x63 => m_impl_Flow_drop_L9 N u1 y19 x29 n (s0_c_1.set s37 (Step.mk y40.name x63 y40.undo)) (s37 + 1))
 else some (Ex.brk (s0_c_1, s37)))

def m_impl_Flow_drop (N : Nat) (u0 : Flow) (u1 : Str) : Option (List Step) := ((m_impl_Flow_at N u0 u1).bind fun x13 => some x13 : Option (Int)).bind fun j102 => (geti u0.steps j102).bind fun y19 => (m_slices_Delete_Step N u0.steps j102 (w64 (j102 + 1))).bind fun x29 => (m_impl_Flow_drop_L9 N u1 y19 x29 N x29 0).bind fun e9 => e9.go (fun r => r) fun b9 => some b9.1

set_option maxHeartbeats 4000000 in
theorem c_impl_Flow_drop (N : Nat) (u0 : Flow) (u1 : Str) (res : List Step) (h : m_impl_Flow_drop N u0 u1 = some res) (w : World) {a_u0 : Option Addr} {c_u0 g_u0 : Nat} {F_u0 : List Nat} (hr : (blkC g_u0 25 [.int .i64 u0.ver, .slice a_u0 u0.steps.length c_u0]).A w) (hr2 : (owC stepsL F_u0 [.slice a_u0 u0.steps.length c_u0] u0.steps).A w) (hnd : (g_u0 :: F_u0).Nodup) : Ret Tryz.prog 75 [.pointer (some ⟨g_u0, 0, none⟩), .string u1] w (g_u0 :: F_u0) fun v w' => ∃ a1 c1 F1, v = .tuple #[] ∧ NewM w w' (g_u0 :: F_u0) [blkC g_u0 25 [.int .i64 u0.ver, .slice a1 res.length c1], owC stepsL F1 [.slice a1 res.length c1] res] := by
  unfold m_impl_Flow_drop at h
  refine ret_enter Tryz.func75 rfl Tryz.ntmps75 rfl (hp_pair hr hr2 hnd) ?_
  refine cw_seq ?_
  refine cw_region ?_
  refine wl_u rfl (ow_box1 rfl rfl rfl rfl rfl (fun g3 => kk_wl ?_))
  refine wl_nil ?_
  refine ex_seq ?_
  obtain ⟨j102, he102, hk102⟩ := bd h
  clear h
  refine cw_cut (σ := Unit) (fun s => True) (fun s => [(0, .pointer (some ⟨g_u0, 0, none⟩)), (3, .pointer (some ⟨g3, 0, none⟩)), (4, .int .i64 j102)]) (fun s => [blkC g_u0 25 [.int .i64 u0.ver, .slice a_u0 u0.steps.length c_u0], owC stepsL F_u0 [.slice a_u0 u0.steps.length c_u0] u0.steps, blkC g3 9 [.string u1]]) (fun s hI => ?_) (fun KL hn102 => ?_)
  · skip
    have h := hk102
    refine cw_seq ?_
    refine cw_region ?_
    refine wl_u rfl (ow_y (yh_move rfl rfl) rfl rfl (kk_wl ?_))
    refine wl_u rfl (ow_y (yh_nilCheck rfl rfl) rfl rfl (kk_wl ?_))
    refine wl_u rfl (ow_y (yh_field Tb rfl rfl rfl) rfl rfl (kk_wl ?_))
    refine wl_u rfl (ow_y (yh_loadB Tb (k := 0) rfl rfl rfl rfl rfl) rfl rfl (kk_wl ?_))
    refine wl_u rfl (ow_y (yh_move rfl rfl) rfl rfl (kk_wl ?_))
    obtain ⟨y19, zy19, h⟩ := bd h
    obtain ⟨iy19, hy19⟩ := geti_some zy19
    refine wl_ex (fun g => a_u0 = some ⟨g, 0, none⟩) (fun w hw => by exact own_addrK 1 rfl hy19 hw) (fun g19 hg19 => ?_)
    subst hg19
    refine wl_u rfl (ow_y (yh_idx Tb (k := j102.toNat) rfl rfl rfl iy19 (get_lt hy19) rfl rfl) rfl rfl (kk_wl ?_))
    refine wl_u rfl (ow_loadK Tb 1 rfl rfl rfl rfl rfl hy19 rfl rfl (fun a20 c20 => kk_wl ?_))
    refine wl_u rfl (ow_allocA Tb rfl rfl rfl rfl (fun g5 => kk_wl ?_))
    refine wl_u rfl (ow_storeA Tb (k := 0) rfl rfl rfl rfl rfl rfl rfl rfl rfl (kk_wl ?_))
    refine wl_nil ?_
    refine ex_seq ?_
    refine cw_seq ?_
    refine cw_region ?_
    refine wl_u rfl (ow_y (yh_move rfl rfl) rfl rfl (kk_wl ?_))
    refine wl_u rfl (ow_y (yh_move rfl rfl) rfl rfl (kk_wl ?_))
    refine wl_u rfl (ow_y (yh_nilCheck rfl rfl) rfl rfl (kk_wl ?_))
    refine wl_u rfl (ow_y (yh_field Tb rfl rfl rfl) rfl rfl (kk_wl ?_))
    refine wl_u rfl (ow_y (yh_loadB Tb (k := 2) rfl rfl rfl rfl rfl) rfl rfl (kk_wl ?_))
    refine wl_u rfl (ow_y (yh_move rfl rfl) rfl rfl (kk_wl ?_))
    refine wl_u rfl (ow_y (yh_move rfl rfl) rfl rfl (kk_wl ?_))
    refine wl_u rfl (ow_y (yh_arW rfl rfl rfl rfl) rfl rfl (kk_wl ?_))
    obtain ⟨x29, hx29, h⟩ := bd h
    refine wl_u rfl (ow_cM2 1 rfl hb107 rfl rfl (fun w hw => c_slices_Delete_know N _ _ _ _ hx29 w (hw.at (i := 1) rfl) (hw.ndAt (i := 1) rfl) hy19 iy19 rfl rfl) rfl rfl (fun a29 c29 F29 a29_2 c29_2 F29_2 => kk_wl ?_))
    refine wl_u rfl (ow_y (yh_nilCheck rfl rfl) rfl rfl (kk_wl ?_))
    refine wl_u rfl (ow_y (yh_field Tb rfl rfl rfl) rfl rfl (kk_wl ?_))
    refine wl_u rfl (ow_store1 Tb (k := 3) rfl rfl rfl rfl rfl rfl rfl rfl rfl (kk_wl ?_))
    refine wl_nil ?_
    refine ex_seq ?_
    refine cw_seq ?_
    refine cw_region ?_
    refine wl_u rfl (ow_y (yh_move rfl rfl) rfl rfl (kk_wl ?_))
    refine wl_u rfl (ow_y (yh_nilCheck rfl rfl) rfl rfl (kk_wl ?_))
    refine wl_u rfl (ow_y (yh_field Tb rfl rfl rfl) rfl rfl (kk_wl ?_))
    refine wl_u rfl (ow_y (yh_loadB Tb (k := 0) rfl rfl rfl rfl rfl) rfl rfl (kk_wl ?_))
    refine wl_know (x29.length ≤ 9223372036854775807) (fun w hw => own_max 1 rfl hw) (fun mo36 => ?_)
    refine wl_u rfl (ow_y (yh_lenS Tb rfl rfl rfl rfl) rfl rfl (kk_wl ?_))
    refine wl_u rfl (ow_y (yh_move rfl rfl) rfl rfl (kk_wl ?_))
    refine wl_nil ?_
    refine ex_seq ?_
    refine cw_block ?_
    obtain ⟨e9, he9, hk9⟩ := bd h
    clear h
    refine cw_loopG (σ := Nat × (List Step) × Nat × (List Nat)) (fun s => m_impl_Flow_drop_L9 N u1 y19 x29 s.1 s.2.1 s.2.2.1 = some e9) (fun s => [(0, .pointer (some ⟨g_u0, 0, none⟩)), (3, .pointer (some ⟨g3, 0, none⟩)), (5, .pointer (some ⟨g5, 0, none⟩)), (35, .slice a29 x29.length c29), (36, .int .i64 ((x29.length : Nat) : Int)), (37, .int .i64 ((s.2.2.1 : Nat) : Int))]) (fun s => [blkC g_u0 25 [.int .i64 u0.ver, .slice a29 x29.length c29], owC stepsL s.2.2.2 [.slice a29 x29.length c29] s.2.1, blkC g3 9 [.string u1], blkC g5 49 [.string y19.name, .slice a20 y19.after.length c20, .bool y19.undo], owC strsL F29_2 [.slice a20 y19.after.length c20] y19.after]) (fun s => s.1) (N, x29, 0, F29) [0, 1, 4, 3, 2] he9 ⟨rfl, rfl, rfl, rfl, rfl, rfl, trivial⟩ rfl (fun KL s he9 hn9 => ?_)
    obtain ⟨n9, s0_c_1, s37, Fs0_c_1⟩ := s
    simp only at he9 hn9 ⊢
    rcases n9 with _ | n9
    · exact nosome he9
    have h := he9; rw [m_impl_Flow_drop_L9] at h
    refine cw_seq ?_
    refine cw_region ?_
    refine wl_u rfl (ow_y (yh_cmpI rfl rfl rfl rfl) rfl rfl (kk_wl ?_))
    refine wl_nil ?_
    refine ex_seq ?_
    refine cw_seq ?_
    refine cw_split rfl (fun c1 => ?_) (fun c1 => ?_)
    · skip
      replace h := bt c1 h
      have q1 := ltb_true.1 c1
      refine cw_skip ?_
      refine ex_seq ?_
      refine cw_seq ?_
      refine cw_block ?_
      refine cw_seq ?_
      refine cw_region ?_
      refine wl_u rfl (ow_y (yh_move rfl rfl) rfl rfl (kk_wl ?_))
      obtain ⟨y40, hy40, h⟩ := bd h
      refine wl_ex (fun g => a29 = some ⟨g, 0, none⟩) (fun w hw => by exact own_addrK 1 rfl hy40 hw) (fun g40 hg40 => ?_)
      subst hg40
      refine wl_know (x29.length = s0_c_1.length) (fun w hw => own_lenK 1 rfl hw) (fun hn40 => ?_)
      refine wl_u rfl (ow_y (yh_idx Tb (k := s37) rfl rfl rfl rfl (Nat.lt_of_lt_of_eq (get_lt hy40) hn40.symm) rfl rfl) rfl rfl (kk_wl ?_))
      refine wl_u rfl (ow_loadK Tb 1 rfl rfl rfl rfl rfl hy40 rfl rfl (fun a41 c41 => kk_wl ?_))
      refine wl_u rfl (ow_allocA Tb rfl rfl rfl rfl (fun g7 => kk_wl ?_))
      refine wl_u rfl (ow_y (yh_assign rfl rfl) rfl rfl (kk_wl ?_))
      refine wl_u rfl (ow_storeA Tb (k := 0) rfl rfl rfl rfl rfl rfl rfl rfl rfl (kk_wl ?_))
      refine wl_nil ?_
      refine ex_seq ?_
      refine cw_seq ?_
      refine cw_seq ?_
      refine cw_region ?_
      refine wl_u rfl (ow_y (yh_field Tb rfl rfl rfl) rfl rfl (kk_wl ?_))
      refine wl_u rfl (ow_y (yh_loadB Tb (k := 0) rfl rfl rfl rfl rfl) rfl rfl (kk_wl ?_))
      refine wl_u rfl (ow_y (yh_loadB Tb (k := 3) rfl rfl rfl rfl rfl) rfl rfl (kk_wl ?_))
      obtain ⟨x45, hx45, h⟩ := bd h
      refine wl_u rfl (ow_cV rfl hb98 rfl (fun w hw => c_slices_Contains_string N _ _ _ hx45 w (rdk 1 rfl hy40 hw)) rfl rfl (kk_wl ?_))
      refine wl_u rfl (ow_y (yh_not rfl rfl) rfl rfl (kk_wl ?_))
      refine wl_nil ?_
      refine ex_seq ?_
      refine cw_split rfl (fun c2 => ?_) (fun c2 => ?_)
      · skip
        replace h := bt c2 h
        refine cw_exit ?_
        refine ex_then_exit ?_
        refine ex_block_exit ?_
        refine ex_seq ?_
        refine cw_region ?_
        refine wl_u rfl (ow_y (yh_arI rfl rfl rfl rfl (by omega)) rfl rfl (kk_wl ?_))
        refine wl_u rfl (ow_y (yh_move rfl rfl) rfl rfl (kk_wl ?_))
        refine wl_nil ?_
        refine ex_chg 1 (c' := owC stepsL Fs0_c_1 [.slice (some ⟨g40, 0, none⟩) x29.length c29] s0_c_1) rfl (fun w hA => hA.1) rfl ?_
        exact ex_next [2, 0, 3, 4, 5] (hn9 (n9, s0_c_1, s37 + 1, Fs0_c_1) (Nat.lt_succ_self _) h) ⟨rfl, rfl, rfl, rfl, rfl, rfl, trivial⟩ (by kernel_rfl)
      · skip
        replace h := bf c2 h
        refine cw_skip ?_
        refine ex_seq ?_
        obtain ⟨j116, he116, hk116⟩ := bd h
        clear h
        refine cw_cut (σ := (Option Addr) × Nat × (List Nat)) (fun s => True) (fun s => [(0, .pointer (some ⟨g_u0, 0, none⟩)), (3, .pointer (some ⟨g3, 0, none⟩)), (5, .pointer (some ⟨g5, 0, none⟩)), (6, .int .i64 ((s37 : Nat) : Int)), (8, .slice s.1 j116.length s.2.1), (35, .slice (some ⟨g40, 0, none⟩) x29.length c29), (36, .int .i64 ((x29.length : Nat) : Int)), (37, .int .i64 ((s37 : Nat) : Int))]) (fun s => [blkC g_u0 25 [.int .i64 u0.ver, .slice (some ⟨g40, 0, none⟩) x29.length c29], knowC Fs0_c_1 g40 x29.length c29 s0_c_1 s37 (.slice a41 y40.after.length c41), blkC g3 9 [.string u1], blkC g5 49 [.string y19.name, .slice a20 y19.after.length c20, .bool y19.undo], owC strsL F29_2 [.slice a20 y19.after.length c20] y19.after, owC strsL s.2.2 [.slice s.1 j116.length s.2.1] j116]) (fun s hI => ?_) (fun KL hn116 => ?_)
        · skip
          obtain ⟨ak116_8, ck116_8, Fk116_8⟩ := s
          simp only at ⊢
          have h := hk116
          refine cw_seq ?_
          refine cw_region ?_
          refine wl_u rfl (ow_y (yh_move rfl rfl) rfl rfl (kk_wl ?_))
          obtain ⟨x56, hx56, h⟩ := bd h
          refine wl_u rfl (ow_cF1 5 rfl hb110 rfl rfl (fun w hw => c_slices_Sort_string N _ _ hx56 w (hw.at (i := 5) rfl) (hw.ndAt (i := 5) rfl)) rfl rfl (fun F56 => kk_wl ?_))
          refine wl_nil ?_
          refine ex_seq ?_
          refine cw_chg 2 (k' := owC stepsL Fs0_c_1 [.slice (some ⟨g40, 0, none⟩) x29.length c29] s0_c_1) rfl (fun w hA => hA.1) rfl ?_
          refine cw_dr [0, 1, 2, 3, 4, 5, 7, 8] [9] [owC stepsL Fs0_c_1 [.slice (some ⟨g40, 0, none⟩) x29.length c29] s0_c_1, blkC g_u0 25 [.int .i64 u0.ver, .slice (some ⟨g40, 0, none⟩) x29.length c29], blkC g3 9 [.string u1], blkC g5 49 [.string y19.name, .slice a20 y19.after.length c20, .bool y19.undo], owC strsL F29_2 [.slice a20 y19.after.length c20] y19.after] (by kernel_rfl) ?_
          refine wd_take (i := 0) [0, 2, 3, 4, 5] rfl rfl rfl rfl rfl (by kernel_rfl) (by kernel_rfl) (fun _ _ _ _ h => h) (yh_move rfl rfl) ?_
          refine wd_take (i := 1) [0, 2, 3, 4, 5] rfl rfl rfl rfl rfl (by kernel_rfl) (by kernel_rfl) (fun _ _ _ _ h => h) (yh_nilCheck rfl rfl) ?_
          refine wd_take (i := 2) [0, 2, 3, 4, 5] rfl rfl rfl rfl rfl (by kernel_rfl) (by kernel_rfl) (fun _ _ _ _ h => h) (yh_field Tb rfl rfl rfl) ?_
          refine wd_take (i := 3) [0, 2, 3, 4, 5] rfl rfl rfl rfl rfl (by kernel_rfl) (by kernel_rfl) (fun _ _ _ _ h => h) (yh_loadB Tb (k := 1) rfl rfl rfl rfl rfl) ?_
          refine wd_take (i := 4) [0, 2, 3, 4, 5] rfl rfl rfl rfl rfl (by kernel_rfl) (by kernel_rfl) (fun _ _ _ _ h => h) (yh_move rfl rfl) ?_
          refine wd_take (i := 5) [0, 2, 3, 4, 5] rfl rfl rfl rfl rfl (by kernel_rfl) (by kernel_rfl) (fun _ _ _ _ h => h) (yh_move rfl rfl) ?_
          refine wd_know (j116.length = x56.2.length) (fun w hw => own_lenK 1 rfl hw) (fun hr11_ => ?_)
          rw [hr11_]
          obtain ⟨x63, hx63, h⟩ := bd h
          refine wd_one 6 rfl rfl (by kernel_rfl) (ow_cM1 1 rfl hb111 rfl rfl (fun w hw => c_slices_Compact_string N _ _ hx63 w (hw.at (i := 1) rfl) (hw.ndAt (i := 1) rfl)) rfl rfl (fun a63 c63 F63 => kk_wd [1, 2, 3, 4, 5] (by kernel_rfl) ?_))
          refine wd_know (x29.length = s0_c_1.length) (fun w hw => own_lenK 1 rfl hw) (fun hn64 => ?_)
          refine wd_take (i := 7) [1, 2, 3, 4, 5] rfl rfl rfl rfl rfl (by kernel_rfl) (by kernel_rfl) (fun _ _ _ _ h => h) (yh_idx Tb (k := s37) rfl rfl rfl rfl (Nat.lt_of_lt_of_eq (get_lt hy40) hn64.symm) rfl rfl) ?_
          refine wd_take (i := 8) [1, 2, 3, 4, 5] rfl rfl rfl rfl rfl (by kernel_rfl) (by kernel_rfl) (fun _ _ _ _ h => h) (yh_field Tb rfl rfl rfl) ?_
          refine wd_one 9 rfl rfl (by kernel_rfl) (ow_setFS Tb 1 0 1 (Step.mk y40.name x63 y40.undo) (fun w F cs h hG => by obtain ⟨a, c, rfl, h2⟩ := stepL_ow h; exact stepL_mk (Step.mk y40.name x63 y40.undo) hG) rfl rfl rfl rfl rfl rfl rfl rfl hy40 rfl (fun Fs77 => kk_wdT rfl ?_))
          refine wd_done (by kernel_rfl) ?_
          refine ex_block_normal ?_
          refine ex_seq ?_
          refine cw_region ?_
          refine wl_u rfl (ow_y (yh_arI rfl rfl rfl rfl (by omega)) rfl rfl (kk_wl ?_))
          refine wl_u rfl (ow_y (yh_move rfl rfl) rfl rfl (kk_wl ?_))
          refine wl_nil ?_
          exact ex_next [1, 0, 2, 3, 4] (hn9 (n9, (s0_c_1.set s37 (Step.mk y40.name x63 y40.undo)), s37 + 1, Fs77) (Nat.lt_succ_self _) h) ⟨rfl, rfl, rfl, rfl, rfl, rfl, trivial⟩ (by kernel_rfl)
        · skip
          have h := he116
          refine cw_dr [0, 1, 3, 5, 6] [7, 8] [blkC g7 49 [.string y40.name, .slice a41 y40.after.length c41, .bool y40.undo], knowC Fs0_c_1 g40 x29.length c29 s0_c_1 s37 (.slice a41 y40.after.length c41), blkC g_u0 25 [.int .i64 u0.ver, .slice (some ⟨g40, 0, none⟩) x29.length c29], blkC g3 9 [.string u1], blkC g5 49 [.string y19.name, .slice a20 y19.after.length c20, .bool y19.undo], owC strsL F29_2 [.slice a20 y19.after.length c20] y19.after] (by kernel_rfl) ?_
          refine wd_take (i := 0) [0, 1, 2, 3, 4, 5] rfl rfl rfl rfl rfl (by kernel_rfl) (by kernel_rfl) (fun _ _ _ _ h => h) (yh_field Tb rfl rfl rfl) ?_
          refine wd_take (i := 1) [0, 1, 2, 3, 4, 5] rfl rfl rfl rfl rfl (by kernel_rfl) (by kernel_rfl) (fun _ _ _ _ h => h) (yh_loadB Tb (k := 0) rfl rfl rfl rfl rfl) ?_
          refine wd_take (i := 3) [0, 1, 2, 3, 4, 5] rfl rfl rfl rfl rfl (by kernel_rfl) (by kernel_rfl) (fun _ _ _ _ h => h) (yh_mkfn rfl rfl) ?_
          refine wd_take (i := 5) [0, 1, 2, 3, 4, 5] rfl rfl rfl rfl rfl (by kernel_rfl) (by kernel_rfl) (fun _ _ _ _ h => h) (yh_field Tb rfl rfl rfl) ?_
          refine wd_take (i := 6) [0, 1, 2, 3, 4, 5] rfl rfl rfl rfl rfl (by kernel_rfl) (by kernel_rfl) (fun _ _ _ _ h => h) (yh_loadB Tb (k := 4) rfl rfl rfl rfl rfl) ?_
          obtain ⟨x49, hx49, h⟩ := bd h
          refine wd_one 2 rfl rfl (by kernel_rfl) (ow_cN1 rfl hb76 rfl (fun w hw => c_impl_cloneNames N _ _ hx49 w (rdk 1 rfl hy40 hw)) rfl rfl (fun a49 c49 F49 => kk_wd [1, 2, 3, 4, 5, 6] (by kernel_rfl) ?_))
          obtain ⟨x51, hx51, h⟩ := bd h
          refine wd_one 4 rfl rfl (by kernel_rfl) (ow_cM1 0 rfl hb108 rfl rfl (fun w hw => c_slices_DeleteFunc_string N _ _ _ hx51 w (hw.at (i := 0) rfl) (hw.ndAt (i := 0) rfl) hb109 (fun x0 b hb w' hE => c_impl_Flow_drop_f1 N x0 u1 b hb w' (cell_blk ((hw.stepX 0 rfl hE).at (i := 3) rfl)))) rfl rfl (fun a51 c51 F51 => kk_wd [1, 2, 3, 4, 5, 6] (by kernel_rfl) ?_))
          obtain ⟨hll54, h⟩ := bd_appd h
          refine wd_one 7 rfl rfl (by kernel_rfl) (ow_appP Tb (i := 0) rfl rfl rfl rfl rfl (fun w hw => rdo (A := strsL) 6 rfl hw) rfl rfl rfl rfl hll54 (by decide) rfl rfl (fun a54 c54 F54 => kk_wdT rfl ?_))
          refine wd_one 8 rfl rfl (by kernel_rfl) (ow_y (yh_assign rfl rfl) rfl rfl (kk_wdT rfl ?_))
          refine wd_done (by kernel_rfl) ?_
          obtain rfl := Option.some.inj h
          exact ex_next [3, 2, 4, 5, 6, 0] (hn116 (a54, c54, F54) trivial) ⟨rfl, rfl, rfl, rfl, rfl, rfl, rfl, rfl, trivial⟩ (by kernel_rfl)
    · skip
      replace h := bf c1 h
      have q2 := ltb_false.1 c1
      refine cw_exit ?_
      refine ex_then_exit ?_
      refine ex_then_exit ?_
      obtain rfl := Option.some.inj h
      have h := go_brk hk9
      refine ex_block_exit ?_
      refine ex_know (x29.length = s0_c_1.length) (fun w hw => own_lenK 1 rfl hw) (fun hnz => ?_)
      obtain rfl := Option.some.inj h
      exact ex_n0 rfl (fun wq hq => ⟨_, rfl, hq.ext, ⟨a29, c29, Fs0_c_1, rfl, (by simp only [← hnz]; exact NewM.sel [0, 1] hq (by kernel_rfl))⟩⟩)
  · skip
    have h := he102
    refine cw_dr [0, 1, 2, 3, 5] [] [blkC g3 9 [.string u1], blkC g_u0 25 [.int .i64 u0.ver, .slice a_u0 u0.steps.length c_u0], owC stepsL F_u0 [.slice a_u0 u0.steps.length c_u0] u0.steps] (by kernel_rfl) ?_
    refine wd_take (i := 0) [0, 1, 2] rfl rfl rfl rfl rfl (by kernel_rfl) (by kernel_rfl) (fun _ _ _ _ h => h) (yh_move rfl rfl) ?_
    refine wd_take (i := 1) [0, 1, 2] rfl rfl rfl rfl rfl (by kernel_rfl) (by kernel_rfl) (fun _ _ _ _ h => h) (yh_nilCheck rfl rfl) ?_
    refine wd_take (i := 2) [0, 1, 2] rfl rfl rfl rfl rfl (by kernel_rfl) (by kernel_rfl) (fun _ _ _ _ h => h) (yh_loadBA Tb (k := 1) rfl rfl rfl rfl rfl rfl) ?_
    refine wd_take (i := 3) [0, 1, 2] rfl rfl rfl rfl rfl (by kernel_rfl) (by kernel_rfl) (fun _ _ _ _ h => h) (yh_loadB Tb (k := 0) rfl rfl rfl rfl rfl) ?_
    obtain ⟨x13, hx13, h⟩ := bd h
    refine wd_one 4 rfl rfl (by kernel_rfl) (ow_cV rfl hb36 rfl (fun w hw => c_impl_Flow_at N _ _ _ hx13 w (rdo (A := stepsL) 2 rfl hw)) rfl rfl (kk_wd [0, 1, 2] (by kernel_rfl) ?_))
    refine wd_take (i := 5) [0, 1, 2] rfl rfl rfl rfl rfl (by kernel_rfl) (by kernel_rfl) (fun _ _ _ _ h => h) (yh_assign rfl rfl) ?_
    refine wd_done (by kernel_rfl) ?_
    obtain rfl := Option.some.inj h
    exact ex_next [1, 2, 0] (hn102 () trivial) ⟨rfl, rfl, rfl, trivial⟩ (by kernel_rfl)

def m_impl_FlowChange (N : Nat) (u0 : Flow) (u1 : Change) : Option (Flow × Bool) := ((m_impl_FlowValid N u0).bind fun x9 => (bif !x9 then some (Ex.ret ((Flow.mk 0 []), false))
 else (m_impl_StepValid N u1.step).bind fun x14 => (bif !x14 then some (Ex.ret ((Flow.mk 0 []), false))
 else (bif ltb u1.kind 1 then some (Ex.ret ((Flow.mk 0 []), false))
 else (bif ltb 4 u1.kind then some (Ex.ret ((Flow.mk 0 []), false))
 else (m_impl_Flow_at N u0 u1.step.name).bind fun x32 => (bif (leb 0 x32) == (eqb u1.kind 1) then some (Ex.ret ((Flow.mk 0 []), false))
 else some (Ex.brk ())))))) : Option (Ex (Unit) (Flow × Bool))).bind fun e102 => e102.go (fun r => r) fun j102 => (m_impl_Flow_clone N u0).bind fun x41 => (m_impl_Flow_at N (Flow.mk (w64 (x41.ver + 1)) x41.steps) u1.step.name).bind fun x50 => ((bif eqb u1.kind 1 then (m_impl_Step_clone N u1.step).bind fun x59 => (appd x41.steps [x59]).bind fun l61 => (m_slices_SortFunc_Step N (x41.steps ++ [x59])).bind fun x65 => some x65.2
 else (bif eqb u1.kind 2 then (m_impl_Flow_drop N (Flow.mk (w64 (x41.ver + 1)) x41.steps) u1.step.name).bind fun xc1 => some xc1
 else (bif eqb u1.kind 3 then (m_impl_cloneNames N u1.step.after).bind fun x80 => (geti x41.steps x50).bind fun y81 => some (x41.steps.set x50.toNat (Step.mk y81.name x80 y81.undo))
 else (bif eqb u1.kind 4 then (geti x41.steps x50).bind fun y91 => some (x41.steps.set x50.toNat (Step.mk y91.name y91.after u1.step.undo))
 else some x41.steps)))) : Option ((List Step))).bind fun j113 => (m_impl_FlowValid N (Flow.mk (w64 (x41.ver + 1)) j113)).bind fun x94 => (bif !x94 then some ((Flow.mk 0 []), false)
 else (m_impl_Flow_clone N (Flow.mk (w64 (x41.ver + 1)) j113)).bind fun x98 => some (x98, true))

set_option maxHeartbeats 4000000 in
theorem c_impl_FlowChange (N : Nat) (u0 : Flow) (u1 : Change) (res : Flow × Bool) (h : m_impl_FlowChange N u0 u1 = some res) (w : World) {a_u0_steps a_u1_step_after : Option Addr} {c_u0_steps c_u1_step_after : Nat} (h_u0_steps : stepsL.rd w [] [.slice a_u0_steps u0.steps.length c_u0_steps] u0.steps) (h_u1_step_after : strsL.rd w [] [.slice a_u1_step_after u1.step.after.length c_u1_step_after] u1.step.after) : Ret Tryz.prog 27 [.agg #[.int .i64 u0.ver, .slice a_u0_steps u0.steps.length c_u0_steps], .agg #[.int .i64 u1.kind, .string u1.step.name, .slice a_u1_step_after u1.step.after.length c_u1_step_after, .bool u1.step.undo]] w [] fun v w' => ∃ a1 c1 F1, v = .tuple #[.agg #[.int .i64 res.1.ver, .slice a1 res.1.steps.length c1], .bool res.2] ∧ NewC w w' [owC stepsL F1 [.slice a1 res.1.steps.length c1] res.1.steps] := by
  have mh_u0_steps := rd_max h_u0_steps
  have mh_u1_step_after := rd_max h_u1_step_after
  unfold m_impl_FlowChange at h
  refine ret_enter Tryz.func27 rfl Tryz.ntmps27 rfl (Hp.refl w _) ?_
  refine cw_seq ?_
  refine cw_region ?_
  refine wl_u rfl (ow_boxA rfl rfl rfl rfl (fun g2 => kk_wl ?_))
  refine wl_u rfl (ow_boxA rfl rfl rfl rfl (fun g3 => kk_wl ?_))
  refine wl_u rfl (ow_allocA Tb rfl rfl rfl rfl (fun g4 => kk_wl ?_))
  refine wl_u rfl (ow_y (yh_assign rfl rfl) rfl rfl (kk_wl ?_))
  refine wl_nil ?_
  refine ex_seq ?_
  obtain ⟨e102, he102, hk102⟩ := bd h
  clear h
  refine cw_cut (σ := Unit × Unit) (fun s => e102 = Ex.brk s.1) (fun s => [(2, .pointer (some ⟨g2, 0, none⟩)), (3, .pointer (some ⟨g3, 0, none⟩)), (4, .pointer (some ⟨g4, 0, none⟩))]) (fun s => [blkC g2 25 [.int .i64 u0.ver, .slice a_u0_steps u0.steps.length c_u0_steps], blkC g3 51 [.int .i64 u1.kind, .string u1.step.name, .slice a_u1_step_after u1.step.after.length c_u1_step_after, .bool u1.step.undo], blkC g4 25 [.int .i64 0, .slice none 0 0]]) (fun s hI => ?_) (fun KL hn102 => ?_)
  · skip
    obtain ⟨j102, _⟩ := s
    simp only at hI ⊢
    subst hI
    have h := go_brk hk102
    refine cw_seq ?_
    refine cw_region ?_
    refine wl_u rfl (ow_y (yh_loadBA Tb (k := 0) rfl rfl rfl rfl rfl rfl) rfl rfl (kk_wl ?_))
    obtain ⟨x41, hx41, h⟩ := bd h
    refine wl_u rfl (ow_cN1 rfl hb48 rfl (fun w hw => c_impl_Flow_clone N _ _ hx41 w (Lay.at_ h_u0_steps hw)) rfl rfl (fun a41 c41 F41 => kk_wl ?_))
    refine wl_u rfl (ow_allocA Tb rfl rfl rfl rfl (fun g6 => kk_wl ?_))
    refine wl_u rfl (ow_storeA Tb (k := 0) rfl rfl rfl rfl rfl rfl rfl rfl rfl (kk_wl ?_))
    refine wl_nil ?_
    refine ex_seq ?_
    refine cw_seq ?_
    refine cw_region ?_
    refine wl_u rfl (ow_y (yh_field Tb rfl rfl rfl) rfl rfl (kk_wl ?_))
    refine wl_u rfl (ow_y (yh_loadB Tb (k := 0) rfl rfl rfl rfl rfl) rfl rfl (kk_wl ?_))
    refine wl_u rfl (ow_y (yh_arW rfl rfl rfl rfl) rfl rfl (kk_wl ?_))
    refine wl_u rfl (ow_y (yh_field Tb rfl rfl rfl) rfl rfl (kk_wl ?_))
    refine wl_u rfl (ow_store1 Tb (k := 0) rfl rfl rfl rfl rfl rfl rfl rfl rfl (kk_wl ?_))
    refine wl_nil ?_
    refine ex_seq ?_
    refine cw_seq ?_
    refine cw_region ?_
    refine wl_u rfl (ow_y (yh_loadBA Tb (k := 0) rfl rfl rfl rfl rfl rfl) rfl rfl (kk_wl ?_))
    refine wl_u rfl (ow_y (yh_field Tb rfl rfl rfl) rfl rfl (kk_wl ?_))
    refine wl_u rfl (ow_y (yh_field Tb rfl rfl rfl) rfl rfl (kk_wl ?_))
    refine wl_u rfl (ow_y (yh_loadB Tb (k := 3) rfl rfl rfl rfl rfl) rfl rfl (kk_wl ?_))
    obtain ⟨x50, hx50, h⟩ := bd h
    refine wl_u rfl (ow_cV rfl hb36 rfl (fun w hw => c_impl_Flow_at N _ _ _ hx50 w (rdo (A := stepsL) 1 rfl hw)) rfl rfl (kk_wl ?_))
    refine wl_u rfl (ow_y (yh_assign rfl rfl) rfl rfl (kk_wl ?_))
    refine wl_nil ?_
    refine ex_seq ?_
    obtain ⟨j113, he113, hk113⟩ := bd h
    clear h
    refine cw_cut (σ := (Option Addr) × Nat × (List Nat)) (fun s => True) (fun s => [(4, .pointer (some ⟨g4, 0, none⟩)), (6, .pointer (some ⟨g6, 0, none⟩))]) (fun s => [blkC g4 25 [.int .i64 0, .slice none 0 0], blkC g6 25 [.int .i64 (w64 (x41.ver + 1)), .slice s.1 j113.length s.2.1], owC stepsL s.2.2 [.slice s.1 j113.length s.2.1] j113]) (fun s hI => ?_) (fun KL hn113 => ?_)
    · skip
      obtain ⟨ak113_6_c_1, ck113_6_c_1, Fk113_6_c_1⟩ := s
      simp only at ⊢
      have h := hk113
      refine cw_seq ?_
      refine cw_seq ?_
      refine cw_region ?_
      refine wl_u rfl (ow_y (yh_loadBA Tb (k := 1) rfl rfl rfl rfl rfl rfl) rfl rfl (kk_wl ?_))
      obtain ⟨x94, hx94, h⟩ := bd h
      refine wl_u rfl (ow_cV rfl hb32 rfl (fun w hw => c_impl_FlowValid N _ _ hx94 w (rdo (A := stepsL) 2 rfl hw)) rfl rfl (kk_wl ?_))
      refine wl_u rfl (ow_y (yh_not rfl rfl) rfl rfl (kk_wl ?_))
      refine wl_nil ?_
      refine ex_seq ?_
      refine cw_split rfl (fun c1 => ?_) (fun c1 => ?_)
      · skip
        replace h := bt c1 h
        refine cw_seq ?_
        refine cw_region ?_
        refine wl_u rfl (ow_y (yh_build [.int .i64 0, .slice none 0 0] rfl rfl (by kernel_rfl)) rfl rfl (kk_wl ?_))
        refine wl_u rfl (ow_storeA Tb (k := 0) rfl rfl rfl rfl rfl rfl rfl rfl rfl (kk_wl ?_))
        refine wl_u rfl (ow_y (yh_assign rfl rfl) rfl rfl (kk_wl ?_))
        refine wl_nil ?_
        refine ex_seq ?_
        refine cw_ret ?_
        refine ex_then_ret ?_
        refine ex_nilS stepsL rfl ?_
        obtain rfl := Option.some.inj h
        exact ex_r2 Tb rfl (.cellA 1 rfl rfl rfl rfl rfl) (.tmp rfl) (fun wq hq => ⟨_, rfl, hq.ext, ⟨none, 0, [], rfl, NewC.sel [0] hq rfl⟩⟩)
      · skip
        replace h := bf c1 h
        refine cw_skip ?_
        refine ex_seq ?_
        refine cw_seq ?_
        refine cw_region ?_
        refine wl_u rfl (ow_y (yh_loadBA Tb (k := 1) rfl rfl rfl rfl rfl rfl) rfl rfl (kk_wl ?_))
        obtain ⟨x98, hx98, h⟩ := bd h
        refine wl_u rfl (ow_cN1 rfl hb48 rfl (fun w hw => c_impl_Flow_clone N _ _ hx98 w (rdo (A := stepsL) 2 rfl hw)) rfl rfl (fun a98 c98 F98 => kk_wl ?_))
        refine wl_u rfl (ow_storeA Tb (k := 1) rfl rfl rfl rfl rfl rfl rfl rfl rfl (kk_wl ?_))
        refine wl_u rfl (ow_y (yh_assign rfl rfl) rfl rfl (kk_wl ?_))
        refine wl_nil ?_
        refine ex_seq ?_
        refine cw_ret ?_
        obtain rfl := Option.some.inj h
        exact ex_r2 Tb rfl (.cellA 0 rfl rfl rfl rfl rfl) (.tmp rfl) (fun wq hq => ⟨_, rfl, hq.ext, ⟨a98, c98, F98, rfl, NewC.sel [1] hq rfl⟩⟩)
    · skip
      have h := he113
      refine cw_seq ?_
      refine cw_region ?_
      refine wl_u rfl (ow_y (yh_field Tb rfl rfl rfl) rfl rfl (kk_wl ?_))
      refine wl_u rfl (ow_y (yh_loadB Tb (k := 3) rfl rfl rfl rfl rfl) rfl rfl (kk_wl ?_))
      refine wl_nil ?_
      refine ex_seq ?_
      refine cw_block ?_
      refine cw_seq ?_
      refine cw_region ?_
      refine wl_u rfl (ow_y (yh_cmpI rfl rfl rfl rfl) rfl rfl (kk_wl ?_))
      refine wl_u rfl (ow_y (yh_assign rfl rfl) rfl rfl (kk_wl ?_))
      refine wl_nil ?_
      refine ex_seq ?_
      refine cw_split rfl (fun c2 => ?_) (fun c2 => ?_)
      · skip
        replace h := bt c2 h
        have q1 := eqb_true.1 c2
        refine cw_seq ?_
        refine cw_dr [0, 1, 2, 3] [6, 7, 8] [blkC g6 25 [.int .i64 (w64 (x41.ver + 1)), .slice a41 x41.steps.length c41], owC stepsL F41 [.slice a41 x41.steps.length c41] x41.steps, blkC g2 25 [.int .i64 u0.ver, .slice a_u0_steps u0.steps.length c_u0_steps], blkC g3 51 [.int .i64 u1.kind, .string u1.step.name, .slice a_u1_step_after u1.step.after.length c_u1_step_after, .bool u1.step.undo], blkC g4 25 [.int .i64 0, .slice none 0 0]] (by kernel_rfl) ?_
        refine wd_take (i := 0) [0, 1, 2, 3, 4] rfl rfl rfl rfl rfl (by kernel_rfl) (by kernel_rfl) (fun _ _ _ _ h => h) (yh_field Tb rfl rfl rfl) ?_
        refine wd_take (i := 1) [0, 1, 2, 3, 4] rfl rfl rfl rfl rfl (by kernel_rfl) (by kernel_rfl) (fun _ _ _ _ h => h) (yh_loadB Tb (k := 0) rfl rfl rfl rfl rfl) ?_
        refine wd_take (i := 2) [0, 1, 2, 3, 4] rfl rfl rfl rfl rfl (by kernel_rfl) (by kernel_rfl) (fun _ _ _ _ h => h) (yh_field Tb rfl rfl rfl) ?_
        refine wd_take (i := 3) [0, 1, 2, 3, 4] rfl rfl rfl rfl rfl (by kernel_rfl) (by kernel_rfl) (fun _ _ _ _ h => h) (yh_loadBN Tb (k := 3) rfl rfl rfl rfl rfl rfl rfl) ?_
        obtain ⟨x59, hx59, h⟩ := bd h
        refine wd_one 4 rfl rfl (by kernel_rfl) (ow_cN1 rfl hb38 rfl (fun w hw => c_impl_Step_clone N _ _ hx59 w (Lay.at_ h_u1_step_after hw)) rfl rfl (fun a59 c59 F59 => kk_wd [1, 2, 3, 4, 5] (by kernel_rfl) ?_))
        refine wd_one 5 rfl rfl (by kernel_rfl) (ow_litA Tb rfl rfl rfl rfl rfl rfl (by decide) rfl rfl (fun g60 => kk_wd [2, 3, 4, 5, 6] (by kernel_rfl) ?_))
        obtain ⟨hll61, h⟩ := bd_appd h
        refine wd_one 6 rfl rfl (by kernel_rfl) (ow_chg (c' := owC stepL F59 [.string x59.name, .slice a59 x59.after.length c59, .bool x59.undo] x59) 1 rfl (fun w hA => stepL_mk x59 hA) rfl (ow_appE Tb (i := 3) (j := 0) (k := 1) rfl rfl rfl rfl rfl rfl rfl rfl rfl rfl rfl (app1 hll61) (by decide) rfl rfl (fun a61 c61 F61 => kk_wdT rfl ?_)))
        refine wd_one 7 rfl rfl (by kernel_rfl) (ow_y (yh_field Tb rfl rfl rfl) rfl rfl (kk_wdT rfl ?_))
        refine wd_one 8 rfl rfl (by kernel_rfl) (ow_store1 Tb (k := 2) rfl rfl rfl rfl rfl rfl rfl rfl rfl (kk_wdT rfl ?_))
        refine wd_done (by kernel_rfl) ?_
        refine ex_seq ?_
        refine cw_region ?_
        refine wl_u rfl (ow_y (yh_field Tb rfl rfl rfl) rfl rfl (kk_wl ?_))
        refine wl_u rfl (ow_y (yh_loadB Tb (k := 0) rfl rfl rfl rfl rfl) rfl rfl (kk_wl ?_))
        obtain ⟨x65, hx65, h⟩ := bd h
        refine wl_u rfl (ow_cF1 1 rfl hb72 rfl rfl (fun w hw => c_slices_SortFunc_Step N _ _ hx65 w (hw.at (i := 1) rfl) (hw.ndAt (i := 1) rfl)) rfl rfl (fun F65 => kk_wl ?_))
        refine wl_nil ?_
        refine ex_block_normal ?_
        refine ex_know ((x41.steps ++ [x59]).length = x65.2.length) (fun w hw => own_lenK 0 rfl hw) (fun hr1_ => ?_)
        rw [hr1_]
        obtain rfl := Option.some.inj h
        exact ex_next [5, 1, 0] (hn113 (a61, c61, F65) trivial) ⟨rfl, rfl, trivial⟩ (by kernel_rfl)
      · skip
        replace h := bf c2 h
        have q2 := eqb_false.1 c2
        refine cw_seq ?_
        refine cw_region ?_
        refine wl_u rfl (ow_y (yh_cmpI rfl rfl rfl rfl) rfl rfl (kk_wl ?_))
        refine wl_u rfl (ow_y (yh_assign rfl rfl) rfl rfl (kk_wl ?_))
        refine wl_nil ?_
        refine ex_seq ?_
        refine cw_split rfl (fun c3 => ?_) (fun c3 => ?_)
        · skip
          replace h := bt c3 h
          have q3 := eqb_true.1 c3
          refine cw_region ?_
          refine wl_u rfl (ow_y (yh_field Tb rfl rfl rfl) rfl rfl (kk_wl ?_))
          refine wl_u rfl (ow_y (yh_field Tb rfl rfl rfl) rfl rfl (kk_wl ?_))
          refine wl_u rfl (ow_y (yh_loadB Tb (k := 3) rfl rfl rfl rfl rfl) rfl rfl (kk_wl ?_))
          obtain ⟨xc1, hxc1, h⟩ := bd h
          refine wl_u rfl (ow_cPd 0 0 rfl rfl hb75 rfl rfl rfl rfl (fun w hw => c_impl_Flow_drop N _ _ _ hxc1 w (hw.at (i := 0) rfl) (hw.at (i := 1) rfl) (hw.ndPair (i := 0) (j := 0) rfl rfl)) rfl rfl (fun axc1 cxc1 Fxc1 => kk_wl ?_))
          refine wl_nil ?_
          refine ex_block_normal ?_
          obtain rfl := Option.some.inj h
          exact ex_next [4, 0, 1] (hn113 (axc1, cxc1, Fxc1) trivial) ⟨rfl, rfl, trivial⟩ (by kernel_rfl)
        · skip
          replace h := bf c3 h
          have q4 := eqb_false.1 c3
          refine cw_seq ?_
          refine cw_region ?_
          refine wl_u rfl (ow_y (yh_cmpI rfl rfl rfl rfl) rfl rfl (kk_wl ?_))
          refine wl_u rfl (ow_y (yh_assign rfl rfl) rfl rfl (kk_wl ?_))
          refine wl_nil ?_
          refine ex_seq ?_
          refine cw_split rfl (fun c4 => ?_) (fun c4 => ?_)
          · skip
            replace h := bt c4 h
            have q5 := eqb_true.1 c4
            refine cw_dr [0, 1, 2, 3, 4, 5, 7, 8] [9] [blkC g6 25 [.int .i64 (w64 (x41.ver + 1)), .slice a41 x41.steps.length c41], owC stepsL F41 [.slice a41 x41.steps.length c41] x41.steps, blkC g2 25 [.int .i64 u0.ver, .slice a_u0_steps u0.steps.length c_u0_steps], blkC g3 51 [.int .i64 u1.kind, .string u1.step.name, .slice a_u1_step_after u1.step.after.length c_u1_step_after, .bool u1.step.undo], blkC g4 25 [.int .i64 0, .slice none 0 0]] (by kernel_rfl) ?_
            refine wd_take (i := 0) [0, 1, 2, 3, 4] rfl rfl rfl rfl rfl (by kernel_rfl) (by kernel_rfl) (fun _ _ _ _ h => h) (yh_field Tb rfl rfl rfl) ?_
            refine wd_take (i := 1) [0, 1, 2, 3, 4] rfl rfl rfl rfl rfl (by kernel_rfl) (by kernel_rfl) (fun _ _ _ _ h => h) (yh_loadB Tb (k := 0) rfl rfl rfl rfl rfl) ?_
            refine wd_take (i := 2) [0, 1, 2, 3, 4] rfl rfl rfl rfl rfl (by kernel_rfl) (by kernel_rfl) (fun _ _ _ _ h => h) (yh_move rfl rfl) ?_
            refine wd_take (i := 3) [0, 1, 2, 3, 4] rfl rfl rfl rfl rfl (by kernel_rfl) (by kernel_rfl) (fun _ _ _ _ h => h) (yh_field Tb rfl rfl rfl) ?_
            refine wd_take (i := 4) [0, 1, 2, 3, 4] rfl rfl rfl rfl rfl (by kernel_rfl) (by kernel_rfl) (fun _ _ _ _ h => h) (yh_field Tb rfl rfl rfl) ?_
            refine wd_take (i := 5) [0, 1, 2, 3, 4] rfl rfl rfl rfl rfl (by kernel_rfl) (by kernel_rfl) (fun _ _ _ _ h => h) (yh_loadB Tb (k := 3) rfl rfl rfl rfl rfl) ?_
            obtain ⟨x80, hx80, h⟩ := bd h
            refine wd_one 6 rfl rfl (by kernel_rfl) (ow_cN1 rfl hb76 rfl (fun w hw => c_impl_cloneNames N _ _ hx80 w (Lay.at_ h_u1_step_after hw)) rfl rfl (fun a80 c80 F80 => kk_wd [1, 2, 3, 4, 5] (by kernel_rfl) ?_))
            obtain ⟨y81, zy81, h⟩ := bd h
            obtain ⟨iy81, hy81⟩ := geti_some zy81
            refine wd_ex (fun g => a41 = some ⟨g, 0, none⟩) (fun w hw => by exact own_addrK 2 rfl hy81 hw) (fun g81 hg81 => ?_)
            subst hg81
            refine wd_take (i := 7) [1, 2, 3, 4, 5] rfl rfl rfl rfl rfl (by kernel_rfl) (by kernel_rfl) (fun _ _ _ _ h => h) (yh_idx Tb (k := x50.toNat) rfl rfl rfl iy81 (get_lt hy81) rfl rfl) ?_
            refine wd_take (i := 8) [1, 2, 3, 4, 5] rfl rfl rfl rfl rfl (by kernel_rfl) (by kernel_rfl) (fun _ _ _ _ h => h) (yh_field Tb rfl rfl rfl) ?_
            refine wd_one 9 rfl rfl (by kernel_rfl) (ow_setFS Tb 2 0 1 (Step.mk y81.name x80 y81.undo) (fun w F cs h hG => by obtain ⟨a, c, rfl, h2⟩ := stepL_ow h; exact stepL_mk (Step.mk y81.name x80 y81.undo) hG) rfl rfl rfl rfl rfl rfl rfl rfl hy81 rfl (fun Fs56 => kk_wdT rfl ?_))
            refine wd_done (by kernel_rfl) ?_
            refine ex_block_normal ?_
            refine ex_know (x41.steps.length = (x41.steps.set x50.toNat (Step.mk y81.name x80 y81.undo)).length) (fun w hw => own_lenK 0 rfl hw) (fun hr2_ => ?_)
            rw [hr2_]
            obtain rfl := Option.some.inj h
            exact ex_next [4, 1, 0] (hn113 ((some ⟨g81, 0, none⟩), c41, Fs56) trivial) ⟨rfl, rfl, trivial⟩ (by kernel_rfl)
          · skip
            replace h := bf c4 h
            have q6 := eqb_false.1 c4
            refine cw_seq ?_
            refine cw_region ?_
            refine wl_u rfl (ow_y (yh_cmpI rfl rfl rfl rfl) rfl rfl (kk_wl ?_))
            refine wl_u rfl (ow_y (yh_assign rfl rfl) rfl rfl (kk_wl ?_))
            refine wl_nil ?_
            refine ex_seq ?_
            refine cw_split rfl (fun c5 => ?_) (fun c5 => ?_)
            · skip
              replace h := bt c5 h
              have q7 := eqb_true.1 c5
              refine cw_region ?_
              refine wl_u rfl (ow_y (yh_field Tb rfl rfl rfl) rfl rfl (kk_wl ?_))
              refine wl_u rfl (ow_y (yh_loadB Tb (k := 0) rfl rfl rfl rfl rfl) rfl rfl (kk_wl ?_))
              refine wl_u rfl (ow_y (yh_move rfl rfl) rfl rfl (kk_wl ?_))
              refine wl_u rfl (ow_y (yh_field Tb rfl rfl rfl) rfl rfl (kk_wl ?_))
              refine wl_u rfl (ow_y (yh_field Tb rfl rfl rfl) rfl rfl (kk_wl ?_))
              refine wl_u rfl (ow_y (yh_loadB Tb (k := 3) rfl rfl rfl rfl rfl) rfl rfl (kk_wl ?_))
              obtain ⟨y91, zy91, h⟩ := bd h
              obtain ⟨iy91, hy91⟩ := geti_some zy91
              refine wl_ex (fun g => a41 = some ⟨g, 0, none⟩) (fun w hw => by exact own_addrK 1 rfl hy91 hw) (fun g91 hg91 => ?_)
              subst hg91
              refine wl_u rfl (ow_y (yh_idx Tb (k := x50.toNat) rfl rfl rfl iy91 (get_lt hy91) rfl rfl) rfl rfl (kk_wl ?_))
              refine wl_u rfl (ow_y (yh_field Tb rfl rfl rfl) rfl rfl (kk_wl ?_))
              refine wl_u rfl (ow_setFP Tb 1 2 (Step.mk y91.name y91.after u1.step.undo) (fun w F cs h => by obtain ⟨a, c, rfl, h2⟩ := stepL_ow h; exact stepL_mk (Step.mk y91.name y91.after u1.step.undo) h2) rfl rfl rfl rfl rfl rfl rfl hy91 rfl (kk_wl ?_))
              refine wl_nil ?_
              refine ex_block_normal ?_
              refine ex_know (x41.steps.length = (x41.steps.set x50.toNat (Step.mk y91.name y91.after u1.step.undo)).length) (fun w hw => own_lenK 0 rfl hw) (fun hr3_ => ?_)
              rw [hr3_]
              obtain rfl := Option.some.inj h
              exact ex_next [4, 1, 0] (hn113 ((some ⟨g91, 0, none⟩), c41, F41) trivial) ⟨rfl, rfl, trivial⟩ (by kernel_rfl)
            · skip
              replace h := bf c5 h
              have q8 := eqb_false.1 c5
              refine cw_skip ?_
              refine ex_block_normal ?_
              obtain rfl := Option.some.inj h
              exact ex_next [4, 0, 1] (hn113 (a41, c41, F41) trivial) ⟨rfl, rfl, trivial⟩ (by kernel_rfl)
  · skip
    have h := he102
    refine cw_seq ?_
    refine cw_dr [0, 2, 3, 4, 5, 7, 8, 9, 10, 11, 12, 13, 14, 15, 16, 17, 18, 19, 20, 21, 22, 23, 25, 26, 27, 28, 29, 30] [] [blkC g4 25 [.int .i64 0, .slice none 0 0], blkC g3 51 [.int .i64 u1.kind, .string u1.step.name, .slice a_u1_step_after u1.step.after.length c_u1_step_after, .bool u1.step.undo], blkC g2 25 [.int .i64 u0.ver, .slice a_u0_steps u0.steps.length c_u0_steps]] (by kernel_rfl) ?_
    refine wd_take (i := 0) [0, 1, 2] rfl rfl rfl rfl rfl (by kernel_rfl) (by kernel_rfl) (fun _ _ _ _ h => h) (yh_loadBA Tb (k := 2) rfl rfl rfl rfl rfl rfl) ?_
    obtain ⟨x9, hx9, h⟩ := bd h
    refine wd_one 1 rfl rfl (by kernel_rfl) (ow_cV rfl hb32 rfl (fun w hw => c_impl_FlowValid N _ _ hx9 w (Lay.at_ h_u0_steps hw)) rfl rfl (kk_wd [0, 1, 2] (by kernel_rfl) ?_))
    refine wd_take (i := 2) [0, 1, 2] rfl rfl rfl rfl rfl (by kernel_rfl) (by kernel_rfl) (fun _ _ _ _ h => h) (yh_not rfl rfl) ?_
    refine wd_take (i := 3) [0, 1, 2] rfl rfl rfl rfl rfl (by kernel_rfl) (by kernel_rfl) (fun _ _ _ _ h => h) (yh_move rfl rfl) ?_
    refine wd_split 4 rfl rfl rfl (fun c6 => ?_) (fun c6 => ?_)
    · skip
      replace h := bt c6 h
      refine wd_skip (i := 4) [0, 1, 2] rfl rfl rfl rfl (by kernel_rfl) (by kernel_rfl) (fun _ _ _ h => h) ?_
      refine wd_skip (i := 5) [0, 1, 2] rfl rfl rfl rfl (by kernel_rfl) (by kernel_rfl) (fun _ _ _ h => h) ?_
      refine wd_offD 6 rfl rfl rfl rfl (by kernel_rfl) [0, 1, 2] (fun _ => rfl) ?_
      refine wd_skip (i := 7) [0, 1, 2] rfl rfl rfl rfl (by kernel_rfl) (by kernel_rfl) (fun _ _ _ h => h) ?_
      refine wd_take (i := 8) [0, 1, 2] rfl rfl rfl rfl rfl (by kernel_rfl) (by kernel_rfl) (fun _ _ _ _ h => h) (yh_pickT rfl rfl rfl) ?_
      refine wd_take (i := 9) [0, 1, 2] rfl rfl rfl rfl rfl (by kernel_rfl) (by kernel_rfl) (fun _ _ _ _ h => h) (yh_move rfl rfl) ?_
      refine wd_split 10 rfl rfl rfl (fun _ => ?_) nofun
      refine wd_skip (i := 10) [0, 1, 2] rfl rfl rfl rfl (by kernel_rfl) (by kernel_rfl) (fun _ _ _ h => h) ?_
      refine wd_skip (i := 11) [0, 1, 2] rfl rfl rfl rfl (by kernel_rfl) (by kernel_rfl) (fun _ _ _ h => h) ?_
      refine wd_skip (i := 12) [0, 1, 2] rfl rfl rfl rfl (by kernel_rfl) (by kernel_rfl) (fun _ _ _ h => h) ?_
      refine wd_take (i := 13) [0, 1, 2] rfl rfl rfl rfl rfl (by kernel_rfl) (by kernel_rfl) (fun _ _ _ _ h => h) (yh_pickT rfl rfl rfl) ?_
      refine wd_take (i := 14) [0, 1, 2] rfl rfl rfl rfl rfl (by kernel_rfl) (by kernel_rfl) (fun _ _ _ _ h => h) (yh_move rfl rfl) ?_
      refine wd_split 15 rfl rfl rfl (fun _ => ?_) nofun
      refine wd_skip (i := 15) [0, 1, 2] rfl rfl rfl rfl (by kernel_rfl) (by kernel_rfl) (fun _ _ _ h => h) ?_
      refine wd_skip (i := 16) [0, 1, 2] rfl rfl rfl rfl (by kernel_rfl) (by kernel_rfl) (fun _ _ _ h => h) ?_
      refine wd_skip (i := 17) [0, 1, 2] rfl rfl rfl rfl (by kernel_rfl) (by kernel_rfl) (fun _ _ _ h => h) ?_
      refine wd_take (i := 18) [0, 1, 2] rfl rfl rfl rfl rfl (by kernel_rfl) (by kernel_rfl) (fun _ _ _ _ h => h) (yh_pickT rfl rfl rfl) ?_
      refine wd_take (i := 19) [0, 1, 2] rfl rfl rfl rfl rfl (by kernel_rfl) (by kernel_rfl) (fun _ _ _ _ h => h) (yh_move rfl rfl) ?_
      refine wd_split 20 rfl rfl rfl (fun _ => ?_) nofun
      refine wd_skip (i := 20) [0, 1, 2] rfl rfl rfl rfl (by kernel_rfl) (by kernel_rfl) (fun _ _ _ h => h) ?_
      refine wd_skip (i := 21) [0, 1, 2] rfl rfl rfl rfl (by kernel_rfl) (by kernel_rfl) (fun _ _ _ h => h) ?_
      refine wd_skip (i := 22) [0, 1, 2] rfl rfl rfl rfl (by kernel_rfl) (by kernel_rfl) (fun _ _ _ h => h) ?_
      refine wd_skip (i := 23) [0, 1, 2] rfl rfl rfl rfl (by kernel_rfl) (by kernel_rfl) (fun _ _ _ h => h) ?_
      refine wd_skip (i := 26) [0, 1, 2] rfl rfl rfl rfl (by kernel_rfl) (by kernel_rfl) (fun _ _ _ h => h) ?_
      refine wd_skip (i := 27) [0, 1, 2] rfl rfl rfl rfl (by kernel_rfl) (by kernel_rfl) (fun _ _ _ h => h) ?_
      refine wd_skip (i := 28) [0, 1, 2] rfl rfl rfl rfl (by kernel_rfl) (by kernel_rfl) (fun _ _ _ h => h) ?_
      refine wd_offD 24 rfl rfl rfl rfl (by kernel_rfl) [0, 1, 2] (fun _ => rfl) ?_
      refine wd_skip (i := 25) [0, 1, 2] rfl rfl rfl rfl (by kernel_rfl) (by kernel_rfl) (fun _ _ _ h => h) ?_
      refine wd_skip (i := 29) [0, 1, 2] rfl rfl rfl rfl (by kernel_rfl) (by kernel_rfl) (fun _ _ _ h => h) ?_
      refine wd_take (i := 30) [0, 1, 2] rfl rfl rfl rfl rfl (by kernel_rfl) (by kernel_rfl) (fun _ _ _ _ h => h) (yh_pickT rfl rfl rfl) ?_
      refine wd_done (by kernel_rfl) ?_
      refine ex_seq ?_
      refine cw_true rfl ?_
      refine cw_seq ?_
      refine cw_region ?_
      refine wl_u rfl (ow_y (yh_build [.int .i64 0, .slice none 0 0] rfl rfl (by kernel_rfl)) rfl rfl (kk_wl ?_))
      refine wl_u rfl (ow_storeA Tb (k := 0) rfl rfl rfl rfl rfl rfl rfl rfl rfl (kk_wl ?_))
      refine wl_u rfl (ow_y (yh_assign rfl rfl) rfl rfl (kk_wl ?_))
      refine wl_nil ?_
      refine ex_seq ?_
      refine cw_ret ?_
      refine ex_then_ret ?_
      refine ex_nilS stepsL rfl ?_
      obtain rfl := Option.some.inj h
      obtain rfl := go_ret hk102
      exact ex_r2 Tb rfl (.cellA 1 rfl rfl rfl rfl rfl) (.tmp rfl) (fun wq hq => ⟨_, rfl, hq.ext, ⟨none, 0, [], rfl, NewC.sel [0] hq rfl⟩⟩)
    · skip
      replace h := bf c6 h
      refine wd_take (i := 4) [0, 1, 2] rfl rfl rfl rfl rfl (by kernel_rfl) (by kernel_rfl) (fun _ _ _ _ h => h) (yh_field Tb rfl rfl rfl) ?_
      refine wd_take (i := 5) [0, 1, 2] rfl rfl rfl rfl rfl (by kernel_rfl) (by kernel_rfl) (fun _ _ _ _ h => h) (yh_loadBN Tb (k := 1) rfl rfl rfl rfl rfl rfl rfl) ?_
      obtain ⟨x14, hx14, h⟩ := bd h
      refine wd_one 6 rfl rfl (by kernel_rfl) (ow_cV rfl hb71 rfl (fun w hw => c_impl_StepValid N _ _ hx14 w (Lay.at_ h_u1_step_after hw)) rfl rfl (kk_wd [0, 1, 2] (by kernel_rfl) ?_))
      refine wd_take (i := 7) [0, 1, 2] rfl rfl rfl rfl rfl (by kernel_rfl) (by kernel_rfl) (fun _ _ _ _ h => h) (yh_not rfl rfl) ?_
      refine wd_take (i := 8) [0, 1, 2] rfl rfl rfl rfl rfl (by kernel_rfl) (by kernel_rfl) (fun _ _ _ _ h => h) (yh_pickF rfl rfl rfl) ?_
      refine wd_take (i := 9) [0, 1, 2] rfl rfl rfl rfl rfl (by kernel_rfl) (by kernel_rfl) (fun _ _ _ _ h => h) (yh_move rfl rfl) ?_
      refine wd_split 10 rfl rfl rfl (fun c7 => ?_) (fun c7 => ?_)
      · skip
        replace h := bt c7 h
        refine wd_skip (i := 10) [0, 1, 2] rfl rfl rfl rfl (by kernel_rfl) (by kernel_rfl) (fun _ _ _ h => h) ?_
        refine wd_skip (i := 11) [0, 1, 2] rfl rfl rfl rfl (by kernel_rfl) (by kernel_rfl) (fun _ _ _ h => h) ?_
        refine wd_skip (i := 12) [0, 1, 2] rfl rfl rfl rfl (by kernel_rfl) (by kernel_rfl) (fun _ _ _ h => h) ?_
        refine wd_take (i := 13) [0, 1, 2] rfl rfl rfl rfl rfl (by kernel_rfl) (by kernel_rfl) (fun _ _ _ _ h => h) (yh_pickT rfl rfl rfl) ?_
        refine wd_take (i := 14) [0, 1, 2] rfl rfl rfl rfl rfl (by kernel_rfl) (by kernel_rfl) (fun _ _ _ _ h => h) (yh_move rfl rfl) ?_
        refine wd_split 15 rfl rfl rfl (fun _ => ?_) nofun
        refine wd_skip (i := 15) [0, 1, 2] rfl rfl rfl rfl (by kernel_rfl) (by kernel_rfl) (fun _ _ _ h => h) ?_
        refine wd_skip (i := 16) [0, 1, 2] rfl rfl rfl rfl (by kernel_rfl) (by kernel_rfl) (fun _ _ _ h => h) ?_
        refine wd_skip (i := 17) [0, 1, 2] rfl rfl rfl rfl (by kernel_rfl) (by kernel_rfl) (fun _ _ _ h => h) ?_
        refine wd_take (i := 18) [0, 1, 2] rfl rfl rfl rfl rfl (by kernel_rfl) (by kernel_rfl) (fun _ _ _ _ h => h) (yh_pickT rfl rfl rfl) ?_
        refine wd_take (i := 19) [0, 1, 2] rfl rfl rfl rfl rfl (by kernel_rfl) (by kernel_rfl) (fun _ _ _ _ h => h) (yh_move rfl rfl) ?_
        refine wd_split 20 rfl rfl rfl (fun _ => ?_) nofun
        refine wd_skip (i := 20) [0, 1, 2] rfl rfl rfl rfl (by kernel_rfl) (by kernel_rfl) (fun _ _ _ h => h) ?_
        refine wd_skip (i := 21) [0, 1, 2] rfl rfl rfl rfl (by kernel_rfl) (by kernel_rfl) (fun _ _ _ h => h) ?_
        refine wd_skip (i := 22) [0, 1, 2] rfl rfl rfl rfl (by kernel_rfl) (by kernel_rfl) (fun _ _ _ h => h) ?_
        refine wd_skip (i := 23) [0, 1, 2] rfl rfl rfl rfl (by kernel_rfl) (by kernel_rfl) (fun _ _ _ h => h) ?_
        refine wd_skip (i := 26) [0, 1, 2] rfl rfl rfl rfl (by kernel_rfl) (by kernel_rfl) (fun _ _ _ h => h) ?_
        refine wd_skip (i := 27) [0, 1, 2] rfl rfl rfl rfl (by kernel_rfl) (by kernel_rfl) (fun _ _ _ h => h) ?_
        refine wd_skip (i := 28) [0, 1, 2] rfl rfl rfl rfl (by kernel_rfl) (by kernel_rfl) (fun _ _ _ h => h) ?_
        refine wd_offD 24 rfl rfl rfl rfl (by kernel_rfl) [0, 1, 2] (fun _ => rfl) ?_
        refine wd_skip (i := 25) [0, 1, 2] rfl rfl rfl rfl (by kernel_rfl) (by kernel_rfl) (fun _ _ _ h => h) ?_
        refine wd_skip (i := 29) [0, 1, 2] rfl rfl rfl rfl (by kernel_rfl) (by kernel_rfl) (fun _ _ _ h => h) ?_
        refine wd_take (i := 30) [0, 1, 2] rfl rfl rfl rfl rfl (by kernel_rfl) (by kernel_rfl) (fun _ _ _ _ h => h) (yh_pickT rfl rfl rfl) ?_
        refine wd_done (by kernel_rfl) ?_
        refine ex_seq ?_
        refine cw_true rfl ?_
        refine cw_seq ?_
        refine cw_region ?_
        refine wl_u rfl (ow_y (yh_build [.int .i64 0, .slice none 0 0] rfl rfl (by kernel_rfl)) rfl rfl (kk_wl ?_))
        refine wl_u rfl (ow_storeA Tb (k := 0) rfl rfl rfl rfl rfl rfl rfl rfl rfl (kk_wl ?_))
        refine wl_u rfl (ow_y (yh_assign rfl rfl) rfl rfl (kk_wl ?_))
        refine wl_nil ?_
        refine ex_seq ?_
        refine cw_ret ?_
        refine ex_then_ret ?_
        refine ex_nilS stepsL rfl ?_
        obtain rfl := Option.some.inj h
        obtain rfl := go_ret hk102
        exact ex_r2 Tb rfl (.cellA 1 rfl rfl rfl rfl rfl) (.tmp rfl) (fun wq hq => ⟨_, rfl, hq.ext, ⟨none, 0, [], rfl, NewC.sel [0] hq rfl⟩⟩)
      · skip
        replace h := bf c7 h
        refine wd_take (i := 10) [0, 1, 2] rfl rfl rfl rfl rfl (by kernel_rfl) (by kernel_rfl) (fun _ _ _ _ h => h) (yh_field Tb rfl rfl rfl) ?_
        refine wd_take (i := 11) [0, 1, 2] rfl rfl rfl rfl rfl (by kernel_rfl) (by kernel_rfl) (fun _ _ _ _ h => h) (yh_loadB Tb (k := 1) rfl rfl rfl rfl rfl) ?_
        refine wd_take (i := 12) [0, 1, 2] rfl rfl rfl rfl rfl (by kernel_rfl) (by kernel_rfl) (fun _ _ _ _ h => h) (yh_cmpI rfl rfl rfl rfl) ?_
        refine wd_take (i := 13) [0, 1, 2] rfl rfl rfl rfl rfl (by kernel_rfl) (by kernel_rfl) (fun _ _ _ _ h => h) (yh_pickF rfl rfl rfl) ?_
        refine wd_take (i := 14) [0, 1, 2] rfl rfl rfl rfl rfl (by kernel_rfl) (by kernel_rfl) (fun _ _ _ _ h => h) (yh_move rfl rfl) ?_
        refine wd_split 15 rfl rfl rfl (fun c8 => ?_) (fun c8 => ?_)
        · skip
          replace h := bt c8 h
          have q9 := ltb_true.1 c8
          refine wd_skip (i := 15) [0, 1, 2] rfl rfl rfl rfl (by kernel_rfl) (by kernel_rfl) (fun _ _ _ h => h) ?_
          refine wd_skip (i := 16) [0, 1, 2] rfl rfl rfl rfl (by kernel_rfl) (by kernel_rfl) (fun _ _ _ h => h) ?_
          refine wd_skip (i := 17) [0, 1, 2] rfl rfl rfl rfl (by kernel_rfl) (by kernel_rfl) (fun _ _ _ h => h) ?_
          refine wd_take (i := 18) [0, 1, 2] rfl rfl rfl rfl rfl (by kernel_rfl) (by kernel_rfl) (fun _ _ _ _ h => h) (yh_pickT rfl rfl rfl) ?_
          refine wd_take (i := 19) [0, 1, 2] rfl rfl rfl rfl rfl (by kernel_rfl) (by kernel_rfl) (fun _ _ _ _ h => h) (yh_move rfl rfl) ?_
          refine wd_split 20 rfl rfl rfl (fun _ => ?_) nofun
          refine wd_skip (i := 20) [0, 1, 2] rfl rfl rfl rfl (by kernel_rfl) (by kernel_rfl) (fun _ _ _ h => h) ?_
          refine wd_skip (i := 21) [0, 1, 2] rfl rfl rfl rfl (by kernel_rfl) (by kernel_rfl) (fun _ _ _ h => h) ?_
          refine wd_skip (i := 22) [0, 1, 2] rfl rfl rfl rfl (by kernel_rfl) (by kernel_rfl) (fun _ _ _ h => h) ?_
          refine wd_skip (i := 23) [0, 1, 2] rfl rfl rfl rfl (by kernel_rfl) (by kernel_rfl) (fun _ _ _ h => h) ?_
          refine wd_skip (i := 26) [0, 1, 2] rfl rfl rfl rfl (by kernel_rfl) (by kernel_rfl) (fun _ _ _ h => h) ?_
          refine wd_skip (i := 27) [0, 1, 2] rfl rfl rfl rfl (by kernel_rfl) (by kernel_rfl) (fun _ _ _ h => h) ?_
          refine wd_skip (i := 28) [0, 1, 2] rfl rfl rfl rfl (by kernel_rfl) (by kernel_rfl) (fun _ _ _ h => h) ?_
          refine wd_offD 24 rfl rfl rfl rfl (by kernel_rfl) [0, 1, 2] (fun _ => rfl) ?_
          refine wd_skip (i := 25) [0, 1, 2] rfl rfl rfl rfl (by kernel_rfl) (by kernel_rfl) (fun _ _ _ h => h) ?_
          refine wd_skip (i := 29) [0, 1, 2] rfl rfl rfl rfl (by kernel_rfl) (by kernel_rfl) (fun _ _ _ h => h) ?_
          refine wd_take (i := 30) [0, 1, 2] rfl rfl rfl rfl rfl (by kernel_rfl) (by kernel_rfl) (fun _ _ _ _ h => h) (yh_pickT rfl rfl rfl) ?_
          refine wd_done (by kernel_rfl) ?_
          refine ex_seq ?_
          refine cw_true rfl ?_
          refine cw_seq ?_
          refine cw_region ?_
          refine wl_u rfl (ow_y (yh_build [.int .i64 0, .slice none 0 0] rfl rfl (by kernel_rfl)) rfl rfl (kk_wl ?_))
          refine wl_u rfl (ow_storeA Tb (k := 0) rfl rfl rfl rfl rfl rfl rfl rfl rfl (kk_wl ?_))
          refine wl_u rfl (ow_y (yh_assign rfl rfl) rfl rfl (kk_wl ?_))
          refine wl_nil ?_
          refine ex_seq ?_
          refine cw_ret ?_
          refine ex_then_ret ?_
          refine ex_nilS stepsL rfl ?_
          obtain rfl := Option.some.inj h
          obtain rfl := go_ret hk102
          exact ex_r2 Tb rfl (.cellA 1 rfl rfl rfl rfl rfl) (.tmp rfl) (fun wq hq => ⟨_, rfl, hq.ext, ⟨none, 0, [], rfl, NewC.sel [0] hq rfl⟩⟩)
        · skip
          replace h := bf c8 h
          have q10 := ltb_false.1 c8
          refine wd_take (i := 15) [0, 1, 2] rfl rfl rfl rfl rfl (by kernel_rfl) (by kernel_rfl) (fun _ _ _ _ h => h) (yh_field Tb rfl rfl rfl) ?_
          refine wd_take (i := 16) [0, 1, 2] rfl rfl rfl rfl rfl (by kernel_rfl) (by kernel_rfl) (fun _ _ _ _ h => h) (yh_loadB Tb (k := 1) rfl rfl rfl rfl rfl) ?_
          refine wd_take (i := 17) [0, 1, 2] rfl rfl rfl rfl rfl (by kernel_rfl) (by kernel_rfl) (fun _ _ _ _ h => h) (yh_cmpI rfl rfl rfl rfl) ?_
          refine wd_take (i := 18) [0, 1, 2] rfl rfl rfl rfl rfl (by kernel_rfl) (by kernel_rfl) (fun _ _ _ _ h => h) (yh_pickF rfl rfl rfl) ?_
          refine wd_take (i := 19) [0, 1, 2] rfl rfl rfl rfl rfl (by kernel_rfl) (by kernel_rfl) (fun _ _ _ _ h => h) (yh_move rfl rfl) ?_
          refine wd_split 20 rfl rfl rfl (fun c9 => ?_) (fun c9 => ?_)
          · skip
            replace h := bt c9 h
            have q11 := ltb_true.1 c9
            refine wd_skip (i := 20) [0, 1, 2] rfl rfl rfl rfl (by kernel_rfl) (by kernel_rfl) (fun _ _ _ h => h) ?_
            refine wd_skip (i := 21) [0, 1, 2] rfl rfl rfl rfl (by kernel_rfl) (by kernel_rfl) (fun _ _ _ h => h) ?_
            refine wd_skip (i := 22) [0, 1, 2] rfl rfl rfl rfl (by kernel_rfl) (by kernel_rfl) (fun _ _ _ h => h) ?_
            refine wd_skip (i := 23) [0, 1, 2] rfl rfl rfl rfl (by kernel_rfl) (by kernel_rfl) (fun _ _ _ h => h) ?_
            refine wd_skip (i := 26) [0, 1, 2] rfl rfl rfl rfl (by kernel_rfl) (by kernel_rfl) (fun _ _ _ h => h) ?_
            refine wd_skip (i := 27) [0, 1, 2] rfl rfl rfl rfl (by kernel_rfl) (by kernel_rfl) (fun _ _ _ h => h) ?_
            refine wd_skip (i := 28) [0, 1, 2] rfl rfl rfl rfl (by kernel_rfl) (by kernel_rfl) (fun _ _ _ h => h) ?_
            refine wd_offD 24 rfl rfl rfl rfl (by kernel_rfl) [0, 1, 2] (fun _ => rfl) ?_
            refine wd_skip (i := 25) [0, 1, 2] rfl rfl rfl rfl (by kernel_rfl) (by kernel_rfl) (fun _ _ _ h => h) ?_
            refine wd_skip (i := 29) [0, 1, 2] rfl rfl rfl rfl (by kernel_rfl) (by kernel_rfl) (fun _ _ _ h => h) ?_
            refine wd_take (i := 30) [0, 1, 2] rfl rfl rfl rfl rfl (by kernel_rfl) (by kernel_rfl) (fun _ _ _ _ h => h) (yh_pickT rfl rfl rfl) ?_
            refine wd_done (by kernel_rfl) ?_
            refine ex_seq ?_
            refine cw_true rfl ?_
            refine cw_seq ?_
            refine cw_region ?_
            refine wl_u rfl (ow_y (yh_build [.int .i64 0, .slice none 0 0] rfl rfl (by kernel_rfl)) rfl rfl (kk_wl ?_))
            refine wl_u rfl (ow_storeA Tb (k := 0) rfl rfl rfl rfl rfl rfl rfl rfl rfl (kk_wl ?_))
            refine wl_u rfl (ow_y (yh_assign rfl rfl) rfl rfl (kk_wl ?_))
            refine wl_nil ?_
            refine ex_seq ?_
            refine cw_ret ?_
            refine ex_then_ret ?_
            refine ex_nilS stepsL rfl ?_
            obtain rfl := Option.some.inj h
            obtain rfl := go_ret hk102
            exact ex_r2 Tb rfl (.cellA 1 rfl rfl rfl rfl rfl) (.tmp rfl) (fun wq hq => ⟨_, rfl, hq.ext, ⟨none, 0, [], rfl, NewC.sel [0] hq rfl⟩⟩)
          · skip
            replace h := bf c9 h
            have q12 := ltb_false.1 c9
            refine wd_take (i := 20) [0, 1, 2] rfl rfl rfl rfl rfl (by kernel_rfl) (by kernel_rfl) (fun _ _ _ _ h => h) (yh_loadBA Tb (k := 2) rfl rfl rfl rfl rfl rfl) ?_
            refine wd_take (i := 21) [0, 1, 2] rfl rfl rfl rfl rfl (by kernel_rfl) (by kernel_rfl) (fun _ _ _ _ h => h) (yh_field Tb rfl rfl rfl) ?_
            refine wd_take (i := 22) [0, 1, 2] rfl rfl rfl rfl rfl (by kernel_rfl) (by kernel_rfl) (fun _ _ _ _ h => h) (yh_field Tb rfl rfl rfl) ?_
            refine wd_take (i := 23) [0, 1, 2] rfl rfl rfl rfl rfl (by kernel_rfl) (by kernel_rfl) (fun _ _ _ _ h => h) (yh_loadB Tb (k := 1) rfl rfl rfl rfl rfl) ?_
            refine wd_take (i := 26) [0, 1, 2] rfl rfl rfl rfl rfl (by kernel_rfl) (by kernel_rfl) (fun _ _ _ _ h => h) (yh_field Tb rfl rfl rfl) ?_
            refine wd_take (i := 27) [0, 1, 2] rfl rfl rfl rfl rfl (by kernel_rfl) (by kernel_rfl) (fun _ _ _ _ h => h) (yh_loadB Tb (k := 1) rfl rfl rfl rfl rfl) ?_
            refine wd_take (i := 28) [0, 1, 2] rfl rfl rfl rfl rfl (by kernel_rfl) (by kernel_rfl) (fun _ _ _ _ h => h) (yh_cmpI rfl rfl rfl rfl) ?_
            obtain ⟨x32, hx32, h⟩ := bd h
            refine wd_one 24 rfl rfl (by kernel_rfl) (ow_cV rfl hb36 rfl (fun w hw => c_impl_Flow_at N _ _ _ hx32 w (Lay.at_ h_u0_steps hw)) rfl rfl (kk_wd [0, 1, 2] (by kernel_rfl) ?_))
            refine wd_take (i := 25) [0, 1, 2] rfl rfl rfl rfl rfl (by kernel_rfl) (by kernel_rfl) (fun _ _ _ _ h => h) (yh_cmpI rfl rfl rfl rfl) ?_
            refine wd_take (i := 29) [0, 1, 2] rfl rfl rfl rfl rfl (by kernel_rfl) (by kernel_rfl) (fun _ _ _ _ h => h) (yh_cmpB rfl rfl rfl rfl (by kernel_rfl)) ?_
            refine wd_take (i := 30) [0, 1, 2] rfl rfl rfl rfl rfl (by kernel_rfl) (by kernel_rfl) (fun _ _ _ _ h => h) (yh_pickF rfl rfl rfl) ?_
            refine wd_done (by kernel_rfl) ?_
            refine ex_seq ?_
            refine cw_split rfl (fun c10 => ?_) (fun c10 => ?_)
            · skip
              replace h := bt c10 h
              refine cw_seq ?_
              refine cw_region ?_
              refine wl_u rfl (ow_y (yh_build [.int .i64 0, .slice none 0 0] rfl rfl (by kernel_rfl)) rfl rfl (kk_wl ?_))
              refine wl_u rfl (ow_storeA Tb (k := 0) rfl rfl rfl rfl rfl rfl rfl rfl rfl (kk_wl ?_))
              refine wl_u rfl (ow_y (yh_assign rfl rfl) rfl rfl (kk_wl ?_))
              refine wl_nil ?_
              refine ex_seq ?_
              refine cw_ret ?_
              refine ex_then_ret ?_
              refine ex_nilS stepsL rfl ?_
              obtain rfl := Option.some.inj h
              obtain rfl := go_ret hk102
              exact ex_r2 Tb rfl (.cellA 1 rfl rfl rfl rfl rfl) (.tmp rfl) (fun wq hq => ⟨_, rfl, hq.ext, ⟨none, 0, [], rfl, NewC.sel [0] hq rfl⟩⟩)
            · skip
              replace h := bf c10 h
              refine cw_skip ?_
              obtain rfl := Option.some.inj h
              exact ex_next [2, 1, 0] (hn102 ((), ()) rfl) ⟨rfl, rfl, rfl, trivial⟩ (by kernel_rfl)

def m_impl_FlowChanges_L8 (N : Nat) (list_ : List Change) : Nat → Int → (List Step) → Nat → Option (Ex (Int × List Step × Nat) (Flow × Bool))
  | 0, _, _, _ => none
  | n + 1, s6_c_0, s6_c_1, s19 => (bif ltb ((s19 : Nat) : Int) ((list_.length : Nat) : Int) then (list_[s19]?).bind fun y21 => (m_impl_FlowChange N (Flow.mk s6_c_0 s6_c_1) y21).bind fun x26 => (bif !x26.2 then some (Ex.ret ((Flow.mk 0 []), false))
 else m_impl_FlowChanges_L8 N list_ n x26.1.ver x26.1.steps (s19 + 1))
 else some (Ex.brk (s6_c_0, s6_c_1, s19)))

def m_impl_FlowChanges (N : Nat) (f : Flow) (list_ : List Change) : Option (Flow × Bool) := (m_impl_FlowValid N f).bind fun x12 => (bif !x12 then some ((Flow.mk 0 []), false)
 else (m_impl_Flow_clone N f).bind fun x16 => (m_impl_FlowChanges_L8 N list_ N x16.ver x16.steps 0).bind fun e8 => e8.go (fun r => r) fun b8 => some ((Flow.mk b8.1 b8.2.1), true))

set_option maxHeartbeats 4000000 in
theorem c_impl_FlowChanges (N : Nat) (f : Flow) (list_ : List Change) (res : Flow × Bool) (h : m_impl_FlowChanges N f list_ = some res) (w : World) {a_f_steps a_list_ : Option Addr} {c_f_steps c_list_ : Nat} (h_f_steps : stepsL.rd w [] [.slice a_f_steps f.steps.length c_f_steps] f.steps) (h_list_ : changesL.rd w [] [.slice a_list_ list_.length c_list_] list_) : Ret Tryz.prog 11 [.agg #[.int .i64 f.ver, .slice a_f_steps f.steps.length c_f_steps], .slice a_list_ list_.length c_list_] w [] fun v w' => ∃ a1 c1 F1, v = .tuple #[.agg #[.int .i64 res.1.ver, .slice a1 res.1.steps.length c1], .bool res.2] ∧ NewC w w' [owC stepsL F1 [.slice a1 res.1.steps.length c1] res.1.steps] := by
  have mh_f_steps := rd_max h_f_steps
  have mh_list_ := rd_max h_list_
  unfold m_impl_FlowChanges at h
  refine ret_enter Tryz.func11 rfl Tryz.ntmps11 rfl (Hp.refl w _) ?_
  refine cw_seq ?_
  refine cw_region ?_
  refine wl_u rfl (ow_boxA rfl rfl rfl rfl (fun g2 => kk_wl ?_))
  refine wl_u rfl (ow_allocA Tb rfl rfl rfl rfl (fun g4 => kk_wl ?_))
  refine wl_u rfl (ow_y (yh_assign rfl rfl) rfl rfl (kk_wl ?_))
  refine wl_nil ?_
  refine ex_seq ?_
  refine cw_seq ?_
  refine cw_seq ?_
  refine cw_region ?_
  refine wl_u rfl (ow_y (yh_loadBA Tb (k := 1) rfl rfl rfl rfl rfl rfl) rfl rfl (kk_wl ?_))
  obtain ⟨x12, hx12, h⟩ := bd h
  refine wl_u rfl (ow_cV rfl hb32 rfl (fun w hw => c_impl_FlowValid N _ _ hx12 w (Lay.at_ h_f_steps hw)) rfl rfl (kk_wl ?_))
  refine wl_u rfl (ow_y (yh_not rfl rfl) rfl rfl (kk_wl ?_))
  refine wl_nil ?_
  refine ex_seq ?_
  refine cw_split rfl (fun c1 => ?_) (fun c1 => ?_)
  · skip
    replace h := bt c1 h
    refine cw_seq ?_
    refine cw_region ?_
    refine wl_u rfl (ow_y (yh_build [.int .i64 0, .slice none 0 0] rfl rfl (by kernel_rfl)) rfl rfl (kk_wl ?_))
    refine wl_u rfl (ow_storeA Tb (k := 0) rfl rfl rfl rfl rfl rfl rfl rfl rfl (kk_wl ?_))
    refine wl_u rfl (ow_y (yh_assign rfl rfl) rfl rfl (kk_wl ?_))
    refine wl_nil ?_
    refine ex_seq ?_
    refine cw_ret ?_
    refine ex_then_ret ?_
    refine ex_nilS stepsL rfl ?_
    obtain rfl := Option.some.inj h
    exact ex_r2 Tb rfl (.cellA 1 rfl rfl rfl rfl rfl) (.tmp rfl) (fun wq hq => ⟨_, rfl, hq.ext, ⟨none, 0, [], rfl, NewC.sel [0] hq rfl⟩⟩)
  · skip
    replace h := bf c1 h
    refine cw_skip ?_
    refine ex_seq ?_
    refine cw_seq ?_
    refine cw_region ?_
    refine wl_u rfl (ow_y (yh_loadBA Tb (k := 1) rfl rfl rfl rfl rfl rfl) rfl rfl (kk_wl ?_))
    obtain ⟨x16, hx16, h⟩ := bd h
    refine wl_u rfl (ow_cN1 rfl hb48 rfl (fun w hw => c_impl_Flow_clone N _ _ hx16 w (Lay.at_ h_f_steps hw)) rfl rfl (fun a16 c16 F16 => kk_wl ?_))
    refine wl_u rfl (ow_allocA Tb rfl rfl rfl rfl (fun g6 => kk_wl ?_))
    refine wl_u rfl (ow_storeA Tb (k := 0) rfl rfl rfl rfl rfl rfl rfl rfl rfl (kk_wl ?_))
    refine wl_nil ?_
    refine ex_seq ?_
    refine cw_seq ?_
    refine cw_seq ?_
    refine cw_region ?_
    refine wl_u rfl (ow_y (yh_move rfl rfl) rfl rfl (kk_wl ?_))
    refine wl_u rfl (ow_y (yh_lenS Tb rfl rfl rfl rfl) rfl rfl (kk_wl ?_))
    refine wl_u rfl (ow_y (yh_move rfl rfl) rfl rfl (kk_wl ?_))
    refine wl_nil ?_
    refine ex_seq ?_
    refine cw_block ?_
    obtain ⟨e8, he8, hk8⟩ := bd h
    clear h
    refine cw_loopG (σ := Nat × Int × (List Step) × Nat × (Option Addr) × Nat × (List Nat)) (fun s => m_impl_FlowChanges_L8 N list_ s.1 s.2.1 s.2.2.1 s.2.2.2.1 = some e8) (fun s => [(4, .pointer (some ⟨g4, 0, none⟩)), (6, .pointer (some ⟨g6, 0, none⟩)), (17, .slice a_list_ list_.length c_list_), (18, .int .i64 ((list_.length : Nat) : Int)), (19, .int .i64 ((s.2.2.2.1 : Nat) : Int))]) (fun s => [blkC g4 25 [.int .i64 0, .slice none 0 0], blkC g6 25 [.int .i64 s.2.1, .slice s.2.2.2.2.1 s.2.2.1.length s.2.2.2.2.2.1], owC stepsL s.2.2.2.2.2.2 [.slice s.2.2.2.2.1 s.2.2.1.length s.2.2.2.2.2.1] s.2.2.1]) (fun s => s.1) (N, x16.ver, x16.steps, 0, a16, c16, F16) [2, 0, 1] he8 ⟨rfl, rfl, rfl, rfl, rfl, trivial⟩ rfl (fun KL s he8 hn8 => ?_)
    obtain ⟨n8, s6_c_0, s6_c_1, s19, as6_c_1, cs6_c_1, Fs6_c_1⟩ := s
    simp only at he8 hn8 ⊢
    rcases n8 with _ | n8
    · exact nosome he8
    have h := he8; rw [m_impl_FlowChanges_L8] at h
    refine cw_seq ?_
    refine cw_region ?_
    refine wl_u rfl (ow_y (yh_cmpI rfl rfl rfl rfl) rfl rfl (kk_wl ?_))
    refine wl_nil ?_
    refine ex_seq ?_
    refine cw_seq ?_
    refine cw_split rfl (fun c2 => ?_) (fun c2 => ?_)
    · skip
      replace h := bt c2 h
      have q1 := ltb_true.1 c2
      refine cw_skip ?_
      refine ex_seq ?_
      refine cw_seq ?_
      refine cw_block ?_
      refine cw_seq ?_
      refine cw_region ?_
      obtain ⟨y21, hy21, h⟩ := bd h
      obtain ⟨b21, o21, ha21⟩ := sl_addr h_list_ hy21
      subst ha21
      obtain ⟨a21, e21, hc21, hf21⟩ := get_change h_list_ hy21
      have mx21 := rd_max hf21
      refine wl_u rfl (ow_y (yh_idx Tb (k := s19) rfl rfl rfl rfl (get_lt hy21) rfl rfl) rfl rfl (kk_wl ?_))
      refine wl_u rfl (ow_y (yh_loadAN Tb rfl rfl rfl rfl hc21 rfl) rfl rfl (kk_wl ?_))
      refine wl_u rfl (ow_allocA Tb rfl rfl rfl rfl (fun g8 => kk_wl ?_))
      refine wl_u rfl (ow_storeA Tb (k := 0) rfl rfl rfl rfl rfl rfl rfl rfl rfl (kk_wl ?_))
      refine wl_nil ?_
      refine ex_seq ?_
      refine cw_seq ?_
      refine cw_region ?_
      refine wl_u rfl (ow_y (yh_loadBA Tb (k := 2) rfl rfl rfl rfl rfl rfl) rfl rfl (kk_wl ?_))
      refine wl_u rfl (ow_y (yh_loadBA Tb (k := 0) rfl rfl rfl rfl rfl rfl) rfl rfl (kk_wl ?_))
      obtain ⟨x26, hx26, h⟩ := bd h
      refine wl_u rfl (ow_cN1 rfl hb27 rfl (fun w hw => c_impl_FlowChange N _ _ _ hx26 w (rdo (A := stepsL) 3 rfl hw) (Lay.at_ hf21 hw)) rfl rfl (fun a26 c26 F26 => kk_wl ?_))
      refine wl_u rfl (ow_y (yh_move rfl rfl) rfl rfl (kk_wl ?_))
      refine wl_u rfl (ow_y (yh_extract rfl rfl rfl) rfl rfl (kk_wl ?_))
      refine wl_u rfl (ow_y (yh_extract rfl rfl rfl) rfl rfl (kk_wl ?_))
      refine wl_u rfl (ow_allocA Tb rfl rfl rfl rfl (fun g9 => kk_wl ?_))
      refine wl_u rfl (ow_storeA Tb (k := 0) rfl rfl rfl rfl rfl rfl rfl rfl rfl (kk_wl ?_))
      refine wl_u rfl (ow_y (yh_assign rfl rfl) rfl rfl (kk_wl ?_))
      refine wl_nil ?_
      refine ex_seq ?_
      refine cw_seq ?_
      refine cw_seq ?_
      refine cw_region ?_
      refine wl_u rfl (ow_y (yh_move rfl rfl) rfl rfl (kk_wl ?_))
      refine wl_u rfl (ow_y (yh_not rfl rfl) rfl rfl (kk_wl ?_))
      refine wl_nil ?_
      refine ex_seq ?_
      refine cw_split rfl (fun c3 => ?_) (fun c3 => ?_)
      · skip
        replace h := bt c3 h
        refine cw_seq ?_
        refine cw_region ?_
        refine wl_u rfl (ow_y (yh_build [.int .i64 0, .slice none 0 0] rfl rfl (by kernel_rfl)) rfl rfl (kk_wl ?_))
        refine wl_u rfl (ow_storeA Tb (k := 3) rfl rfl rfl rfl rfl rfl rfl rfl rfl (kk_wl ?_))
        refine wl_u rfl (ow_y (yh_assign rfl rfl) rfl rfl (kk_wl ?_))
        refine wl_nil ?_
        refine ex_seq ?_
        refine cw_ret ?_
        refine ex_then_ret ?_
        refine ex_block_ret ?_
        refine ex_then_ret ?_
        refine ex_then_ret ?_
        refine ex_block_ret ?_
        refine ex_then_ret ?_
        refine ex_nilS stepsL rfl ?_
        obtain rfl := Option.some.inj h
        obtain rfl := go_ret hk8
        exact ex_r2 Tb rfl (.cellA 1 rfl rfl rfl rfl rfl) (.tmp rfl) (fun wq hq => ⟨_, rfl, hq.ext, ⟨none, 0, [], rfl, NewC.sel [0] hq rfl⟩⟩)
      · skip
        replace h := bf c3 h
        refine cw_skip ?_
        refine ex_seq ?_
        refine cw_region ?_
        refine wl_u rfl (ow_y (yh_loadBA Tb (k := 0) rfl rfl rfl rfl rfl rfl) rfl rfl (kk_wl ?_))
        refine wl_u rfl (ow_storeA Tb (k := 4) rfl rfl rfl rfl rfl rfl rfl rfl rfl (kk_wl ?_))
        refine wl_nil ?_
        refine ex_block_normal ?_
        refine ex_seq ?_
        refine cw_region ?_
        refine wl_u rfl (ow_y (yh_arI rfl rfl rfl rfl (by omega)) rfl rfl (kk_wl ?_))
        refine wl_u rfl (ow_y (yh_move rfl rfl) rfl rfl (kk_wl ?_))
        refine wl_nil ?_
        exact ex_next [4, 0, 2] (hn8 (n8, x26.1.ver, x26.1.steps, s19 + 1, a26, c26, F26) (Nat.lt_succ_self _) h) ⟨rfl, rfl, rfl, rfl, rfl, trivial⟩ (by kernel_rfl)
    · skip
      replace h := bf c2 h
      have q2 := ltb_false.1 c2
      refine cw_exit ?_
      refine ex_then_exit ?_
      refine ex_then_exit ?_
      obtain rfl := Option.some.inj h
      have h := go_brk hk8
      refine ex_block_exit ?_
      refine ex_seq ?_
      refine cw_seq ?_
      refine cw_region ?_
      refine wl_u rfl (ow_y (yh_loadBA Tb (k := 1) rfl rfl rfl rfl rfl rfl) rfl rfl (kk_wl ?_))
      refine wl_u rfl (ow_storeA Tb (k := 0) rfl rfl rfl rfl rfl rfl rfl rfl rfl (kk_wl ?_))
      refine wl_u rfl (ow_y (yh_assign rfl rfl) rfl rfl (kk_wl ?_))
      refine wl_nil ?_
      refine ex_seq ?_
      refine cw_ret ?_
      obtain rfl := Option.some.inj h
      exact ex_r2 Tb rfl (.cellA 0 rfl rfl rfl rfl rfl) (.tmp rfl) (fun wq hq => ⟨_, rfl, hq.ext, ⟨as6_c_1, cs6_c_1, Fs6_c_1, rfl, NewC.sel [2] hq rfl⟩⟩)

def m_slices_EqualFunc_Step_L7 (N : Nat) (s1 : List Step) (s2 : List Step) (eq : Step → Step → Option Bool) : Nat → Nat → Option (Ex (Nat) (Bool))
  | 0, _ => none
  | n + 1, s17 => (bif ltb ((s17 : Nat) : Int) ((s1.length : Nat) : Int) then (s1[s17]?).bind fun y20 => (s2[s17]?).bind fun y24 => (eq y20 y24).bind fun x29 => (bif !x29 then some (Ex.ret false)
 else m_slices_EqualFunc_Step_L7 N s1 s2 eq n (s17 + 1))
 else some (Ex.brk (s17)))

def m_slices_EqualFunc_Step (N : Nat) (s1 : List Step) (s2 : List Step) (eq : Step → Step → Option Bool) : Option (Bool) := (bif !(eqb ((s1.length : Nat) : Int) ((s2.length : Nat) : Int)) then some false
 else (m_slices_EqualFunc_Step_L7 N s1 s2 eq N 0).bind fun e7 => e7.go (fun r => r) fun b7 => some true)

set_option maxHeartbeats 4000000 in
theorem c_slices_EqualFunc_Step (N : Nat) (s1 : List Step) (s2 : List Step) (eq : Step → Step → Option Bool) (res : Bool) (h : m_slices_EqualFunc_Step N s1 s2 eq = some res) (w : World) {a_s1 a_s2 : Option Addr} {c_s1 c_s2 : Nat} {k_eq : FuncId} {caps_eq : List Value} (h_s1 : stepsL.rd w [] [.slice a_s1 s1.length c_s1] s1) (h_s2 : stepsL.rd w [] [.slice a_s2 s2.length c_s2] s2) (hb_eq : hasBody Tryz.prog k_eq) (hf_eq : ∀ x0 x1 b, eq x0 x1 = some b → ∀ w', ExtM [] w w' → ∀ a1 c1 a2 c2, strsL.rd w' [] [.slice a1 x0.after.length c1] x0.after → strsL.rd w' [] [.slice a2 x1.after.length c2] x1.after → Ret Tryz.prog k_eq ([.agg #[.string x0.name, .slice a1 x0.after.length c1, .bool x0.undo], .agg #[.string x1.name, .slice a2 x1.after.length c2, .bool x1.undo]] ++ caps_eq) w' [] fun v _ => v = .bool b) : Ret Tryz.prog 49 [.slice a_s1 s1.length c_s1, .slice a_s2 s2.length c_s2, .func (.func k_eq) #[] caps_eq.toArray] w [] fun v w' => v = .bool res := by
  have mh_s1 := rd_max h_s1
  have mh_s2 := rd_max h_s2
  unfold m_slices_EqualFunc_Step at h
  refine ret_enter Tryz.func49 rfl Tryz.ntmps49 rfl (Hp.refl w _) ?_
  refine cw_seq ?_
  refine cw_region ?_
  refine wl_u rfl (ow_y (yh_assign rfl rfl) rfl rfl (kk_wl ?_))
  refine wl_nil ?_
  refine ex_seq ?_
  refine cw_seq ?_
  refine cw_seq ?_
  refine cw_region ?_
  refine wl_u rfl (ow_y (yh_move rfl rfl) rfl rfl (kk_wl ?_))
  refine wl_u rfl (ow_y (yh_lenS Tb rfl rfl rfl rfl) rfl rfl (kk_wl ?_))
  refine wl_u rfl (ow_y (yh_move rfl rfl) rfl rfl (kk_wl ?_))
  refine wl_u rfl (ow_y (yh_lenS Tb rfl rfl rfl rfl) rfl rfl (kk_wl ?_))
  refine wl_u rfl (ow_y (yh_cmpI rfl rfl rfl rfl) rfl rfl (kk_wl ?_))
  refine wl_nil ?_
  refine ex_seq ?_
  refine cw_split rfl (fun c1 => ?_) (fun c1 => ?_)
  · skip
    replace h := bt c1 h
    have q1 := eqb_false.1 (nt c1)
    refine cw_seq ?_
    refine cw_region ?_
    refine wl_u rfl (ow_y (yh_assign rfl rfl) rfl rfl (kk_wl ?_))
    refine wl_nil ?_
    refine ex_seq ?_
    refine cw_ret ?_
    refine ex_then_ret ?_
    obtain rfl := Option.some.inj h
    exact ex_r1 Tb rfl (.tmp rfl) (fun wq hq => ⟨_, rfl, hq.ext, rfl⟩)
  · skip
    replace h := bf c1 h
    have q2 := eqb_true.1 (nf c1)
    refine cw_skip ?_
    refine ex_seq ?_
    refine cw_seq ?_
    refine cw_seq ?_
    refine cw_region ?_
    refine wl_u rfl (ow_y (yh_move rfl rfl) rfl rfl (kk_wl ?_))
    refine wl_u rfl (ow_y (yh_lenS Tb rfl rfl rfl rfl) rfl rfl (kk_wl ?_))
    refine wl_u rfl (ow_y (yh_move rfl rfl) rfl rfl (kk_wl ?_))
    refine wl_nil ?_
    refine ex_seq ?_
    refine cw_block ?_
    obtain ⟨e7, he7, hk7⟩ := bd h
    clear h
    refine cw_loopG (σ := Nat × Nat) (fun s => m_slices_EqualFunc_Step_L7 N s1 s2 eq s.1 s.2 = some e7) (fun s => [(1, .slice a_s2 s2.length c_s2), (2, .func (.func k_eq) #[] caps_eq.toArray), (15, .slice a_s1 s1.length c_s1), (16, .int .i64 ((s1.length : Nat) : Int)), (17, .int .i64 ((s.2 : Nat) : Int))]) (fun s => []) (fun s => s.1) (N, 0) [] he7 ⟨rfl, rfl, rfl, rfl, rfl, trivial⟩ rfl (fun KL s he7 hn7 => ?_)
    obtain ⟨n7, s17⟩ := s
    simp only at he7 hn7 ⊢
    rcases n7 with _ | n7
    · exact nosome he7
    have h := he7; rw [m_slices_EqualFunc_Step_L7] at h
    refine cw_seq ?_
    refine cw_region ?_
    refine wl_u rfl (ow_y (yh_cmpI rfl rfl rfl rfl) rfl rfl (kk_wl ?_))
    refine wl_nil ?_
    refine ex_seq ?_
    refine cw_seq ?_
    refine cw_split rfl (fun c2 => ?_) (fun c2 => ?_)
    · skip
      replace h := bt c2 h
      have q3 := ltb_true.1 c2
      refine cw_skip ?_
      refine ex_seq ?_
      refine cw_seq ?_
      refine cw_block ?_
      refine cw_seq ?_
      refine cw_region ?_
      refine wl_u rfl (ow_y (yh_move rfl rfl) rfl rfl (kk_wl ?_))
      obtain ⟨y20, hy20, h⟩ := bd h
      obtain ⟨b20, o20, ha20⟩ := sl_addr h_s1 hy20
      subst ha20
      obtain ⟨a20, e20, hc20, hf20⟩ := get_step h_s1 hy20
      have mx20 := rd_max hf20
      refine wl_u rfl (ow_y (yh_idx Tb (k := s17) rfl rfl rfl rfl (get_lt hy20) rfl rfl) rfl rfl (kk_wl ?_))
      refine wl_u rfl (ow_y (yh_loadAN Tb rfl rfl rfl rfl hc20 rfl) rfl rfl (kk_wl ?_))
      refine wl_u rfl (ow_allocA Tb rfl rfl rfl rfl (fun g8 => kk_wl ?_))
      refine wl_u rfl (ow_y (yh_assign rfl rfl) rfl rfl (kk_wl ?_))
      refine wl_u rfl (ow_storeA Tb (k := 0) rfl rfl rfl rfl rfl rfl rfl rfl rfl (kk_wl ?_))
      refine wl_nil ?_
      refine ex_seq ?_
      refine cw_seq ?_
      refine cw_region ?_
      refine wl_u rfl (ow_y (yh_move rfl rfl) rfl rfl (kk_wl ?_))
      refine wl_u rfl (ow_y (yh_move rfl rfl) rfl rfl (kk_wl ?_))
      obtain ⟨y24, hy24, h⟩ := bd h
      obtain ⟨b24, o24, ha24⟩ := sl_addr h_s2 hy24
      subst ha24
      obtain ⟨a24, e24, hc24, hf24⟩ := get_step h_s2 hy24
      have mx24 := rd_max hf24
      refine wl_u rfl (ow_y (yh_idx Tb (k := s17) rfl rfl rfl rfl (get_lt hy24) rfl rfl) rfl rfl (kk_wl ?_))
      refine wl_u rfl (ow_y (yh_loadAN Tb rfl rfl rfl rfl hc24 rfl) rfl rfl (kk_wl ?_))
      refine wl_u rfl (ow_allocA Tb rfl rfl rfl rfl (fun g9 => kk_wl ?_))
      refine wl_u rfl (ow_storeA Tb (k := 0) rfl rfl rfl rfl rfl rfl rfl rfl rfl (kk_wl ?_))
      refine wl_nil ?_
      refine ex_seq ?_
      refine cw_seq ?_
      refine cw_region ?_
      refine wl_u rfl (ow_y (yh_move rfl rfl) rfl rfl (kk_wl ?_))
      refine wl_u rfl (ow_y (yh_loadBA Tb (k := 1) rfl rfl rfl rfl rfl rfl) rfl rfl (kk_wl ?_))
      refine wl_u rfl (ow_y (yh_loadBA Tb (k := 0) rfl rfl rfl rfl rfl rfl) rfl rfl (kk_wl ?_))
      obtain ⟨x29, hx29, h⟩ := bd h
      refine wl_u rfl (ow_callV rfl rfl hb_eq rfl rfl (fun w hw => hf_eq _ _ _ hx29 w hw.ext _ _ _ _ (Lay.at_ hf20 hw) (Lay.at_ hf24 hw)) rfl rfl (kk_wl ?_))
      refine wl_u rfl (ow_y (yh_not rfl rfl) rfl rfl (kk_wl ?_))
      refine wl_nil ?_
      refine ex_seq ?_
      refine cw_split rfl (fun c3 => ?_) (fun c3 => ?_)
      · skip
        replace h := bt c3 h
        refine cw_seq ?_
        refine cw_region ?_
        refine wl_u rfl (ow_y (yh_assign rfl rfl) rfl rfl (kk_wl ?_))
        refine wl_nil ?_
        refine ex_seq ?_
        refine cw_ret ?_
        refine ex_block_ret ?_
        refine ex_then_ret ?_
        refine ex_then_ret ?_
        refine ex_block_ret ?_
        refine ex_then_ret ?_
        obtain rfl := Option.some.inj h
        obtain rfl := go_ret hk7
        exact ex_r1 Tb rfl (.tmp rfl) (fun wq hq => ⟨_, rfl, hq.ext, rfl⟩)
      · skip
        replace h := bf c3 h
        refine cw_skip ?_
        refine ex_block_normal ?_
        refine ex_seq ?_
        refine cw_region ?_
        refine wl_u rfl (ow_y (yh_arI rfl rfl rfl rfl (by omega)) rfl rfl (kk_wl ?_))
        refine wl_u rfl (ow_y (yh_move rfl rfl) rfl rfl (kk_wl ?_))
        refine wl_nil ?_
        exact ex_next [] (hn7 (n7, s17 + 1) (Nat.lt_succ_self _) h) ⟨rfl, rfl, rfl, rfl, rfl, trivial⟩ (by kernel_rfl)
    · skip
      replace h := bf c2 h
      have q4 := ltb_false.1 c2
      refine cw_exit ?_
      refine ex_then_exit ?_
      refine ex_then_exit ?_
      obtain rfl := Option.some.inj h
      have h := go_brk hk7
      refine ex_block_exit ?_
      refine ex_seq ?_
      refine cw_seq ?_
      refine cw_region ?_
      refine wl_u rfl (ow_y (yh_assign rfl rfl) rfl rfl (kk_wl ?_))
      refine wl_nil ?_
      refine ex_seq ?_
      refine cw_ret ?_
      obtain rfl := Option.some.inj h
      exact ex_r1 Tb rfl (.tmp rfl) (fun wq hq => ⟨_, rfl, hq.ext, rfl⟩)

def m_impl_Step_same (N : Nat) (s_ : Step) (t : Step) : Option (Bool) := (bif seq s_.name t.name then (bif s_.undo == t.undo then (m_slices_Equal_string N s_.after t.after).bind fun x22 => some x22
 else some false)
 else some false)

set_option maxHeartbeats 4000000 in
theorem c_impl_Step_same (N : Nat) (s_ : Step) (t : Step) (res : Bool) (h : m_impl_Step_same N s_ t = some res) (w : World) {a_s__after a_t_after : Option Addr} {c_s__after c_t_after : Nat} (h_s__after : strsL.rd w [] [.slice a_s__after s_.after.length c_s__after] s_.after) (h_t_after : strsL.rd w [] [.slice a_t_after t.after.length c_t_after] t.after) : Ret Tryz.prog 50 [.agg #[.string s_.name, .slice a_s__after s_.after.length c_s__after, .bool s_.undo], .agg #[.string t.name, .slice a_t_after t.after.length c_t_after, .bool t.undo]] w [] fun v w' => v = .bool res := by
  have mh_s__after := rd_max h_s__after
  have mh_t_after := rd_max h_t_after
  unfold m_impl_Step_same at h
  refine ret_enter Tryz.func50 rfl Tryz.ntmps50 rfl (Hp.refl w _) ?_
  refine cw_seq ?_
  refine cw_region ?_
  refine wl_u rfl (ow_boxA rfl rfl rfl rfl (fun g2 => kk_wl ?_))
  refine wl_u rfl (ow_boxA rfl rfl rfl rfl (fun g3 => kk_wl ?_))
  refine wl_u rfl (ow_y (yh_assign rfl rfl) rfl rfl (kk_wl ?_))
  refine wl_nil ?_
  refine ex_seq ?_
  refine cw_seq ?_
  refine cw_region ?_
  refine wl_u rfl (ow_y (yh_field Tb rfl rfl rfl) rfl rfl (kk_wl ?_))
  refine wl_u rfl (ow_y (yh_loadB Tb (k := 1) rfl rfl rfl rfl rfl) rfl rfl (kk_wl ?_))
  refine wl_u rfl (ow_y (yh_field Tb rfl rfl rfl) rfl rfl (kk_wl ?_))
  refine wl_u rfl (ow_y (yh_loadB Tb (k := 0) rfl rfl rfl rfl rfl) rfl rfl (kk_wl ?_))
  refine wl_u rfl (ow_y (yh_cmpS rfl rfl rfl rfl) rfl rfl (kk_wl ?_))
  refine wl_u rfl (ow_y (yh_move rfl rfl) rfl rfl (kk_wl ?_))
  refine wl_s rfl rfl (fun c1 => ?_) (fun c1 => ?_)
  · skip
    replace h := bt c1 h
    refine wl_g rfl rfl (ow_y (yh_field Tb rfl rfl rfl) rfl rfl (kk_wl ?_))
    refine wl_g rfl rfl (ow_y (yh_loadB Tb (k := 1) rfl rfl rfl rfl rfl) rfl rfl (kk_wl ?_))
    refine wl_g rfl rfl (ow_y (yh_field Tb rfl rfl rfl) rfl rfl (kk_wl ?_))
    refine wl_g rfl rfl (ow_y (yh_loadB Tb (k := 0) rfl rfl rfl rfl rfl) rfl rfl (kk_wl ?_))
    refine wl_g rfl rfl (ow_y (yh_cmpB rfl rfl rfl rfl (by kernel_rfl)) rfl rfl (kk_wl ?_))
    refine wl_u rfl (ow_y (yh_pickT rfl rfl rfl) rfl rfl (kk_wl ?_))
    refine wl_u rfl (ow_y (yh_move rfl rfl) rfl rfl (kk_wl ?_))
    refine wl_s rfl rfl (fun c2 => ?_) (fun c2 => ?_)
    · skip
      replace h := bt c2 h
      refine wl_g rfl rfl (ow_y (yh_field Tb rfl rfl rfl) rfl rfl (kk_wl ?_))
      refine wl_g rfl rfl (ow_y (yh_loadB Tb (k := 1) rfl rfl rfl rfl rfl) rfl rfl (kk_wl ?_))
      refine wl_g rfl rfl (ow_y (yh_field Tb rfl rfl rfl) rfl rfl (kk_wl ?_))
      refine wl_g rfl rfl (ow_y (yh_loadB Tb (k := 0) rfl rfl rfl rfl rfl) rfl rfl (kk_wl ?_))
      obtain ⟨x22, hx22, h⟩ := bd h
      refine wl_g rfl rfl (ow_cV rfl hb39 rfl (fun w hw => c_slices_Equal_string N _ _ _ hx22 w (Lay.at_ h_s__after hw) (Lay.at_ h_t_after hw)) rfl rfl (kk_wl ?_))
      refine wl_u rfl (ow_y (yh_pickT rfl rfl rfl) rfl rfl (kk_wl ?_))
      refine wl_u rfl (ow_y (yh_assign rfl rfl) rfl rfl (kk_wl ?_))
      refine wl_nil ?_
      refine ex_seq ?_
      refine cw_ret ?_
      obtain rfl := Option.some.inj h
      exact ex_r1 Tb rfl (.tmp rfl) (fun wq hq => ⟨_, rfl, hq.ext, rfl⟩)
    · skip
      replace h := bf c2 h
      refine wl_n rfl rfl rfl rfl ?_
      refine wl_n rfl rfl rfl rfl ?_
      refine wl_n rfl rfl rfl rfl ?_
      refine wl_n rfl rfl rfl rfl ?_
      refine wl_n rfl rfl rfl rfl ?_
      refine wl_u rfl (ow_y (yh_pickF rfl rfl rfl) rfl rfl (kk_wl ?_))
      refine wl_u rfl (ow_y (yh_assign rfl rfl) rfl rfl (kk_wl ?_))
      refine wl_nil ?_
      refine ex_seq ?_
      refine cw_ret ?_
      obtain rfl := Option.some.inj h
      exact ex_r1 Tb rfl (.tmp rfl) (fun wq hq => ⟨_, rfl, hq.ext, rfl⟩)
  · skip
    replace h := bf c1 h
    refine wl_n rfl rfl rfl rfl ?_
    refine wl_n rfl rfl rfl rfl ?_
    refine wl_n rfl rfl rfl rfl ?_
    refine wl_n rfl rfl rfl rfl ?_
    refine wl_n rfl rfl rfl rfl ?_
    refine wl_u rfl (ow_y (yh_pickF rfl rfl rfl) rfl rfl (kk_wl ?_))
    refine wl_u rfl (ow_y (yh_move rfl rfl) rfl rfl (kk_wl ?_))
    refine wl_s rfl rfl nofun (fun _ => ?_)
    refine wl_n rfl rfl rfl rfl ?_
    refine wl_n rfl rfl rfl rfl ?_
    refine wl_n rfl rfl rfl rfl ?_
    refine wl_n rfl rfl rfl rfl ?_
    refine wl_n rfl rfl rfl rfl ?_
    refine wl_u rfl (ow_y (yh_pickF rfl rfl rfl) rfl rfl (kk_wl ?_))
    refine wl_u rfl (ow_y (yh_assign rfl rfl) rfl rfl (kk_wl ?_))
    refine wl_nil ?_
    refine ex_seq ?_
    refine cw_ret ?_
    obtain rfl := Option.some.inj h
    exact ex_r1 Tb rfl (.tmp rfl) (fun wq hq => ⟨_, rfl, hq.ext, rfl⟩)

def m_impl_FlowsSame (N : Nat) (f : Flow) (g : Flow) : Option (Bool) := (m_impl_FlowValid N f).bind fun x6 => (bif x6 then (m_impl_FlowValid N g).bind fun x9 => (bif x9 then (m_slices_EqualFunc_Step N f.steps g.steps (fun x0 x1 => m_impl_Step_same N x0 x1)).bind fun x16 => some x16
 else some false)
 else some false)

set_option maxHeartbeats 4000000 in
theorem c_impl_FlowsSame (N : Nat) (f : Flow) (g : Flow) (res : Bool) (h : m_impl_FlowsSame N f g = some res) (w : World) {a_f_steps a_g_steps : Option Addr} {c_f_steps c_g_steps : Nat} (h_f_steps : stepsL.rd w [] [.slice a_f_steps f.steps.length c_f_steps] f.steps) (h_g_steps : stepsL.rd w [] [.slice a_g_steps g.steps.length c_g_steps] g.steps) : Ret Tryz.prog 12 [.agg #[.int .i64 f.ver, .slice a_f_steps f.steps.length c_f_steps], .agg #[.int .i64 g.ver, .slice a_g_steps g.steps.length c_g_steps]] w [] fun v w' => v = .bool res := by
  have mh_f_steps := rd_max h_f_steps
  have mh_g_steps := rd_max h_g_steps
  unfold m_impl_FlowsSame at h
  refine ret_enter Tryz.func12 rfl Tryz.ntmps12 rfl (Hp.refl w _) ?_
  refine cw_seq ?_
  refine cw_region ?_
  refine wl_u rfl (ow_boxA rfl rfl rfl rfl (fun g2 => kk_wl ?_))
  refine wl_u rfl (ow_boxA rfl rfl rfl rfl (fun g3 => kk_wl ?_))
  refine wl_u rfl (ow_y (yh_assign rfl rfl) rfl rfl (kk_wl ?_))
  refine wl_nil ?_
  refine ex_seq ?_
  refine cw_seq ?_
  refine cw_region ?_
  refine wl_u rfl (ow_y (yh_loadBA Tb (k := 1) rfl rfl rfl rfl rfl rfl) rfl rfl (kk_wl ?_))
  obtain ⟨x6, hx6, h⟩ := bd h
  refine wl_u rfl (ow_cV rfl hb32 rfl (fun w hw => c_impl_FlowValid N _ _ hx6 w (Lay.at_ h_f_steps hw)) rfl rfl (kk_wl ?_))
  refine wl_u rfl (ow_y (yh_move rfl rfl) rfl rfl (kk_wl ?_))
  refine wl_s rfl rfl (fun c1 => ?_) (fun c1 => ?_)
  · skip
    replace h := bt c1 h
    refine wl_g rfl rfl (ow_y (yh_loadBA Tb (k := 0) rfl rfl rfl rfl rfl rfl) rfl rfl (kk_wl ?_))
    obtain ⟨x9, hx9, h⟩ := bd h
    refine wl_g rfl rfl (ow_cV rfl hb32 rfl (fun w hw => c_impl_FlowValid N _ _ hx9 w (Lay.at_ h_g_steps hw)) rfl rfl (kk_wl ?_))
    refine wl_u rfl (ow_y (yh_pickT rfl rfl rfl) rfl rfl (kk_wl ?_))
    refine wl_u rfl (ow_y (yh_move rfl rfl) rfl rfl (kk_wl ?_))
    refine wl_s rfl rfl (fun c2 => ?_) (fun c2 => ?_)
    · skip
      replace h := bt c2 h
      refine wl_g rfl rfl (ow_y (yh_field Tb rfl rfl rfl) rfl rfl (kk_wl ?_))
      refine wl_g rfl rfl (ow_y (yh_loadB Tb (k := 1) rfl rfl rfl rfl rfl) rfl rfl (kk_wl ?_))
      refine wl_g rfl rfl (ow_y (yh_field Tb rfl rfl rfl) rfl rfl (kk_wl ?_))
      refine wl_g rfl rfl (ow_y (yh_loadB Tb (k := 0) rfl rfl rfl rfl rfl) rfl rfl (kk_wl ?_))
      obtain ⟨x16, hx16, h⟩ := bd h
      refine wl_g rfl rfl (ow_cV rfl hb49 rfl (fun w hw => c_slices_EqualFunc_Step N _ _ _ _ hx16 w (Lay.at_ h_f_steps hw) (Lay.at_ h_g_steps hw) hb50 (fun x0 x1 b hb w' hE a1 c1 a2 c2 h1 h2 => c_impl_Step_same N x0 x1 b hb w' h1 h2)) rfl rfl (kk_wl ?_))
      refine wl_u rfl (ow_y (yh_pickT rfl rfl rfl) rfl rfl (kk_wl ?_))
      refine wl_u rfl (ow_y (yh_assign rfl rfl) rfl rfl (kk_wl ?_))
      refine wl_nil ?_
      refine ex_seq ?_
      refine cw_ret ?_
      obtain rfl := Option.some.inj h
      exact ex_r1 Tb rfl (.tmp rfl) (fun wq hq => ⟨_, rfl, hq.ext, rfl⟩)
    · skip
      replace h := bf c2 h
      refine wl_n rfl rfl rfl rfl ?_
      refine wl_n rfl rfl rfl rfl ?_
      refine wl_n rfl rfl rfl rfl ?_
      refine wl_n rfl rfl rfl rfl ?_
      refine wl_n rfl rfl rfl rfl ?_
      refine wl_u rfl (ow_y (yh_pickF rfl rfl rfl) rfl rfl (kk_wl ?_))
      refine wl_u rfl (ow_y (yh_assign rfl rfl) rfl rfl (kk_wl ?_))
      refine wl_nil ?_
      refine ex_seq ?_
      refine cw_ret ?_
      obtain rfl := Option.some.inj h
      exact ex_r1 Tb rfl (.tmp rfl) (fun wq hq => ⟨_, rfl, hq.ext, rfl⟩)
  · skip
    replace h := bf c1 h
    refine wl_n rfl rfl rfl rfl ?_
    refine wl_n rfl rfl rfl rfl ?_
    refine wl_u rfl (ow_y (yh_pickF rfl rfl rfl) rfl rfl (kk_wl ?_))
    refine wl_u rfl (ow_y (yh_move rfl rfl) rfl rfl (kk_wl ?_))
    refine wl_s rfl rfl nofun (fun _ => ?_)
    refine wl_n rfl rfl rfl rfl ?_
    refine wl_n rfl rfl rfl rfl ?_
    refine wl_n rfl rfl rfl rfl ?_
    refine wl_n rfl rfl rfl rfl ?_
    refine wl_n rfl rfl rfl rfl ?_
    refine wl_u rfl (ow_y (yh_pickF rfl rfl rfl) rfl rfl (kk_wl ?_))
    refine wl_u rfl (ow_y (yh_assign rfl rfl) rfl rfl (kk_wl ?_))
    refine wl_nil ?_
    refine ex_seq ?_
    refine cw_ret ?_
    obtain rfl := Option.some.inj h
    exact ex_r1 Tb rfl (.tmp rfl) (fun wq hq => ⟨_, rfl, hq.ext, rfl⟩)

def m_laws_FnChangesOf (N : Nat) (u0 : List UInt8) : Option (Bool) := (bif ltb 1048576 ((u0.length : Nat) : Int) then some true
 else (m_spec_DrawChangesOf N u0).bind fun x16 => (m_impl_ChangesOf N x16.1 x16.2).bind fun x22 => (m_spec_ChangesOf N x16.1 x16.2).bind fun x28 => (bif x22.2 != x28.2 then (bif x22.2 == x28.2 then (m_laws_sameChanges N x22.1 x28.1).bind fun x50 => some x50
 else some false)
 else (m_laws_sameChanges N x22.1 x28.1).bind fun x37 => (bif !x37 then (bif x22.2 == x28.2 then (m_laws_sameChanges N x22.1 x28.1).bind fun x50 => some x50
 else some false)
 else (bif !x22.2 then (bif x22.2 == x28.2 then (m_laws_sameChanges N x22.1 x28.1).bind fun x50 => some x50
 else some false)
 else (m_impl_FlowChanges N x16.1 x22.1).bind fun x55 => (bif ltb 99 (w64 (x16.1.ver + ((x22.1.length : Nat) : Int))) then some (!x55.2)
 else (bif x55.2 then (m_impl_FlowsSame N x55.1 x16.2).bind fun x70 => some x70
 else some false))))))

set_option maxHeartbeats 4000000 in
theorem c_laws_FnChangesOf (N : Nat) (u0 : List UInt8) (res : Bool) (h : m_laws_FnChangesOf N u0 = some res) (w : World) {a_u0 : Option Addr} {c_u0 : Nat} (h_u0 : bytesL.rd w [] [.slice a_u0 u0.length c_u0] u0) : Ret Tryz.prog 3 [.slice a_u0 u0.length c_u0] w [] fun v w' => v = .bool res := by
  have mh_u0 := rd_max h_u0
  unfold m_laws_FnChangesOf at h
  refine ret_enter Tryz.func3 rfl Tryz.ntmps3 rfl (Hp.refl w _) ?_
  refine cw_seq ?_
  refine cw_region ?_
  refine wl_u rfl (ow_y (yh_assign rfl rfl) rfl rfl (kk_wl ?_))
  refine wl_nil ?_
  refine ex_seq ?_
  refine cw_seq ?_
  refine cw_seq ?_
  refine cw_region ?_
  refine wl_u rfl (ow_y (yh_move rfl rfl) rfl rfl (kk_wl ?_))
  refine wl_u rfl (ow_y (yh_lenS Tb rfl rfl rfl rfl) rfl rfl (kk_wl ?_))
  refine wl_u rfl (ow_y (yh_cmpI rfl rfl rfl rfl) rfl rfl (kk_wl ?_))
  refine wl_nil ?_
  refine ex_seq ?_
  refine cw_split rfl (fun c1 => ?_) (fun c1 => ?_)
  · skip
    replace h := bt c1 h
    have q1 := ltb_true.1 c1
    refine cw_seq ?_
    refine cw_region ?_
    refine wl_u rfl (ow_y (yh_assign rfl rfl) rfl rfl (kk_wl ?_))
    refine wl_nil ?_
    refine ex_seq ?_
    refine cw_ret ?_
    refine ex_then_ret ?_
    obtain rfl := Option.some.inj h
    exact ex_r1 Tb rfl (.tmp rfl) (fun wq hq => ⟨_, rfl, hq.ext, rfl⟩)
  · skip
    replace h := bf c1 h
    have q2 := ltb_false.1 c1
    refine cw_skip ?_
    refine ex_seq ?_
    refine cw_seq ?_
    refine cw_region ?_
    refine wl_u rfl (ow_y (yh_move rfl rfl) rfl rfl (kk_wl ?_))
    obtain ⟨x16, hx16, h⟩ := bd h
    refine wl_u rfl (ow_cN2 rfl hb7 rfl (fun w hw => c_spec_DrawChangesOf N _ _ hx16 w (Lay.at_ h_u0 hw)) rfl rfl (fun a16 c16 F16 a16_2 c16_2 F16_2 => kk_wl ?_))
    refine wl_u rfl (ow_y (yh_move rfl rfl) rfl rfl (kk_wl ?_))
    refine wl_u rfl (ow_y (yh_extract rfl rfl rfl) rfl rfl (kk_wl ?_))
    refine wl_u rfl (ow_y (yh_extract rfl rfl rfl) rfl rfl (kk_wl ?_))
    refine wl_u rfl (ow_allocA Tb rfl rfl rfl rfl (fun g3 => kk_wl ?_))
    refine wl_u rfl (ow_allocA Tb rfl rfl rfl rfl (fun g4 => kk_wl ?_))
    refine wl_u rfl (ow_storeA Tb (k := 1) rfl rfl rfl rfl rfl rfl rfl rfl rfl (kk_wl ?_))
    refine wl_u rfl (ow_storeA Tb (k := 1) rfl rfl rfl rfl rfl rfl rfl rfl rfl (kk_wl ?_))
    refine wl_nil ?_
    refine ex_seq ?_
    refine cw_seq ?_
    refine cw_freeze 2 rfl (fun w1 M1 hb1_ hz1 => ?_)
    replace h_u0 := Lay.rb h_u0 hb1_
    have hB1 := hb1_
    have mz1 := rd_max hz1
    refine cw_freeze 2 rfl (fun w2 M2 hb2_ hz2 => ?_)
    replace h_u0 := Lay.rb h_u0 hb2_
    replace hz1 := Lay.rb hz1 hb2_
    have hB2 := hB1.trans hb2_
    have mz2 := rd_max hz2
    refine cw_region ?_
    refine wl_u rfl (ow_y (yh_loadBA Tb (k := 1) rfl rfl rfl rfl rfl rfl) rfl rfl (kk_wl ?_))
    refine wl_u rfl (ow_y (yh_loadBA Tb (k := 0) rfl rfl rfl rfl rfl rfl) rfl rfl (kk_wl ?_))
    obtain ⟨x22, hx22, h⟩ := bd h
    refine wl_u rfl (ow_cN1 rfl hb8 rfl (fun w hw => c_impl_ChangesOf N _ _ _ hx22 w (Lay.at_ hz1 hw) (Lay.at_ hz2 hw)) rfl rfl (fun a22 c22 F22 => kk_wl ?_))
    refine wl_u rfl (ow_y (yh_move rfl rfl) rfl rfl (kk_wl ?_))
    refine wl_u rfl (ow_y (yh_extract rfl rfl rfl) rfl rfl (kk_wl ?_))
    refine wl_u rfl (ow_y (yh_extract rfl rfl rfl) rfl rfl (kk_wl ?_))
    refine wl_u rfl (ow_y (yh_assign rfl rfl) rfl rfl (kk_wl ?_))
    refine wl_u rfl (ow_y (yh_assign rfl rfl) rfl rfl (kk_wl ?_))
    refine wl_nil ?_
    refine ex_seq ?_
    refine cw_seq ?_
    refine cw_freeze 0 rfl (fun w3 M3 hb3_ hz3 => ?_)
    replace h_u0 := Lay.rb h_u0 hb3_
    replace hz1 := Lay.rb hz1 hb3_
    replace hz2 := Lay.rb hz2 hb3_
    have hB3 := hB2.trans hb3_
    have mz3 := rd_max hz3
    refine cw_region ?_
    refine wl_u rfl (ow_y (yh_loadBA Tb (k := 1) rfl rfl rfl rfl rfl rfl) rfl rfl (kk_wl ?_))
    refine wl_u rfl (ow_y (yh_loadBA Tb (k := 0) rfl rfl rfl rfl rfl rfl) rfl rfl (kk_wl ?_))
    obtain ⟨x28, hx28, h⟩ := bd h
    refine wl_u rfl (ow_cN1 rfl hb9 rfl (fun w hw => c_spec_ChangesOf N _ _ _ hx28 w (Lay.at_ hz1 hw) (Lay.at_ hz2 hw)) rfl rfl (fun a28 c28 F28 => kk_wl ?_))
    refine wl_u rfl (ow_y (yh_move rfl rfl) rfl rfl (kk_wl ?_))
    refine wl_u rfl (ow_y (yh_extract rfl rfl rfl) rfl rfl (kk_wl ?_))
    refine wl_u rfl (ow_y (yh_extract rfl rfl rfl) rfl rfl (kk_wl ?_))
    refine wl_u rfl (ow_y (yh_assign rfl rfl) rfl rfl (kk_wl ?_))
    refine wl_u rfl (ow_y (yh_assign rfl rfl) rfl rfl (kk_wl ?_))
    refine wl_nil ?_
    refine ex_seq ?_
    refine cw_seq ?_
    refine cw_seq ?_
    refine cw_freeze 0 rfl (fun w4 M4 hb4_ hz4 => ?_)
    replace h_u0 := Lay.rb h_u0 hb4_
    replace hz1 := Lay.rb hz1 hb4_
    replace hz2 := Lay.rb hz2 hb4_
    replace hz3 := Lay.rb hz3 hb4_
    have hB4 := hB3.trans hb4_
    have mz4 := rd_max hz4
    refine cw_region ?_
    refine wl_u rfl (ow_y (yh_move rfl rfl) rfl rfl (kk_wl ?_))
    refine wl_u rfl (ow_y (yh_move rfl rfl) rfl rfl (kk_wl ?_))
    refine wl_u rfl (ow_y (yh_cmpB rfl rfl rfl rfl (by kernel_rfl)) rfl rfl (kk_wl ?_))
    refine wl_u rfl (ow_y (yh_move rfl rfl) rfl rfl (kk_wl ?_))
    refine wl_s rfl rfl (fun c2 => ?_) (fun c2 => ?_)
    · skip
      replace h := bt c2 h
      refine wl_n rfl rfl rfl rfl ?_
      refine wl_n rfl rfl rfl rfl ?_
      refine wl_n rfl rfl rfl rfl ?_
      refine wl_n rfl rfl rfl rfl ?_
      refine wl_u rfl (ow_y (yh_pickT rfl rfl rfl) rfl rfl (kk_wl ?_))
      refine wl_u rfl (ow_y (yh_move rfl rfl) rfl rfl (kk_wl ?_))
      refine wl_s rfl rfl (fun _ => ?_) nofun
      refine wl_n rfl rfl rfl rfl ?_
      refine wl_n rfl rfl rfl rfl ?_
      refine wl_u rfl (ow_y (yh_pickT rfl rfl rfl) rfl rfl (kk_wl ?_))
      refine wl_nil ?_
      refine ex_seq ?_
      refine cw_true rfl ?_
      refine cw_seq ?_
      refine cw_region ?_
      refine wl_u rfl (ow_y (yh_move rfl rfl) rfl rfl (kk_wl ?_))
      refine wl_u rfl (ow_y (yh_move rfl rfl) rfl rfl (kk_wl ?_))
      refine wl_u rfl (ow_y (yh_cmpB rfl rfl rfl rfl (by kernel_rfl)) rfl rfl (kk_wl ?_))
      refine wl_u rfl (ow_y (yh_move rfl rfl) rfl rfl (kk_wl ?_))
      refine wl_s rfl rfl (fun c3 => ?_) (fun c3 => ?_)
      · skip
        replace h := bt c3 h
        refine wl_g rfl rfl (ow_y (yh_move rfl rfl) rfl rfl (kk_wl ?_))
        refine wl_g rfl rfl (ow_y (yh_move rfl rfl) rfl rfl (kk_wl ?_))
        obtain ⟨x50, hx50, h⟩ := bd h
        refine wl_g rfl rfl (ow_cV rfl hb10 rfl (fun w hw => c_laws_sameChanges N _ _ _ hx50 w (Lay.at_ hz3 hw) (Lay.at_ hz4 hw)) rfl rfl (kk_wl ?_))
        refine wl_u rfl (ow_y (yh_pickT rfl rfl rfl) rfl rfl (kk_wl ?_))
        refine wl_u rfl (ow_y (yh_assign rfl rfl) rfl rfl (kk_wl ?_))
        refine wl_nil ?_
        refine ex_seq ?_
        refine cw_ret ?_
        refine ex_then_ret ?_
        obtain rfl := Option.some.inj h
        exact ex_r1 Tb rfl (.tmp rfl) (fun wq hq => ⟨_, rfl, (hB4.back hq).ext, rfl⟩)
      · skip
        replace h := bf c3 h
        refine wl_n rfl rfl rfl rfl ?_
        refine wl_n rfl rfl rfl rfl ?_
        refine wl_n rfl rfl rfl rfl ?_
        refine wl_u rfl (ow_y (yh_pickF rfl rfl rfl) rfl rfl (kk_wl ?_))
        refine wl_u rfl (ow_y (yh_assign rfl rfl) rfl rfl (kk_wl ?_))
        refine wl_nil ?_
        refine ex_seq ?_
        refine cw_ret ?_
        refine ex_then_ret ?_
        obtain rfl := Option.some.inj h
        exact ex_r1 Tb rfl (.tmp rfl) (fun wq hq => ⟨_, rfl, (hB4.back hq).ext, rfl⟩)
    · skip
      replace h := bf c2 h
      refine wl_g rfl rfl (ow_y (yh_move rfl rfl) rfl rfl (kk_wl ?_))
      refine wl_g rfl rfl (ow_y (yh_move rfl rfl) rfl rfl (kk_wl ?_))
      obtain ⟨x37, hx37, h⟩ := bd h
      refine wl_g rfl rfl (ow_cV rfl hb10 rfl (fun w hw => c_laws_sameChanges N _ _ _ hx37 w (Lay.at_ hz3 hw) (Lay.at_ hz4 hw)) rfl rfl (kk_wl ?_))
      refine wl_g rfl rfl (ow_y (yh_not rfl rfl) rfl rfl (kk_wl ?_))
      refine wl_u rfl (ow_y (yh_pickF rfl rfl rfl) rfl rfl (kk_wl ?_))
      refine wl_u rfl (ow_y (yh_move rfl rfl) rfl rfl (kk_wl ?_))
      refine wl_s rfl rfl (fun c4 => ?_) (fun c4 => ?_)
      · skip
        replace h := bt c4 h
        refine wl_n rfl rfl rfl rfl ?_
        refine wl_n rfl rfl rfl rfl ?_
        refine wl_u rfl (ow_y (yh_pickT rfl rfl rfl) rfl rfl (kk_wl ?_))
        refine wl_nil ?_
        refine ex_seq ?_
        refine cw_true rfl ?_
        refine cw_seq ?_
        refine cw_region ?_
        refine wl_u rfl (ow_y (yh_move rfl rfl) rfl rfl (kk_wl ?_))
        refine wl_u rfl (ow_y (yh_move rfl rfl) rfl rfl (kk_wl ?_))
        refine wl_u rfl (ow_y (yh_cmpB rfl rfl rfl rfl (by kernel_rfl)) rfl rfl (kk_wl ?_))
        refine wl_u rfl (ow_y (yh_move rfl rfl) rfl rfl (kk_wl ?_))
        refine wl_s rfl rfl (fun c5 => ?_) (fun c5 => ?_)
        · skip
          replace h := bt c5 h
          refine wl_g rfl rfl (ow_y (yh_move rfl rfl) rfl rfl (kk_wl ?_))
          refine wl_g rfl rfl (ow_y (yh_move rfl rfl) rfl rfl (kk_wl ?_))
          obtain ⟨x50, hx50, h⟩ := bd h
          refine wl_g rfl rfl (ow_cV rfl hb10 rfl (fun w hw => c_laws_sameChanges N _ _ _ hx50 w (Lay.at_ hz3 hw) (Lay.at_ hz4 hw)) rfl rfl (kk_wl ?_))
          refine wl_u rfl (ow_y (yh_pickT rfl rfl rfl) rfl rfl (kk_wl ?_))
          refine wl_u rfl (ow_y (yh_assign rfl rfl) rfl rfl (kk_wl ?_))
          refine wl_nil ?_
          refine ex_seq ?_
          refine cw_ret ?_
          refine ex_then_ret ?_
          obtain rfl := Option.some.inj h
          exact ex_r1 Tb rfl (.tmp rfl) (fun wq hq => ⟨_, rfl, (hB4.back hq).ext, rfl⟩)
        · skip
          replace h := bf c5 h
          refine wl_n rfl rfl rfl rfl ?_
          refine wl_n rfl rfl rfl rfl ?_
          refine wl_n rfl rfl rfl rfl ?_
          refine wl_u rfl (ow_y (yh_pickF rfl rfl rfl) rfl rfl (kk_wl ?_))
          refine wl_u rfl (ow_y (yh_assign rfl rfl) rfl rfl (kk_wl ?_))
          refine wl_nil ?_
          refine ex_seq ?_
          refine cw_ret ?_
          refine ex_then_ret ?_
          obtain rfl := Option.some.inj h
          exact ex_r1 Tb rfl (.tmp rfl) (fun wq hq => ⟨_, rfl, (hB4.back hq).ext, rfl⟩)
      · skip
        replace h := bf c4 h
        refine wl_g rfl rfl (ow_y (yh_move rfl rfl) rfl rfl (kk_wl ?_))
        refine wl_g rfl rfl (ow_y (yh_not rfl rfl) rfl rfl (kk_wl ?_))
        refine wl_u rfl (ow_y (yh_pickF rfl rfl rfl) rfl rfl (kk_wl ?_))
        refine wl_nil ?_
        refine ex_seq ?_
        refine cw_split rfl (fun c6 => ?_) (fun c6 => ?_)
        · skip
          replace h := bt c6 h
          refine cw_seq ?_
          refine cw_region ?_
          refine wl_u rfl (ow_y (yh_move rfl rfl) rfl rfl (kk_wl ?_))
          refine wl_u rfl (ow_y (yh_move rfl rfl) rfl rfl (kk_wl ?_))
          refine wl_u rfl (ow_y (yh_cmpB rfl rfl rfl rfl (by kernel_rfl)) rfl rfl (kk_wl ?_))
          refine wl_u rfl (ow_y (yh_move rfl rfl) rfl rfl (kk_wl ?_))
          refine wl_s rfl rfl (fun c7 => ?_) (fun c7 => ?_)
          · skip
            replace h := bt c7 h
            refine wl_g rfl rfl (ow_y (yh_move rfl rfl) rfl rfl (kk_wl ?_))
            refine wl_g rfl rfl (ow_y (yh_move rfl rfl) rfl rfl (kk_wl ?_))
            obtain ⟨x50, hx50, h⟩ := bd h
            refine wl_g rfl rfl (ow_cV rfl hb10 rfl (fun w hw => c_laws_sameChanges N _ _ _ hx50 w (Lay.at_ hz3 hw) (Lay.at_ hz4 hw)) rfl rfl (kk_wl ?_))
            refine wl_u rfl (ow_y (yh_pickT rfl rfl rfl) rfl rfl (kk_wl ?_))
            refine wl_u rfl (ow_y (yh_assign rfl rfl) rfl rfl (kk_wl ?_))
            refine wl_nil ?_
            refine ex_seq ?_
            refine cw_ret ?_
            refine ex_then_ret ?_
            obtain rfl := Option.some.inj h
            exact ex_r1 Tb rfl (.tmp rfl) (fun wq hq => ⟨_, rfl, (hB4.back hq).ext, rfl⟩)
          · skip
            replace h := bf c7 h
            refine wl_n rfl rfl rfl rfl ?_
            refine wl_n rfl rfl rfl rfl ?_
            refine wl_n rfl rfl rfl rfl ?_
            refine wl_u rfl (ow_y (yh_pickF rfl rfl rfl) rfl rfl (kk_wl ?_))
            refine wl_u rfl (ow_y (yh_assign rfl rfl) rfl rfl (kk_wl ?_))
            refine wl_nil ?_
            refine ex_seq ?_
            refine cw_ret ?_
            refine ex_then_ret ?_
            obtain rfl := Option.some.inj h
            exact ex_r1 Tb rfl (.tmp rfl) (fun wq hq => ⟨_, rfl, (hB4.back hq).ext, rfl⟩)
        · skip
          replace h := bf c6 h
          refine cw_skip ?_
          refine ex_seq ?_
          refine cw_seq ?_
          refine cw_region ?_
          refine wl_u rfl (ow_y (yh_loadBA Tb (k := 1) rfl rfl rfl rfl rfl rfl) rfl rfl (kk_wl ?_))
          refine wl_u rfl (ow_y (yh_move rfl rfl) rfl rfl (kk_wl ?_))
          obtain ⟨x55, hx55, h⟩ := bd h
          refine wl_u rfl (ow_cN1 rfl hb11 rfl (fun w hw => c_impl_FlowChanges N _ _ _ hx55 w (Lay.at_ hz1 hw) (Lay.at_ hz3 hw)) rfl rfl (fun a55 c55 F55 => kk_wl ?_))
          refine wl_u rfl (ow_y (yh_move rfl rfl) rfl rfl (kk_wl ?_))
          refine wl_u rfl (ow_y (yh_extract rfl rfl rfl) rfl rfl (kk_wl ?_))
          refine wl_u rfl (ow_y (yh_extract rfl rfl rfl) rfl rfl (kk_wl ?_))
          refine wl_u rfl (ow_allocA Tb rfl rfl rfl rfl (fun g9 => kk_wl ?_))
          refine wl_u rfl (ow_storeA Tb (k := 0) rfl rfl rfl rfl rfl rfl rfl rfl rfl (kk_wl ?_))
          refine wl_u rfl (ow_y (yh_assign rfl rfl) rfl rfl (kk_wl ?_))
          refine wl_nil ?_
          refine ex_seq ?_
          refine cw_seq ?_
          refine cw_seq ?_
          refine cw_freeze 1 rfl (fun w5 M5 hb5_ hz5 => ?_)
          replace h_u0 := Lay.rb h_u0 hb5_
          replace hz1 := Lay.rb hz1 hb5_
          replace hz2 := Lay.rb hz2 hb5_
          replace hz3 := Lay.rb hz3 hb5_
          replace hz4 := Lay.rb hz4 hb5_
          have hB5 := hB4.trans hb5_
          have mz5 := rd_max hz5
          refine cw_region ?_
          refine wl_u rfl (ow_y (yh_field Tb rfl rfl rfl) rfl rfl (kk_wl ?_))
          refine wl_u rfl (ow_y (yh_loadB Tb (k := 2) rfl rfl rfl rfl rfl) rfl rfl (kk_wl ?_))
          refine wl_u rfl (ow_y (yh_move rfl rfl) rfl rfl (kk_wl ?_))
          refine wl_u rfl (ow_y (yh_lenS Tb rfl rfl rfl rfl) rfl rfl (kk_wl ?_))
          refine wl_u rfl (ow_y (yh_arW rfl rfl rfl rfl) rfl rfl (kk_wl ?_))
          refine wl_u rfl (ow_y (yh_cmpI rfl rfl rfl rfl) rfl rfl (kk_wl ?_))
          refine wl_nil ?_
          refine ex_seq ?_
          refine cw_split rfl (fun c8 => ?_) (fun c8 => ?_)
          · skip
            replace h := bt c8 h
            have q3 := ltb_true.1 c8
            refine cw_seq ?_
            refine cw_region ?_
            refine wl_u rfl (ow_y (yh_move rfl rfl) rfl rfl (kk_wl ?_))
            refine wl_u rfl (ow_y (yh_not rfl rfl) rfl rfl (kk_wl ?_))
            refine wl_u rfl (ow_y (yh_assign rfl rfl) rfl rfl (kk_wl ?_))
            refine wl_nil ?_
            refine ex_seq ?_
            refine cw_ret ?_
            refine ex_then_ret ?_
            obtain rfl := Option.some.inj h
            exact ex_r1 Tb rfl (.tmp rfl) (fun wq hq => ⟨_, rfl, (hB5.back hq).ext, rfl⟩)
          · skip
            replace h := bf c8 h
            have q4 := ltb_false.1 c8
            refine cw_skip ?_
            refine ex_seq ?_
            refine cw_seq ?_
            refine cw_region ?_
            refine wl_u rfl (ow_y (yh_move rfl rfl) rfl rfl (kk_wl ?_))
            refine wl_u rfl (ow_y (yh_move rfl rfl) rfl rfl (kk_wl ?_))
            refine wl_s rfl rfl (fun c9 => ?_) (fun c9 => ?_)
            · skip
              replace h := bt c9 h
              refine wl_g rfl rfl (ow_y (yh_loadBA Tb (k := 0) rfl rfl rfl rfl rfl rfl) rfl rfl (kk_wl ?_))
              refine wl_g rfl rfl (ow_y (yh_loadBA Tb (k := 1) rfl rfl rfl rfl rfl rfl) rfl rfl (kk_wl ?_))
              obtain ⟨x70, hx70, h⟩ := bd h
              refine wl_g rfl rfl (ow_cV rfl hb12 rfl (fun w hw => c_impl_FlowsSame N _ _ _ hx70 w (Lay.at_ hz5 hw) (Lay.at_ hz2 hw)) rfl rfl (kk_wl ?_))
              refine wl_u rfl (ow_y (yh_pickT rfl rfl rfl) rfl rfl (kk_wl ?_))
              refine wl_u rfl (ow_y (yh_assign rfl rfl) rfl rfl (kk_wl ?_))
              refine wl_nil ?_
              refine ex_seq ?_
              refine cw_ret ?_
              obtain rfl := Option.some.inj h
              exact ex_r1 Tb rfl (.tmp rfl) (fun wq hq => ⟨_, rfl, (hB5.back hq).ext, rfl⟩)
            · skip
              replace h := bf c9 h
              refine wl_n rfl rfl rfl rfl ?_
              refine wl_n rfl rfl rfl rfl ?_
              refine wl_n rfl rfl rfl rfl ?_
              refine wl_u rfl (ow_y (yh_pickF rfl rfl rfl) rfl rfl (kk_wl ?_))
              refine wl_u rfl (ow_y (yh_assign rfl rfl) rfl rfl (kk_wl ?_))
              refine wl_nil ?_
              refine ex_seq ?_
              refine cw_ret ?_
              obtain rfl := Option.some.inj h
              exact ex_r1 Tb rfl (.tmp rfl) (fun wq hq => ⟨_, rfl, (hB5.back hq).ext, rfl⟩)

end Go.Proofs.YtmnhnldnnniglaaGreat
