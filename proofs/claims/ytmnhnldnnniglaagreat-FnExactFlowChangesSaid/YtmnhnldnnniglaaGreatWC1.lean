/- Mirrors and contracts, printed by a program: what each function computes as a plain term, and that it does. -/
import Derived.Test.YtmnhnldnnniglaaGreatR
import Derived.Test.YtmnhnldnnniglaaGreatK
import Derived.Test.YtmnhnldnnniglaaGreatWC0
set_option linter.all false
set_option maxRecDepth 100000
namespace Go.Proofs.YtmnhnldnnniglaaGreat
open Go.RowKit

def m_spec_FlowChanges_L9 (N : Nat) (list_ : List Change) : Nat → Int → (List Step) → Nat → Option (Ex (Int × List Step × Nat) (Flow × Bool))
  | 0, _, _, _ => none
  | n + 1, s6_c_0, s6_c_1, s7 => (bif ltb ((s7 : Nat) : Int) ((list_.length : Nat) : Int) then (list_[s7]?).bind fun y26 => (m_spec_FlowChange N (Flow.mk s6_c_0 s6_c_1) y26).bind fun x28 => (bif !x28.2 then some (Ex.ret ((Flow.mk 0 []), false))
 else m_spec_FlowChanges_L9 N list_ n x28.1.ver x28.1.steps (s7 + 1))
 else some (Ex.brk (s6_c_0, s6_c_1, s7)))

def m_spec_FlowChanges (N : Nat) (f : Flow) (list_ : List Change) : Option (Flow × Bool) := (m_spec_FlowValid N f).bind fun x11 => (bif !x11 then some ((Flow.mk 0 []), false)
 else (m_spec_l2Copy N f).bind fun x15 => (m_spec_FlowChanges_L9 N list_ N x15.ver x15.steps 0).bind fun e9 => e9.go (fun r => r) fun b9 => some ((Flow.mk b9.1 b9.2.1), true))

set_option maxHeartbeats 4000000 in
theorem c_spec_FlowChanges (N : Nat) (f : Flow) (list_ : List Change) (res : Flow × Bool) (h : m_spec_FlowChanges N f list_ = some res) (w : World) {a_f_steps a_list_ : Option Addr} {c_f_steps c_list_ : Nat} (h_f_steps : stepsL.rd w [] [.slice a_f_steps f.steps.length c_f_steps] f.steps) (h_list_ : changesL.rd w [] [.slice a_list_ list_.length c_list_] list_) : Ret Tryz.prog 15 [.agg #[.int .i64 f.ver, .slice a_f_steps f.steps.length c_f_steps], .slice a_list_ list_.length c_list_] w [] fun v w' => ∃ a1 c1 F1, v = .tuple #[.agg #[.int .i64 res.1.ver, .slice a1 res.1.steps.length c1], .bool res.2] ∧ NewC w w' [owC stepsL F1 [.slice a1 res.1.steps.length c1] res.1.steps] := by
  have mh_f_steps := rd_max h_f_steps
  have mh_list_ := rd_max h_list_
  unfold m_spec_FlowChanges at h
  refine ret_enter Tryz.func15 rfl Tryz.ntmps15 rfl (Hp.refl w _) ?_
  refine cw_seq ?_
  refine cw_region ?_
  refine wl_u rfl (ow_boxA rfl rfl rfl rfl (fun g2 => kk_wl ?_))
  refine wl_u rfl (ow_allocA Tb rfl rfl rfl rfl (fun g4 => kk_wl ?_))
  refine wl_u rfl (ow_y (yh_assign rfl rfl) rfl rfl (kk_wl ?_))
  refine wl_nil ?_
  refine ex_seq ?_
  refine cw_seq ?_
  refine cw_seq ?_
  refine cw_region ?_
  refine wl_u rfl (ow_y (yh_loadBA Tb (k := 1) rfl rfl rfl rfl rfl rfl) rfl rfl (kk_wl ?_))
  obtain ⟨x11, hx11, h⟩ := bd h
  refine wl_u rfl (ow_cV rfl hb42 rfl (fun w hw => c_spec_FlowValid N _ _ hx11 w (Lay.at_ h_f_steps hw)) rfl rfl (kk_wl ?_))
  refine wl_u rfl (ow_y (yh_not rfl rfl) rfl rfl (kk_wl ?_))
  refine wl_nil ?_
  refine ex_seq ?_
  refine cw_split rfl (fun cc1 => ?_) (fun cc1 => ?_)
  · skip
    replace h := bt cc1 h
    refine cw_seq ?_
    refine cw_region ?_
    refine wl_u rfl (ow_y (yh_build [.int .i64 0, .slice none 0 0] rfl rfl (by kernel_rfl)) rfl rfl (kk_wl ?_))
    refine wl_u rfl (ow_storeA Tb (k := 0) rfl rfl rfl rfl rfl rfl rfl rfl rfl (kk_wl ?_))
    refine wl_u rfl (ow_y (yh_assign rfl rfl) rfl rfl (kk_wl ?_))
    refine wl_nil ?_
    refine ex_seq ?_
    refine cw_ret ?_
    refine ex_then_ret ?_
    refine ex_nilS stepsL rfl ?_
    obtain rfl := Option.some.inj h
    exact ex_r2 Tb rfl (.cellA 1 rfl rfl rfl rfl rfl) (.tmp rfl) (fun wq hq => ⟨_, rfl, hq.ext, ⟨none, 0, [], rfl, NewC.sel [0] hq rfl⟩⟩)
  · skip
    replace h := bf cc1 h
    refine cw_skip ?_
    refine ex_seq ?_
    refine cw_seq ?_
    refine cw_region ?_
    refine wl_u rfl (ow_y (yh_loadBA Tb (k := 1) rfl rfl rfl rfl rfl rfl) rfl rfl (kk_wl ?_))
    obtain ⟨x15, hx15, h⟩ := bd h
    refine wl_u rfl (ow_cN1 rfl hb53 rfl (fun w hw => c_spec_l2Copy N _ _ hx15 w (Lay.at_ h_f_steps hw)) rfl rfl (fun a15 c15 F15 => kk_wl ?_))
    refine wl_u rfl (ow_allocA Tb rfl rfl rfl rfl (fun g6 => kk_wl ?_))
    refine wl_u rfl (ow_storeA Tb (k := 0) rfl rfl rfl rfl rfl rfl rfl rfl rfl (kk_wl ?_))
    refine wl_nil ?_
    refine ex_seq ?_
    refine cw_seq ?_
    refine cw_seq ?_
    refine cw_region ?_
    refine wl_u rfl (ow_y (yh_assign rfl rfl) rfl rfl (kk_wl ?_))
    refine wl_nil ?_
    refine ex_seq ?_
    refine cw_block ?_
    obtain ⟨e9, he9, hk9⟩ := bd h
    clear h
    refine cw_loopG (σ := Nat × Int × (List Step) × Nat × (Option Addr) × Nat × (List Nat)) (fun s => m_spec_FlowChanges_L9 N list_ s.1 s.2.1 s.2.2.1 s.2.2.2.1 = some e9) (fun s => [(1, .slice a_list_ list_.length c_list_), (4, .pointer (some ⟨g4, 0, none⟩)), (6, .pointer (some ⟨g6, 0, none⟩)), (7, .int .i64 ((s.2.2.2.1 : Nat) : Int))]) (fun s => [blkC g4 25 [.int .i64 0, .slice none 0 0], blkC g6 25 [.int .i64 s.2.1, .slice s.2.2.2.2.1 s.2.2.1.length s.2.2.2.2.2.1], owC stepsL s.2.2.2.2.2.2 [.slice s.2.2.2.2.1 s.2.2.1.length s.2.2.2.2.2.1] s.2.2.1]) (fun s => s.1) (N, x15.ver, x15.steps, 0, a15, c15, F15) [2, 0, 1] he9 ⟨rfl, rfl, rfl, rfl, trivial⟩ rfl (fun KL s he9 hn9 => ?_)
    obtain ⟨n9, s6_c_0, s6_c_1, s7, as6_c_1, cs6_c_1, Fs6_c_1⟩ := s
    simp only at he9 hn9 ⊢
    rcases n9 with _ | n9
    · exact nosome he9
    have h := he9; rw [m_spec_FlowChanges_L9] at h
    refine cw_seq ?_
    refine cw_seq ?_
    refine cw_region ?_
    refine wl_u rfl (ow_y (yh_move rfl rfl) rfl rfl (kk_wl ?_))
    refine wl_u rfl (ow_y (yh_move rfl rfl) rfl rfl (kk_wl ?_))
    refine wl_u rfl (ow_y (yh_lenS Tb rfl rfl rfl rfl) rfl rfl (kk_wl ?_))
    refine wl_u rfl (ow_y (yh_cmpI rfl rfl rfl rfl) rfl rfl (kk_wl ?_))
    refine wl_nil ?_
    refine ex_seq ?_
    refine cw_split rfl (fun cc2 => ?_) (fun cc2 => ?_)
    · skip
      replace h := bt cc2 h
      have q1 := ltb_true.1 cc2
      refine cw_skip ?_
      refine ex_seq ?_
      refine cw_seq ?_
      refine cw_block ?_
      refine cw_seq ?_
      refine cw_dr [0, 1, 2, 3, 4, 6, 7, 8, 11] [] [blkC g4 25 [.int .i64 0, .slice none 0 0], blkC g6 25 [.int .i64 s6_c_0, .slice as6_c_1 s6_c_1.length cs6_c_1], owC stepsL Fs6_c_1 [.slice as6_c_1 s6_c_1.length cs6_c_1] s6_c_1] (by kernel_rfl) ?_
      refine wd_take (i := 0) [0, 1, 2] rfl rfl rfl rfl rfl (by kernel_rfl) (by kernel_rfl) (fun _ _ _ _ h => h) (yh_loadBA Tb (k := 1) rfl rfl rfl rfl rfl rfl) ?_
      refine wd_take (i := 1) [0, 1, 2] rfl rfl rfl rfl rfl (by kernel_rfl) (by kernel_rfl) (fun _ _ _ _ h => h) (yh_move rfl rfl) ?_
      refine wd_take (i := 2) [0, 1, 2] rfl rfl rfl rfl rfl (by kernel_rfl) (by kernel_rfl) (fun _ _ _ _ h => h) (yh_move rfl rfl) ?_
      obtain ⟨y26, hy26, h⟩ := bd h
      obtain ⟨b26, o26, ha26⟩ := sl_addr h_list_ hy26
      subst ha26
      obtain ⟨a26, e26, hc26, hf26⟩ := get_change h_list_ hy26
      have mx26 := rd_max hf26
      refine wd_take (i := 3) [0, 1, 2] rfl rfl rfl rfl rfl (by kernel_rfl) (by kernel_rfl) (fun _ _ _ _ h => h) (yh_idx Tb (k := s7) rfl rfl rfl rfl (get_lt hy26) rfl rfl) ?_
      refine wd_take (i := 4) [0, 1, 2] rfl rfl rfl rfl rfl (by kernel_rfl) (by kernel_rfl) (fun _ _ _ _ h => h) (yh_loadAN Tb rfl rfl rfl rfl hc26 rfl) ?_
      refine wd_all [5, 9] (by kernel_rfl) (by simp) (fun i hi => ?_)
      simp only [List.mem_cons, List.not_mem_nil, or_false] at hi
      rcases hi with rfl | rfl
      · refine ⟨_, rfl, rfl, ?_⟩
        obtain ⟨x28, hx28, h⟩ := bd h
        refine (ow_cN1 rfl hb54 rfl (fun w hw => c_spec_FlowChange N _ _ _ hx28 w (rdo (A := stepsL) 2 rfl hw) (Lay.at_ hf26 hw)) rfl rfl (fun a28 c28 F28 => kk_wd [1, 2, 3] (by kernel_rfl) ?_))
        refine wd_take (i := 6) [1, 2, 3] rfl rfl rfl rfl rfl (by kernel_rfl) (by kernel_rfl) (fun _ _ _ _ h => h) (yh_move rfl rfl) ?_
        refine wd_take (i := 7) [1, 2, 3] rfl rfl rfl rfl rfl (by kernel_rfl) (by kernel_rfl) (fun _ _ _ _ h => h) (yh_extract rfl rfl rfl) ?_
        refine wd_take (i := 8) [1, 2, 3] rfl rfl rfl rfl rfl (by kernel_rfl) (by kernel_rfl) (fun _ _ _ _ h => h) (yh_extract rfl rfl rfl) ?_
        refine wd_one 9 rfl rfl (by kernel_rfl) (ow_allocA Tb rfl rfl rfl rfl (fun g8 => kk_wd [2, 3, 4] (by kernel_rfl) ?_))
        refine wd_one 10 rfl rfl (by kernel_rfl) (ow_storeA Tb (k := 0) rfl rfl rfl rfl rfl rfl rfl rfl rfl (kk_wd [2, 3, 4] (by kernel_rfl) ?_))
        refine wd_take (i := 11) [2, 3, 4] rfl rfl rfl rfl rfl (by kernel_rfl) (by kernel_rfl) (fun _ _ _ _ h => h) (yh_assign rfl rfl) ?_
        refine wd_done (by kernel_rfl) ?_
        refine ex_seq ?_
        refine cw_seq ?_
        refine cw_seq ?_
        refine cw_region ?_
        refine wl_u rfl (ow_y (yh_move rfl rfl) rfl rfl (kk_wl ?_))
        refine wl_u rfl (ow_y (yh_not rfl rfl) rfl rfl (kk_wl ?_))
        refine wl_nil ?_
        refine ex_seq ?_
        refine cw_split rfl (fun cc3 => ?_) (fun cc3 => ?_)
        · skip
          replace h := bt cc3 h
          refine cw_seq ?_
          refine cw_region ?_
          refine wl_u rfl (ow_y (yh_build [.int .i64 0, .slice none 0 0] rfl rfl (by kernel_rfl)) rfl rfl (kk_wl ?_))
          refine wl_u rfl (ow_storeA Tb (k := 2) rfl rfl rfl rfl rfl rfl rfl rfl rfl (kk_wl ?_))
          refine wl_u rfl (ow_y (yh_assign rfl rfl) rfl rfl (kk_wl ?_))
          refine wl_nil ?_
          refine ex_seq ?_
          refine cw_ret ?_
          refine ex_then_ret ?_
          refine ex_block_ret ?_
          refine ex_then_ret ?_
          refine ex_then_ret ?_
          refine ex_block_ret ?_
          refine ex_then_ret ?_
          refine ex_nilS stepsL rfl ?_
          obtain rfl := Option.some.inj h
          obtain rfl := go_ret hk9
          exact ex_r2 Tb rfl (.cellA 1 rfl rfl rfl rfl rfl) (.tmp rfl) (fun wq hq => ⟨_, rfl, hq.ext, ⟨none, 0, [], rfl, NewC.sel [0] hq rfl⟩⟩)
        · skip
          replace h := bf cc3 h
          refine cw_skip ?_
          refine ex_seq ?_
          refine cw_region ?_
          refine wl_u rfl (ow_y (yh_loadBA Tb (k := 0) rfl rfl rfl rfl rfl rfl) rfl rfl (kk_wl ?_))
          refine wl_u rfl (ow_storeA Tb (k := 3) rfl rfl rfl rfl rfl rfl rfl rfl rfl (kk_wl ?_))
          refine wl_nil ?_
          refine ex_block_normal ?_
          refine ex_seq ?_
          refine cw_region ?_
          refine wl_u rfl (ow_y (yh_move rfl rfl) rfl rfl (kk_wl ?_))
          refine wl_u rfl (ow_y (yh_arI rfl rfl rfl rfl (by omega)) rfl rfl (kk_wl ?_))
          refine wl_u rfl (ow_y (yh_assign rfl rfl) rfl rfl (kk_wl ?_))
          refine wl_nil ?_
          exact ex_next [3, 0, 2] (hn9 (n9, x28.1.ver, x28.1.steps, s7 + 1, a28, c28, F28) (Nat.lt_succ_self _) h) ⟨rfl, rfl, rfl, rfl, trivial⟩ (by kernel_rfl)
      · refine ⟨_, rfl, rfl, ?_⟩
        refine (ow_allocA Tb rfl rfl rfl rfl (fun g8 => kk_wd [1, 2, 3] (by kernel_rfl) ?_))
        obtain ⟨x28, hx28, h⟩ := bd h
        refine wd_one 5 rfl rfl (by kernel_rfl) (ow_cN1 rfl hb54 rfl (fun w hw => c_spec_FlowChange N _ _ _ hx28 w (rdo (A := stepsL) 3 rfl hw) (Lay.at_ hf26 hw)) rfl rfl (fun a28 c28 F28 => kk_wd [2, 3, 4] (by kernel_rfl) ?_))
        refine wd_take (i := 6) [2, 3, 4] rfl rfl rfl rfl rfl (by kernel_rfl) (by kernel_rfl) (fun _ _ _ _ h => h) (yh_move rfl rfl) ?_
        refine wd_take (i := 7) [2, 3, 4] rfl rfl rfl rfl rfl (by kernel_rfl) (by kernel_rfl) (fun _ _ _ _ h => h) (yh_extract rfl rfl rfl) ?_
        refine wd_take (i := 8) [2, 3, 4] rfl rfl rfl rfl rfl (by kernel_rfl) (by kernel_rfl) (fun _ _ _ _ h => h) (yh_extract rfl rfl rfl) ?_
        refine wd_one 10 rfl rfl (by kernel_rfl) (ow_storeA Tb (k := 1) rfl rfl rfl rfl rfl rfl rfl rfl rfl (kk_wd [2, 3, 4] (by kernel_rfl) ?_))
        refine wd_take (i := 11) [2, 3, 4] rfl rfl rfl rfl rfl (by kernel_rfl) (by kernel_rfl) (fun _ _ _ _ h => h) (yh_assign rfl rfl) ?_
        refine wd_done (by kernel_rfl) ?_
        refine ex_seq ?_
        refine cw_seq ?_
        refine cw_seq ?_
        refine cw_region ?_
        refine wl_u rfl (ow_y (yh_move rfl rfl) rfl rfl (kk_wl ?_))
        refine wl_u rfl (ow_y (yh_not rfl rfl) rfl rfl (kk_wl ?_))
        refine wl_nil ?_
        refine ex_seq ?_
        refine cw_split rfl (fun cc4 => ?_) (fun cc4 => ?_)
        · skip
          replace h := bt cc4 h
          refine cw_seq ?_
          refine cw_region ?_
          refine wl_u rfl (ow_y (yh_build [.int .i64 0, .slice none 0 0] rfl rfl (by kernel_rfl)) rfl rfl (kk_wl ?_))
          refine wl_u rfl (ow_storeA Tb (k := 2) rfl rfl rfl rfl rfl rfl rfl rfl rfl (kk_wl ?_))
          refine wl_u rfl (ow_y (yh_assign rfl rfl) rfl rfl (kk_wl ?_))
          refine wl_nil ?_
          refine ex_seq ?_
          refine cw_ret ?_
          refine ex_then_ret ?_
          refine ex_block_ret ?_
          refine ex_then_ret ?_
          refine ex_then_ret ?_
          refine ex_block_ret ?_
          refine ex_then_ret ?_
          refine ex_nilS stepsL rfl ?_
          obtain rfl := Option.some.inj h
          obtain rfl := go_ret hk9
          exact ex_r2 Tb rfl (.cellA 1 rfl rfl rfl rfl rfl) (.tmp rfl) (fun wq hq => ⟨_, rfl, hq.ext, ⟨none, 0, [], rfl, NewC.sel [0] hq rfl⟩⟩)
        · skip
          replace h := bf cc4 h
          refine cw_skip ?_
          refine ex_seq ?_
          refine cw_region ?_
          refine wl_u rfl (ow_y (yh_loadBA Tb (k := 0) rfl rfl rfl rfl rfl rfl) rfl rfl (kk_wl ?_))
          refine wl_u rfl (ow_storeA Tb (k := 3) rfl rfl rfl rfl rfl rfl rfl rfl rfl (kk_wl ?_))
          refine wl_nil ?_
          refine ex_block_normal ?_
          refine ex_seq ?_
          refine cw_region ?_
          refine wl_u rfl (ow_y (yh_move rfl rfl) rfl rfl (kk_wl ?_))
          refine wl_u rfl (ow_y (yh_arI rfl rfl rfl rfl (by omega)) rfl rfl (kk_wl ?_))
          refine wl_u rfl (ow_y (yh_assign rfl rfl) rfl rfl (kk_wl ?_))
          refine wl_nil ?_
          exact ex_next [3, 0, 2] (hn9 (n9, x28.1.ver, x28.1.steps, s7 + 1, a28, c28, F28) (Nat.lt_succ_self _) h) ⟨rfl, rfl, rfl, rfl, trivial⟩ (by kernel_rfl)
    · skip
      replace h := bf cc2 h
      have q2 := ltb_false.1 cc2
      refine cw_exit ?_
      refine ex_then_exit ?_
      refine ex_then_exit ?_
      obtain rfl := Option.some.inj h
      have h := go_brk hk9
      refine ex_block_exit ?_
      refine ex_seq ?_
      refine cw_seq ?_
      refine cw_region ?_
      refine wl_u rfl (ow_y (yh_loadBA Tb (k := 1) rfl rfl rfl rfl rfl rfl) rfl rfl (kk_wl ?_))
      refine wl_u rfl (ow_storeA Tb (k := 0) rfl rfl rfl rfl rfl rfl rfl rfl rfl (kk_wl ?_))
      refine wl_u rfl (ow_y (yh_assign rfl rfl) rfl rfl (kk_wl ?_))
      refine wl_nil ?_
      refine ex_seq ?_
      refine cw_ret ?_
      obtain rfl := Option.some.inj h
      exact ex_r2 Tb rfl (.cellA 0 rfl rfl rfl rfl rfl) (.tmp rfl) (fun wq hq => ⟨_, rfl, hq.ext, ⟨as6_c_1, cs6_c_1, Fs6_c_1, rfl, NewC.sel [2] hq rfl⟩⟩)

def m_impl_Flow_names_L5 (N : Nat) (f : Flow) : Nat → (List Str) → Nat → Option (Ex (List Str × Nat) (List Str))
  | 0, _, _ => none
  | n + 1, s3, s9 => (bif ltb ((s9 : Nat) : Int) ((f.steps.length : Nat) : Int) then (f.steps[s9]?).bind fun y11 => (appd s3 ([y11.name] : List Str)).bind fun l17 => m_impl_Flow_names_L5 N f n (s3 ++ ([y11.name] : List Str)) (s9 + 1)
 else some (Ex.brk (s3, s9)))

def m_impl_Flow_names (N : Nat) (f : Flow) : Option (List Str) := (m_impl_Flow_names_L5 N f N ([] : List Str) 0).bind fun e5 => e5.go (fun r => r) fun b5 => some b5.1

set_option maxHeartbeats 4000000 in
theorem c_impl_Flow_names (N : Nat) (f : Flow) (res : List Str) (h : m_impl_Flow_names N f = some res) (w : World) {a_f_steps : Option Addr} {c_f_steps : Nat} (h_f_steps : stepsL.rd w [] [.slice a_f_steps f.steps.length c_f_steps] f.steps) : Ret Tryz.prog 34 [.agg #[.int .i64 f.ver, .slice a_f_steps f.steps.length c_f_steps]] w [] fun v w' => ∃ a1 c1 F1, v = .slice a1 res.length c1 ∧ NewC w w' [owC strsL F1 [.slice a1 res.length c1] res] := by
  have mh_f_steps := rd_max h_f_steps
  unfold m_impl_Flow_names at h
  refine ret_enter Tryz.func34 rfl Tryz.ntmps34 rfl (Hp.refl w _) ?_
  refine cw_seq ?_
  refine cw_region ?_
  refine wl_u rfl (ow_boxA rfl rfl rfl rfl (fun g1 => kk_wl ?_))
  refine wl_u rfl (ow_y (yh_assign rfl rfl) rfl rfl (kk_wl ?_))
  refine wl_nil ?_
  refine ex_seq ?_
  refine cw_seq ?_
  refine cw_region ?_
  refine wl_u rfl (ow_y (yh_assign rfl rfl) rfl rfl (kk_wl ?_))
  refine wl_nil ?_
  refine ex_seq ?_
  refine cw_seq ?_
  refine cw_seq ?_
  refine cw_region ?_
  refine wl_u rfl (ow_y (yh_field Tb rfl rfl rfl) rfl rfl (kk_wl ?_))
  refine wl_u rfl (ow_y (yh_loadB Tb (k := 0) rfl rfl rfl rfl rfl) rfl rfl (kk_wl ?_))
  refine wl_u rfl (ow_y (yh_lenS Tb rfl rfl rfl rfl) rfl rfl (kk_wl ?_))
  refine wl_u rfl (ow_y (yh_move rfl rfl) rfl rfl (kk_wl ?_))
  refine wl_nil ?_
  refine ex_seq ?_
  refine cw_block ?_
  obtain ⟨e5, he5, hk5⟩ := bd h
  clear h
  refine cw_nilS strsL rfl ?_
  refine cw_loopG (σ := Nat × (List Str) × Nat × (Option Addr) × Nat × (List Nat)) (fun s => m_impl_Flow_names_L5 N f s.1 s.2.1 s.2.2.1 = some e5) (fun s => [(3, .slice s.2.2.2.1 s.2.1.length s.2.2.2.2.1), (7, .slice a_f_steps f.steps.length c_f_steps), (8, .int .i64 ((f.steps.length : Nat) : Int)), (9, .int .i64 ((s.2.2.1 : Nat) : Int))]) (fun s => [owC strsL s.2.2.2.2.2 [.slice s.2.2.2.1 s.2.1.length s.2.2.2.2.1] s.2.1]) (fun s => s.1) (N, ([] : List Str), 0, none, 0, []) [0] he5 ⟨rfl, rfl, rfl, rfl, trivial⟩ rfl (fun KL s he5 hn5 => ?_)
  obtain ⟨n5, s3, s9, as3, cs3, Fs3⟩ := s
  simp only at he5 hn5 ⊢
  rcases n5 with _ | n5
  · exact nosome he5
  have h := he5; rw [m_impl_Flow_names_L5] at h
  refine cw_seq ?_
  refine cw_region ?_
  refine wl_u rfl (ow_y (yh_cmpI rfl rfl rfl rfl) rfl rfl (kk_wl ?_))
  refine wl_nil ?_
  refine ex_seq ?_
  refine cw_seq ?_
  refine cw_split rfl (fun cc1 => ?_) (fun cc1 => ?_)
  · skip
    replace h := bt cc1 h
    have q1 := ltb_true.1 cc1
    refine cw_skip ?_
    refine ex_seq ?_
    refine cw_seq ?_
    refine cw_block ?_
    refine cw_seq ?_
    refine cw_region ?_
    obtain ⟨y11, hy11, h⟩ := bd h
    obtain ⟨b11, o11, ha11⟩ := sl_addr h_f_steps hy11
    subst ha11
    obtain ⟨a11, e11, hc11, hf11⟩ := get_step h_f_steps hy11
    have mx11 := rd_max hf11
    refine wl_u rfl (ow_y (yh_idx Tb (k := s9) rfl rfl rfl rfl (get_lt hy11) rfl rfl) rfl rfl (kk_wl ?_))
    refine wl_u rfl (ow_y (yh_loadAN Tb rfl rfl rfl rfl hc11 rfl) rfl rfl (kk_wl ?_))
    refine wl_u rfl (ow_allocA Tb rfl rfl rfl rfl (fun g5 => kk_wl ?_))
    refine wl_u rfl (ow_storeA Tb (k := 0) rfl rfl rfl rfl rfl rfl rfl rfl rfl (kk_wl ?_))
    refine wl_nil ?_
    refine ex_seq ?_
    refine cw_region ?_
    refine wl_u rfl (ow_y (yh_move rfl rfl) rfl rfl (kk_wl ?_))
    refine wl_u rfl (ow_y (yh_field Tb rfl rfl rfl) rfl rfl (kk_wl ?_))
    refine wl_u rfl (ow_y (yh_loadB Tb (k := 0) rfl rfl rfl rfl rfl) rfl rfl (kk_wl ?_))
    refine wl_u rfl (ow_lit1 Tb rfl rfl rfl rfl rfl rfl rfl rfl rfl rfl (fun g16 => kk_chg (c' := owC strsL [g16] [.slice (some ⟨g16, 0, none⟩) 1 1] ([y11.name] : List Str)) 0 rfl (fun w hA => own_strsL ([y11.name] : List Str) hA rfl (by simp [maxLen])) rfl (kk_wl ?_)))
    obtain ⟨hll17, h⟩ := bd_appd h
    refine wl_u rfl (ow_appP Tb (i := 2) rfl rfl rfl rfl rfl (fun w hw => rdo (A := strsL) 0 rfl hw) rfl rfl rfl rfl hll17 (by decide) rfl rfl (fun a17 c17 F17 => kk_wl ?_))
    refine wl_u rfl (ow_y (yh_assign rfl rfl) rfl rfl (kk_wl ?_))
    refine wl_nil ?_
    refine ex_block_normal ?_
    refine ex_seq ?_
    refine cw_region ?_
    refine wl_u rfl (ow_y (yh_arI rfl rfl rfl rfl (by omega)) rfl rfl (kk_wl ?_))
    refine wl_u rfl (ow_y (yh_move rfl rfl) rfl rfl (kk_wl ?_))
    refine wl_nil ?_
    exact ex_next [0] (hn5 (n5, (s3 ++ ([y11.name] : List Str)), s9 + 1, a17, c17, F17) (Nat.lt_succ_self _) h) ⟨rfl, rfl, rfl, rfl, trivial⟩ (by kernel_rfl)
  · skip
    replace h := bf cc1 h
    have q2 := ltb_false.1 cc1
    refine cw_exit ?_
    refine ex_then_exit ?_
    refine ex_then_exit ?_
    obtain rfl := Option.some.inj h
    have h := go_brk hk5
    refine ex_block_exit ?_
    refine ex_seq ?_
    refine cw_seq ?_
    refine cw_region ?_
    refine wl_u rfl (ow_y (yh_move rfl rfl) rfl rfl (kk_wl ?_))
    refine wl_u rfl (ow_y (yh_assign rfl rfl) rfl rfl (kk_wl ?_))
    refine wl_nil ?_
    refine ex_seq ?_
    refine cw_ret ?_
    obtain rfl := Option.some.inj h
    exact ex_r1 Tb rfl (.tmp rfl) (fun wq hq => ⟨_, rfl, hq.ext, ⟨as3, cs3, Fs3, rfl, NewC.sel [0] hq rfl⟩⟩)

def m_impl_NameValid_L8 (N : Nat) (s_ : Str) : Nat → Nat → Option (Ex (Nat) (Bool))
  | 0, _ => none
  | n + 1, s14 => (bif ltb ((s14 : Nat) : Int) ((s_.size : Nat) : Int) then (bget s_ s14).bind fun y19 => (bif ltb ((y19 : Nat) : Int) 97 then some (Ex.ret false)
 else (bget s_ s14).bind fun y24 => (bif ltb 122 ((y24 : Nat) : Int) then some (Ex.ret false)
 else m_impl_NameValid_L8 N s_ n (s14 + 1)))
 else some (Ex.brk (s14)))

def m_impl_NameValid (N : Nat) (s_ : Str) : Option (Bool) := (ssz s_).bind fun z5 => (bif ltb ((s_.size : Nat) : Int) 1 then some false
 else (bif ltb 5 ((s_.size : Nat) : Int) then some false
 else (m_impl_NameValid_L8 N s_ N 0).bind fun e8 => e8.go (fun r => r) fun b8 => some true))

set_option maxHeartbeats 4000000 in
theorem c_impl_NameValid (N : Nat) (s_ : Str) (res : Bool) (h : m_impl_NameValid N s_ = some res) (w : World) : Ret Tryz.prog 103 [.string s_] w [] fun v w' => v = .bool res := by
  unfold m_impl_NameValid at h
  refine ret_enter Tryz.func103 rfl Tryz.ntmps103 rfl (Hp.refl w _) ?_
  refine cw_seq ?_
  refine cw_region ?_
  refine wl_u rfl (ow_y (yh_assign rfl rfl) rfl rfl (kk_wl ?_))
  refine wl_nil ?_
  refine ex_seq ?_
  refine cw_seq ?_
  refine cw_seq ?_
  refine cw_region ?_
  refine wl_u rfl (ow_y (yh_move rfl rfl) rfl rfl (kk_wl ?_))
  obtain ⟨z5, hz5, h⟩ := bd h
  have mz5 := ssz_some hz5
  refine wl_u rfl (ow_y (yh_lenT Tb rfl rfl rfl rfl) rfl rfl (kk_wl ?_))
  refine wl_u rfl (ow_y (yh_cmpI rfl rfl rfl rfl) rfl rfl (kk_wl ?_))
  refine wl_u rfl (ow_y (yh_move rfl rfl) rfl rfl (kk_wl ?_))
  refine wl_s rfl rfl (fun cc1 => ?_) (fun cc1 => ?_)
  · skip
    replace h := bt cc1 h
    have q1 := ltb_true.1 cc1
    refine wl_n rfl rfl rfl rfl ?_
    refine wl_n rfl rfl rfl rfl ?_
    refine wl_n rfl rfl rfl rfl ?_
    refine wl_u rfl (ow_y (yh_pickT rfl rfl rfl) rfl rfl (kk_wl ?_))
    refine wl_nil ?_
    refine ex_seq ?_
    refine cw_true rfl ?_
    refine cw_seq ?_
    refine cw_region ?_
    refine wl_u rfl (ow_y (yh_assign rfl rfl) rfl rfl (kk_wl ?_))
    refine wl_nil ?_
    refine ex_seq ?_
    refine cw_ret ?_
    refine ex_then_ret ?_
    obtain rfl := Option.some.inj h
    exact ex_r1 Tb rfl (.tmp rfl) (fun wq hq => ⟨_, rfl, hq.ext, rfl⟩)
  · skip
    replace h := bf cc1 h
    have q2 := ltb_false.1 cc1
    refine wl_g rfl rfl (ow_y (yh_move rfl rfl) rfl rfl (kk_wl ?_))
    refine wl_g rfl rfl (ow_y (yh_lenT Tb rfl rfl rfl rfl) rfl rfl (kk_wl ?_))
    refine wl_g rfl rfl (ow_y (yh_cmpI rfl rfl rfl rfl) rfl rfl (kk_wl ?_))
    refine wl_u rfl (ow_y (yh_pickF rfl rfl rfl) rfl rfl (kk_wl ?_))
    refine wl_nil ?_
    refine ex_seq ?_
    refine cw_split rfl (fun cc2 => ?_) (fun cc2 => ?_)
    · skip
      replace h := bt cc2 h
      have q3 := ltb_true.1 cc2
      refine cw_seq ?_
      refine cw_region ?_
      refine wl_u rfl (ow_y (yh_assign rfl rfl) rfl rfl (kk_wl ?_))
      refine wl_nil ?_
      refine ex_seq ?_
      refine cw_ret ?_
      refine ex_then_ret ?_
      obtain rfl := Option.some.inj h
      exact ex_r1 Tb rfl (.tmp rfl) (fun wq hq => ⟨_, rfl, hq.ext, rfl⟩)
    · skip
      replace h := bf cc2 h
      have q4 := ltb_false.1 cc2
      refine cw_skip ?_
      refine ex_seq ?_
      refine cw_seq ?_
      refine cw_seq ?_
      refine cw_region ?_
      refine wl_u rfl (ow_y (yh_move rfl rfl) rfl rfl (kk_wl ?_))
      refine wl_u rfl (ow_y (yh_lenT Tb rfl rfl rfl rfl) rfl rfl (kk_wl ?_))
      refine wl_u rfl (ow_y (yh_move rfl rfl) rfl rfl (kk_wl ?_))
      refine wl_nil ?_
      refine ex_seq ?_
      refine cw_block ?_
      obtain ⟨e8, he8, hk8⟩ := bd h
      clear h
      refine cw_loopG (σ := Nat × Nat) (fun s => m_impl_NameValid_L8 N s_ s.1 s.2 = some e8) (fun s => [(0, .string s_), (13, .int .i64 ((s_.size : Nat) : Int)), (14, .int .i64 ((s.2 : Nat) : Int))]) (fun s => []) (fun s => s.1) (N, 0) [] he8 ⟨rfl, rfl, rfl, trivial⟩ rfl (fun KL s he8 hn8 => ?_)
      obtain ⟨n8, s14⟩ := s
      simp only at he8 hn8 ⊢
      rcases n8 with _ | n8
      · exact nosome he8
      have h := he8; rw [m_impl_NameValid_L8] at h
      refine cw_seq ?_
      refine cw_region ?_
      refine wl_u rfl (ow_y (yh_cmpI rfl rfl rfl rfl) rfl rfl (kk_wl ?_))
      refine wl_nil ?_
      refine ex_seq ?_
      refine cw_seq ?_
      refine cw_split rfl (fun cc3 => ?_) (fun cc3 => ?_)
      · skip
        replace h := bt cc3 h
        have q5 := ltb_true.1 cc3
        refine cw_skip ?_
        refine ex_seq ?_
        refine cw_seq ?_
        refine cw_block ?_
        refine cw_seq ?_
        refine cw_region ?_
        refine wl_u rfl (ow_y (yh_move rfl rfl) rfl rfl (kk_wl ?_))
        refine wl_u rfl (ow_y (yh_assign rfl rfl) rfl rfl (kk_wl ?_))
        refine wl_nil ?_
        refine ex_seq ?_
        refine cw_seq ?_
        refine cw_region ?_
        refine wl_u rfl (ow_y (yh_move rfl rfl) rfl rfl (kk_wl ?_))
        refine wl_u rfl (ow_y (yh_move rfl rfl) rfl rfl (kk_wl ?_))
        obtain ⟨y19, hy19, h⟩ := bd h
        refine wl_u rfl (ow_y (yh_indexS Tb (k := s14) rfl rfl rfl rfl hy19 rfl) rfl rfl (kk_wl ?_))
        refine wl_u rfl (ow_y (yh_cmpI rfl rfl rfl rfl) rfl rfl (kk_wl ?_))
        refine wl_u rfl (ow_y (yh_move rfl rfl) rfl rfl (kk_wl ?_))
        refine wl_s rfl rfl (fun cc4 => ?_) (fun cc4 => ?_)
        · skip
          replace h := bt cc4 h
          have q6 := ltb_true.1 cc4
          refine wl_n rfl rfl rfl rfl ?_
          refine wl_n rfl rfl rfl rfl ?_
          refine wl_n rfl rfl rfl rfl ?_
          refine wl_n rfl rfl rfl rfl ?_
          refine wl_u rfl (ow_y (yh_pickT rfl rfl rfl) rfl rfl (kk_wl ?_))
          refine wl_nil ?_
          refine ex_seq ?_
          refine cw_true rfl ?_
          refine cw_seq ?_
          refine cw_region ?_
          refine wl_u rfl (ow_y (yh_assign rfl rfl) rfl rfl (kk_wl ?_))
          refine wl_nil ?_
          refine ex_seq ?_
          refine cw_ret ?_
          refine ex_block_ret ?_
          refine ex_then_ret ?_
          refine ex_then_ret ?_
          refine ex_block_ret ?_
          refine ex_then_ret ?_
          obtain rfl := Option.some.inj h
          obtain rfl := go_ret hk8
          exact ex_r1 Tb rfl (.tmp rfl) (fun wq hq => ⟨_, rfl, hq.ext, rfl⟩)
        · skip
          replace h := bf cc4 h
          have q7 := ltb_false.1 cc4
          refine wl_g rfl rfl (ow_y (yh_move rfl rfl) rfl rfl (kk_wl ?_))
          refine wl_g rfl rfl (ow_y (yh_move rfl rfl) rfl rfl (kk_wl ?_))
          obtain ⟨y24, hy24, h⟩ := bd h
          refine wl_g rfl rfl (ow_y (yh_indexS Tb (k := s14) rfl rfl rfl rfl hy24 rfl) rfl rfl (kk_wl ?_))
          refine wl_g rfl rfl (ow_y (yh_cmpI rfl rfl rfl rfl) rfl rfl (kk_wl ?_))
          refine wl_u rfl (ow_y (yh_pickF rfl rfl rfl) rfl rfl (kk_wl ?_))
          refine wl_nil ?_
          refine ex_seq ?_
          refine cw_split rfl (fun cc5 => ?_) (fun cc5 => ?_)
          · skip
            replace h := bt cc5 h
            have q8 := ltb_true.1 cc5
            refine cw_seq ?_
            refine cw_region ?_
            refine wl_u rfl (ow_y (yh_assign rfl rfl) rfl rfl (kk_wl ?_))
            refine wl_nil ?_
            refine ex_seq ?_
            refine cw_ret ?_
            refine ex_block_ret ?_
            refine ex_then_ret ?_
            refine ex_then_ret ?_
            refine ex_block_ret ?_
            refine ex_then_ret ?_
            obtain rfl := Option.some.inj h
            obtain rfl := go_ret hk8
            exact ex_r1 Tb rfl (.tmp rfl) (fun wq hq => ⟨_, rfl, hq.ext, rfl⟩)
          · skip
            replace h := bf cc5 h
            have q9 := ltb_false.1 cc5
            refine cw_skip ?_
            refine ex_block_normal ?_
            refine ex_seq ?_
            refine cw_region ?_
            refine wl_u rfl (ow_y (yh_arI rfl rfl rfl rfl (by omega)) rfl rfl (kk_wl ?_))
            refine wl_u rfl (ow_y (yh_move rfl rfl) rfl rfl (kk_wl ?_))
            refine wl_nil ?_
            exact ex_next [] (hn8 (n8, s14 + 1) (Nat.lt_succ_self _) h) ⟨rfl, rfl, rfl, trivial⟩ (by kernel_rfl)
      · skip
        replace h := bf cc3 h
        have q10 := ltb_false.1 cc3
        refine cw_exit ?_
        refine ex_then_exit ?_
        refine ex_then_exit ?_
        obtain rfl := Option.some.inj h
        have h := go_brk hk8
        refine ex_block_exit ?_
        refine ex_seq ?_
        refine cw_seq ?_
        refine cw_region ?_
        refine wl_u rfl (ow_y (yh_assign rfl rfl) rfl rfl (kk_wl ?_))
        refine wl_nil ?_
        refine ex_seq ?_
        refine cw_ret ?_
        obtain rfl := Option.some.inj h
        exact ex_r1 Tb rfl (.tmp rfl) (fun wq hq => ⟨_, rfl, hq.ext, rfl⟩)

def m_impl_namesAscend_L4 (N : Nat) (list_ : List Str) : Nat → Nat → Option (Ex (Nat) (Bool))
  | 0, _ => none
  | n + 1, s7 => (bif ltb ((s7 : Nat) : Int) ((list_.length : Nat) : Int) then (list_[s7]?).bind fun y10 => (m_impl_NameValid N y10).bind fun x13 => (bif !x13 then some (Ex.ret false)
 else (bif ltb 0 ((s7 : Nat) : Int) then (geti list_ (((s7 : Nat) : Int) - 1)).bind fun y23 => (bif (slt y10 y23) || (seq y10 y23) then some (Ex.ret false)
 else m_impl_namesAscend_L4 N list_ n (s7 + 1))
 else m_impl_namesAscend_L4 N list_ n (s7 + 1)))
 else some (Ex.brk (s7)))

def m_impl_namesAscend (N : Nat) (list_ : List Str) : Option (Bool) := (m_impl_namesAscend_L4 N list_ N 0).bind fun e4 => e4.go (fun r => r) fun b4 => some true

set_option maxHeartbeats 4000000 in
theorem c_impl_namesAscend (N : Nat) (list_ : List Str) (res : Bool) (h : m_impl_namesAscend N list_ = some res) (w : World) {a_list_ : Option Addr} {c_list_ : Nat} (h_list_ : strsL.rd w [] [.slice a_list_ list_.length c_list_] list_) : Ret Tryz.prog 78 [.slice a_list_ list_.length c_list_] w [] fun v w' => v = .bool res := by
  have mh_list_ := rd_max h_list_
  unfold m_impl_namesAscend at h
  refine ret_enter Tryz.func78 rfl Tryz.ntmps78 rfl (Hp.refl w _) ?_
  refine cw_seq ?_
  refine cw_region ?_
  refine wl_u rfl (ow_y (yh_assign rfl rfl) rfl rfl (kk_wl ?_))
  refine wl_nil ?_
  refine ex_seq ?_
  refine cw_seq ?_
  refine cw_seq ?_
  refine cw_region ?_
  refine wl_u rfl (ow_y (yh_move rfl rfl) rfl rfl (kk_wl ?_))
  refine wl_u rfl (ow_y (yh_lenS Tb rfl rfl rfl rfl) rfl rfl (kk_wl ?_))
  refine wl_u rfl (ow_y (yh_move rfl rfl) rfl rfl (kk_wl ?_))
  refine wl_nil ?_
  refine ex_seq ?_
  refine cw_block ?_
  obtain ⟨e4, he4, hk4⟩ := bd h
  clear h
  refine cw_loopG (σ := Nat × Nat) (fun s => m_impl_namesAscend_L4 N list_ s.1 s.2 = some e4) (fun s => [(0, .slice a_list_ list_.length c_list_), (5, .slice a_list_ list_.length c_list_), (6, .int .i64 ((list_.length : Nat) : Int)), (7, .int .i64 ((s.2 : Nat) : Int))]) (fun s => []) (fun s => s.1) (N, 0) [] he4 ⟨rfl, rfl, rfl, rfl, trivial⟩ rfl (fun KL s he4 hn4 => ?_)
  obtain ⟨n4, s7⟩ := s
  simp only at he4 hn4 ⊢
  rcases n4 with _ | n4
  · exact nosome he4
  have h := he4; rw [m_impl_namesAscend_L4] at h
  refine cw_seq ?_
  refine cw_region ?_
  refine wl_u rfl (ow_y (yh_cmpI rfl rfl rfl rfl) rfl rfl (kk_wl ?_))
  refine wl_nil ?_
  refine ex_seq ?_
  refine cw_seq ?_
  refine cw_split rfl (fun cc1 => ?_) (fun cc1 => ?_)
  · skip
    replace h := bt cc1 h
    have q1 := ltb_true.1 cc1
    refine cw_skip ?_
    refine ex_seq ?_
    refine cw_seq ?_
    refine cw_block ?_
    refine cw_seq ?_
    refine cw_region ?_
    refine wl_u rfl (ow_y (yh_move rfl rfl) rfl rfl (kk_wl ?_))
    obtain ⟨y10, hy10, h⟩ := bd h
    obtain ⟨b10, o10, ha10⟩ := sl_addr h_list_ hy10
    subst ha10
    have hc10 := get_str h_list_ hy10
    refine wl_u rfl (ow_y (yh_idx Tb (k := s7) rfl rfl rfl rfl (get_lt hy10) rfl rfl) rfl rfl (kk_wl ?_))
    refine wl_u rfl (ow_y (yh_loadA0 Tb rfl rfl rfl hc10 rfl) rfl rfl (kk_wl ?_))
    refine wl_u rfl (ow_y (yh_assign rfl rfl) rfl rfl (kk_wl ?_))
    refine wl_u rfl (ow_y (yh_assign rfl rfl) rfl rfl (kk_wl ?_))
    refine wl_nil ?_
    refine ex_seq ?_
    refine cw_seq ?_
    refine cw_region ?_
    refine wl_u rfl (ow_y (yh_move rfl rfl) rfl rfl (kk_wl ?_))
    obtain ⟨x13, hx13, h⟩ := bd h
    refine wl_u rfl (ow_cV rfl hb103 rfl (fun w hw => c_impl_NameValid N _ _ hx13 w) rfl rfl (kk_wl ?_))
    refine wl_u rfl (ow_y (yh_not rfl rfl) rfl rfl (kk_wl ?_))
    refine wl_u rfl (ow_y (yh_move rfl rfl) rfl rfl (kk_wl ?_))
    refine wl_s rfl rfl (fun cc2 => ?_) (fun cc2 => ?_)
    · skip
      replace h := bt cc2 h
      refine wl_n rfl rfl rfl rfl ?_
      refine wl_n rfl rfl rfl rfl ?_
      refine wl_n rfl rfl rfl rfl ?_
      refine wl_n rfl rfl rfl rfl ?_
      refine wl_n rfl rfl rfl rfl ?_
      refine wl_n rfl rfl rfl rfl ?_
      refine wl_n rfl rfl rfl rfl ?_
      refine wl_n rfl rfl rfl rfl ?_
      refine wl_n rfl rfl rfl rfl ?_
      refine wl_n rfl rfl rfl rfl ?_
      refine wl_n rfl rfl rfl rfl ?_
      refine wl_u rfl (ow_y (yh_pickT rfl rfl rfl) rfl rfl (kk_wl ?_))
      refine wl_nil ?_
      refine ex_seq ?_
      refine cw_true rfl ?_
      refine cw_seq ?_
      refine cw_region ?_
      refine wl_u rfl (ow_y (yh_assign rfl rfl) rfl rfl (kk_wl ?_))
      refine wl_nil ?_
      refine ex_seq ?_
      refine cw_ret ?_
      refine ex_block_ret ?_
      refine ex_then_ret ?_
      refine ex_then_ret ?_
      refine ex_block_ret ?_
      refine ex_then_ret ?_
      obtain rfl := Option.some.inj h
      obtain rfl := go_ret hk4
      exact ex_r1 Tb rfl (.tmp rfl) (fun wq hq => ⟨_, rfl, hq.ext, rfl⟩)
    · skip
      replace h := bf cc2 h
      refine wl_g rfl rfl (ow_y (yh_move rfl rfl) rfl rfl (kk_wl ?_))
      refine wl_g rfl rfl (ow_y (yh_cmpI rfl rfl rfl rfl) rfl rfl (kk_wl ?_))
      refine wl_g rfl rfl (ow_y (yh_move rfl rfl) rfl rfl (kk_wl ?_))
      refine wl_s rfl rfl (fun cc3 => ?_) (fun cc3 => ?_)
      · skip
        replace h := bt cc3 h
        have q2 := ltb_true.1 cc3
        refine wl_g rfl rfl (ow_y (yh_move rfl rfl) rfl rfl (kk_wl ?_))
        refine wl_g rfl rfl (ow_y (yh_move rfl rfl) rfl rfl (kk_wl ?_))
        refine wl_g rfl rfl (ow_y (yh_move rfl rfl) rfl rfl (kk_wl ?_))
        refine wl_g rfl rfl (ow_y (yh_arI rfl rfl rfl rfl (by omega)) rfl rfl (kk_wl ?_))
        obtain ⟨y23, zy23, h⟩ := bd h
        obtain ⟨iy23, hy23⟩ := geti_some zy23
        have hc23 := get_str h_list_ hy23
        refine wl_g rfl rfl (ow_y (yh_idx Tb (k := (((s7 : Nat) : Int) - 1).toNat) rfl rfl rfl iy23 (get_lt hy23) rfl rfl) rfl rfl (kk_wl ?_))
        refine wl_g rfl rfl (ow_y (yh_loadA0 Tb rfl rfl rfl hc23 rfl) rfl rfl (kk_wl ?_))
        refine wl_g rfl rfl (ow_y (yh_cmpS rfl rfl rfl rfl) rfl rfl (kk_wl ?_))
        refine wl_g rfl rfl (ow_y (yh_pickT rfl rfl rfl) rfl rfl (kk_wl ?_))
        refine wl_u rfl (ow_y (yh_pickF rfl rfl rfl) rfl rfl (kk_wl ?_))
        refine wl_nil ?_
        refine ex_seq ?_
        refine cw_split rfl (fun cc4 => ?_) (fun cc4 => ?_)
        · skip
          replace h := bt cc4 h
          refine cw_seq ?_
          refine cw_region ?_
          refine wl_u rfl (ow_y (yh_assign rfl rfl) rfl rfl (kk_wl ?_))
          refine wl_nil ?_
          refine ex_seq ?_
          refine cw_ret ?_
          refine ex_block_ret ?_
          refine ex_then_ret ?_
          refine ex_then_ret ?_
          refine ex_block_ret ?_
          refine ex_then_ret ?_
          obtain rfl := Option.some.inj h
          obtain rfl := go_ret hk4
          exact ex_r1 Tb rfl (.tmp rfl) (fun wq hq => ⟨_, rfl, hq.ext, rfl⟩)
        · skip
          replace h := bf cc4 h
          refine cw_skip ?_
          refine ex_block_normal ?_
          refine ex_seq ?_
          refine cw_region ?_
          refine wl_u rfl (ow_y (yh_arI rfl rfl rfl rfl (by omega)) rfl rfl (kk_wl ?_))
          refine wl_u rfl (ow_y (yh_move rfl rfl) rfl rfl (kk_wl ?_))
          refine wl_nil ?_
          exact ex_next [] (hn4 (n4, s7 + 1) (Nat.lt_succ_self _) h) ⟨rfl, rfl, rfl, rfl, trivial⟩ (by kernel_rfl)
      · skip
        replace h := bf cc3 h
        have q3 := ltb_false.1 cc3
        refine wl_n rfl rfl rfl rfl ?_
        refine wl_n rfl rfl rfl rfl ?_
        refine wl_n rfl rfl rfl rfl ?_
        refine wl_n rfl rfl rfl rfl ?_
        refine wl_n rfl rfl rfl rfl ?_
        refine wl_n rfl rfl rfl rfl ?_
        refine wl_n rfl rfl rfl rfl ?_
        refine wl_g rfl rfl (ow_y (yh_pickF rfl rfl rfl) rfl rfl (kk_wl ?_))
        refine wl_u rfl (ow_y (yh_pickF rfl rfl rfl) rfl rfl (kk_wl ?_))
        refine wl_nil ?_
        refine ex_seq ?_
        refine cw_false rfl ?_
        refine cw_skip ?_
        refine ex_block_normal ?_
        refine ex_seq ?_
        refine cw_region ?_
        refine wl_u rfl (ow_y (yh_arI rfl rfl rfl rfl (by omega)) rfl rfl (kk_wl ?_))
        refine wl_u rfl (ow_y (yh_move rfl rfl) rfl rfl (kk_wl ?_))
        refine wl_nil ?_
        exact ex_next [] (hn4 (n4, s7 + 1) (Nat.lt_succ_self _) h) ⟨rfl, rfl, rfl, rfl, trivial⟩ (by kernel_rfl)
  · skip
    replace h := bf cc1 h
    have q4 := ltb_false.1 cc1
    refine cw_exit ?_
    refine ex_then_exit ?_
    refine ex_then_exit ?_
    obtain rfl := Option.some.inj h
    have h := go_brk hk4
    refine ex_block_exit ?_
    refine ex_seq ?_
    refine cw_seq ?_
    refine cw_region ?_
    refine wl_u rfl (ow_y (yh_assign rfl rfl) rfl rfl (kk_wl ?_))
    refine wl_nil ?_
    refine ex_seq ?_
    refine cw_ret ?_
    obtain rfl := Option.some.inj h
    exact ex_r1 Tb rfl (.tmp rfl) (fun wq hq => ⟨_, rfl, hq.ext, rfl⟩)

def m_slices_Index_string_L4 (N : Nat) (s_ : List Str) (v_ : Str) : Nat → Nat → Option (Ex (Nat) (Int))
  | 0, _ => none
  | n + 1, s8 => (bif ltb ((s8 : Nat) : Int) ((s_.length : Nat) : Int) then (s_[s8]?).bind fun y14 => (bif seq v_ y14 then some (Ex.ret ((s8 : Nat) : Int))
 else m_slices_Index_string_L4 N s_ v_ n (s8 + 1))
 else some (Ex.brk (s8)))

def m_slices_Index_string (N : Nat) (s_ : List Str) (v_ : Str) : Option (Int) := (m_slices_Index_string_L4 N s_ v_ N 0).bind fun e4 => e4.go (fun r => r) fun b4 => some (-1)

set_option maxHeartbeats 4000000 in
theorem c_slices_Index_string (N : Nat) (s_ : List Str) (v_ : Str) (res : Int) (h : m_slices_Index_string N s_ v_ = some res) (w : World) {a_s_ : Option Addr} {c_s_ : Nat} (h_s_ : strsL.rd w [] [.slice a_s_ s_.length c_s_] s_) : Ret Tryz.prog 125 [.slice a_s_ s_.length c_s_, .string v_] w [] fun v w' => v = .int .i64 res := by
  have mh_s_ := rd_max h_s_
  unfold m_slices_Index_string at h
  refine ret_enter Tryz.func125 rfl Tryz.ntmps125 rfl (Hp.refl w _) ?_
  refine cw_seq ?_
  refine cw_region ?_
  refine wl_u rfl (ow_y (yh_assign rfl rfl) rfl rfl (kk_wl ?_))
  refine wl_nil ?_
  refine ex_seq ?_
  refine cw_seq ?_
  refine cw_seq ?_
  refine cw_region ?_
  refine wl_u rfl (ow_y (yh_move rfl rfl) rfl rfl (kk_wl ?_))
  refine wl_u rfl (ow_y (yh_lenS Tb rfl rfl rfl rfl) rfl rfl (kk_wl ?_))
  refine wl_u rfl (ow_y (yh_move rfl rfl) rfl rfl (kk_wl ?_))
  refine wl_nil ?_
  refine ex_seq ?_
  refine cw_block ?_
  obtain ⟨e4, he4, hk4⟩ := bd h
  clear h
  refine cw_loopG (σ := Nat × Nat) (fun s => m_slices_Index_string_L4 N s_ v_ s.1 s.2 = some e4) (fun s => [(0, .slice a_s_ s_.length c_s_), (1, .string v_), (7, .int .i64 ((s_.length : Nat) : Int)), (8, .int .i64 ((s.2 : Nat) : Int))]) (fun s => []) (fun s => s.1) (N, 0) [] he4 ⟨rfl, rfl, rfl, rfl, trivial⟩ rfl (fun KL s he4 hn4 => ?_)
  obtain ⟨n4, s8⟩ := s
  simp only at he4 hn4 ⊢
  rcases n4 with _ | n4
  · exact nosome he4
  have h := he4; rw [m_slices_Index_string_L4] at h
  refine cw_seq ?_
  refine cw_region ?_
  refine wl_u rfl (ow_y (yh_cmpI rfl rfl rfl rfl) rfl rfl (kk_wl ?_))
  refine wl_nil ?_
  refine ex_seq ?_
  refine cw_seq ?_
  refine cw_split rfl (fun cc1 => ?_) (fun cc1 => ?_)
  · skip
    replace h := bt cc1 h
    have q1 := ltb_true.1 cc1
    refine cw_skip ?_
    refine ex_seq ?_
    refine cw_seq ?_
    refine cw_block ?_
    refine cw_seq ?_
    refine cw_region ?_
    refine wl_u rfl (ow_y (yh_move rfl rfl) rfl rfl (kk_wl ?_))
    refine wl_u rfl (ow_y (yh_assign rfl rfl) rfl rfl (kk_wl ?_))
    refine wl_nil ?_
    refine ex_seq ?_
    refine cw_seq ?_
    refine cw_region ?_
    refine wl_u rfl (ow_y (yh_move rfl rfl) rfl rfl (kk_wl ?_))
    refine wl_u rfl (ow_y (yh_move rfl rfl) rfl rfl (kk_wl ?_))
    refine wl_u rfl (ow_y (yh_move rfl rfl) rfl rfl (kk_wl ?_))
    obtain ⟨y14, hy14, h⟩ := bd h
    obtain ⟨b14, o14, ha14⟩ := sl_addr h_s_ hy14
    subst ha14
    have hc14 := get_str h_s_ hy14
    refine wl_u rfl (ow_y (yh_idx Tb (k := s8) rfl rfl rfl rfl (get_lt hy14) rfl rfl) rfl rfl (kk_wl ?_))
    refine wl_u rfl (ow_y (yh_loadA0 Tb rfl rfl rfl hc14 rfl) rfl rfl (kk_wl ?_))
    refine wl_u rfl (ow_y (yh_cmpS rfl rfl rfl rfl) rfl rfl (kk_wl ?_))
    refine wl_nil ?_
    refine ex_seq ?_
    refine cw_split rfl (fun cc2 => ?_) (fun cc2 => ?_)
    · skip
      replace h := bt cc2 h
      refine cw_seq ?_
      refine cw_region ?_
      refine wl_u rfl (ow_y (yh_move rfl rfl) rfl rfl (kk_wl ?_))
      refine wl_u rfl (ow_y (yh_assign rfl rfl) rfl rfl (kk_wl ?_))
      refine wl_nil ?_
      refine ex_seq ?_
      refine cw_ret ?_
      refine ex_block_ret ?_
      refine ex_then_ret ?_
      refine ex_then_ret ?_
      refine ex_block_ret ?_
      refine ex_then_ret ?_
      obtain rfl := Option.some.inj h
      obtain rfl := go_ret hk4
      exact ex_r1 Tb rfl (.tmp rfl) (fun wq hq => ⟨_, rfl, hq.ext, rfl⟩)
    · skip
      replace h := bf cc2 h
      refine cw_skip ?_
      refine ex_block_normal ?_
      refine ex_seq ?_
      refine cw_region ?_
      refine wl_u rfl (ow_y (yh_arI rfl rfl rfl rfl (by omega)) rfl rfl (kk_wl ?_))
      refine wl_u rfl (ow_y (yh_move rfl rfl) rfl rfl (kk_wl ?_))
      refine wl_nil ?_
      exact ex_next [] (hn4 (n4, s8 + 1) (Nat.lt_succ_self _) h) ⟨rfl, rfl, rfl, rfl, trivial⟩ (by kernel_rfl)
  · skip
    replace h := bf cc1 h
    have q2 := ltb_false.1 cc1
    refine cw_exit ?_
    refine ex_then_exit ?_
    refine ex_then_exit ?_
    obtain rfl := Option.some.inj h
    have h := go_brk hk4
    refine ex_block_exit ?_
    refine ex_seq ?_
    refine cw_seq ?_
    refine cw_region ?_
    refine wl_u rfl (ow_y (yh_assign rfl rfl) rfl rfl (kk_wl ?_))
    refine wl_nil ?_
    refine ex_seq ?_
    refine cw_ret ?_
    obtain rfl := Option.some.inj h
    exact ex_r1 Tb rfl (.tmp rfl) (fun wq hq => ⟨_, rfl, hq.ext, rfl⟩)

def m_slices_Contains_string (N : Nat) (s_ : List Str) (v_ : Str) : Option (Bool) := (m_slices_Index_string N s_ v_).bind fun x7 => some (leb 0 x7)

set_option maxHeartbeats 4000000 in
theorem c_slices_Contains_string (N : Nat) (s_ : List Str) (v_ : Str) (res : Bool) (h : m_slices_Contains_string N s_ v_ = some res) (w : World) {a_s_ : Option Addr} {c_s_ : Nat} (h_s_ : strsL.rd w [] [.slice a_s_ s_.length c_s_] s_) : Ret Tryz.prog 98 [.slice a_s_ s_.length c_s_, .string v_] w [] fun v w' => v = .bool res := by
  have mh_s_ := rd_max h_s_
  unfold m_slices_Contains_string at h
  refine ret_enter Tryz.func98 rfl Tryz.ntmps98 rfl (Hp.refl w _) ?_
  refine cw_seq ?_
  refine cw_region ?_
  refine wl_u rfl (ow_y (yh_assign rfl rfl) rfl rfl (kk_wl ?_))
  refine wl_nil ?_
  refine ex_seq ?_
  refine cw_seq ?_
  refine cw_region ?_
  refine wl_u rfl (ow_y (yh_move rfl rfl) rfl rfl (kk_wl ?_))
  refine wl_u rfl (ow_y (yh_move rfl rfl) rfl rfl (kk_wl ?_))
  obtain ⟨x7, hx7, h⟩ := bd h
  refine wl_u rfl (ow_cV rfl hb125 rfl (fun w hw => c_slices_Index_string N _ _ _ hx7 w (Lay.at_ h_s_ hw)) rfl rfl (kk_wl ?_))
  refine wl_u rfl (ow_y (yh_cmpI rfl rfl rfl rfl) rfl rfl (kk_wl ?_))
  refine wl_u rfl (ow_y (yh_assign rfl rfl) rfl rfl (kk_wl ?_))
  refine wl_nil ?_
  refine ex_seq ?_
  refine cw_ret ?_
  obtain rfl := Option.some.inj h
  exact ex_r1 Tb rfl (.tmp rfl) (fun wq hq => ⟨_, rfl, hq.ext, rfl⟩)

def m_impl_StepValid (N : Nat) (s_ : Step) : Option (Bool) := (m_impl_NameValid N s_.name).bind fun x5 => (bif x5 then (bif leb ((s_.after.length : Nat) : Int) 4 then (m_impl_namesAscend N s_.after).bind fun x15 => (bif x15 then (m_slices_Contains_string N s_.after s_.name).bind fun x22 => some (!x22)
 else some false)
 else some false)
 else some false)

set_option maxHeartbeats 4000000 in
theorem c_impl_StepValid (N : Nat) (s_ : Step) (res : Bool) (h : m_impl_StepValid N s_ = some res) (w : World) {a_s__after : Option Addr} {c_s__after : Nat} (h_s__after : strsL.rd w [] [.slice a_s__after s_.after.length c_s__after] s_.after) : Ret Tryz.prog 71 [.agg #[.string s_.name, .slice a_s__after s_.after.length c_s__after, .bool s_.undo]] w [] fun v w' => v = .bool res := by
  have mh_s__after := rd_max h_s__after
  unfold m_impl_StepValid at h
  refine ret_enter Tryz.func71 rfl Tryz.ntmps71 rfl (Hp.refl w _) ?_
  refine cw_seq ?_
  refine cw_region ?_
  refine wl_u rfl (ow_boxA rfl rfl rfl rfl (fun g1 => kk_wl ?_))
  refine wl_u rfl (ow_y (yh_assign rfl rfl) rfl rfl (kk_wl ?_))
  refine wl_nil ?_
  refine ex_seq ?_
  refine cw_seq ?_
  refine cw_region ?_
  refine wl_u rfl (ow_y (yh_field Tb rfl rfl rfl) rfl rfl (kk_wl ?_))
  refine wl_u rfl (ow_y (yh_loadB Tb (k := 0) rfl rfl rfl rfl rfl) rfl rfl (kk_wl ?_))
  obtain ⟨x5, hx5, h⟩ := bd h
  refine wl_u rfl (ow_cV rfl hb103 rfl (fun w hw => c_impl_NameValid N _ _ hx5 w) rfl rfl (kk_wl ?_))
  refine wl_u rfl (ow_y (yh_move rfl rfl) rfl rfl (kk_wl ?_))
  refine wl_s rfl rfl (fun cc1 => ?_) (fun cc1 => ?_)
  · skip
    replace h := bt cc1 h
    refine wl_g rfl rfl (ow_y (yh_field Tb rfl rfl rfl) rfl rfl (kk_wl ?_))
    refine wl_g rfl rfl (ow_y (yh_loadB Tb (k := 0) rfl rfl rfl rfl rfl) rfl rfl (kk_wl ?_))
    refine wl_g rfl rfl (ow_y (yh_lenS Tb rfl rfl rfl rfl) rfl rfl (kk_wl ?_))
    refine wl_g rfl rfl (ow_y (yh_cmpI rfl rfl rfl rfl) rfl rfl (kk_wl ?_))
    refine wl_u rfl (ow_y (yh_pickT rfl rfl rfl) rfl rfl (kk_wl ?_))
    refine wl_u rfl (ow_y (yh_move rfl rfl) rfl rfl (kk_wl ?_))
    refine wl_s rfl rfl (fun cc2 => ?_) (fun cc2 => ?_)
    · skip
      replace h := bt cc2 h
      have q1 := leb_true.1 cc2
      refine wl_g rfl rfl (ow_y (yh_field Tb rfl rfl rfl) rfl rfl (kk_wl ?_))
      refine wl_g rfl rfl (ow_y (yh_loadB Tb (k := 0) rfl rfl rfl rfl rfl) rfl rfl (kk_wl ?_))
      obtain ⟨x15, hx15, h⟩ := bd h
      refine wl_g rfl rfl (ow_cV rfl hb78 rfl (fun w hw => c_impl_namesAscend N _ _ hx15 w (Lay.at_ h_s__after hw)) rfl rfl (kk_wl ?_))
      refine wl_u rfl (ow_y (yh_pickT rfl rfl rfl) rfl rfl (kk_wl ?_))
      refine wl_u rfl (ow_y (yh_move rfl rfl) rfl rfl (kk_wl ?_))
      refine wl_s rfl rfl (fun cc3 => ?_) (fun cc3 => ?_)
      · skip
        replace h := bt cc3 h
        refine wl_g rfl rfl (ow_y (yh_field Tb rfl rfl rfl) rfl rfl (kk_wl ?_))
        refine wl_g rfl rfl (ow_y (yh_loadB Tb (k := 0) rfl rfl rfl rfl rfl) rfl rfl (kk_wl ?_))
        refine wl_g rfl rfl (ow_y (yh_field Tb rfl rfl rfl) rfl rfl (kk_wl ?_))
        refine wl_g rfl rfl (ow_y (yh_loadB Tb (k := 0) rfl rfl rfl rfl rfl) rfl rfl (kk_wl ?_))
        obtain ⟨x22, hx22, h⟩ := bd h
        refine wl_g rfl rfl (ow_cV rfl hb98 rfl (fun w hw => c_slices_Contains_string N _ _ _ hx22 w (Lay.at_ h_s__after hw)) rfl rfl (kk_wl ?_))
        refine wl_g rfl rfl (ow_y (yh_not rfl rfl) rfl rfl (kk_wl ?_))
        refine wl_u rfl (ow_y (yh_pickT rfl rfl rfl) rfl rfl (kk_wl ?_))
        refine wl_u rfl (ow_y (yh_assign rfl rfl) rfl rfl (kk_wl ?_))
        refine wl_nil ?_
        refine ex_seq ?_
        refine cw_ret ?_
        obtain rfl := Option.some.inj h
        exact ex_r1 Tb rfl (.tmp rfl) (fun wq hq => ⟨_, rfl, hq.ext, rfl⟩)
      · skip
        replace h := bf cc3 h
        refine wl_n rfl rfl rfl rfl ?_
        refine wl_n rfl rfl rfl rfl ?_
        refine wl_n rfl rfl rfl rfl ?_
        refine wl_n rfl rfl rfl rfl ?_
        refine wl_n rfl rfl rfl rfl ?_
        refine wl_n rfl rfl rfl rfl ?_
        refine wl_u rfl (ow_y (yh_pickF rfl rfl rfl) rfl rfl (kk_wl ?_))
        refine wl_u rfl (ow_y (yh_assign rfl rfl) rfl rfl (kk_wl ?_))
        refine wl_nil ?_
        refine ex_seq ?_
        refine cw_ret ?_
        obtain rfl := Option.some.inj h
        exact ex_r1 Tb rfl (.tmp rfl) (fun wq hq => ⟨_, rfl, hq.ext, rfl⟩)
    · skip
      replace h := bf cc2 h
      have q2 := leb_false.1 cc2
      refine wl_n rfl rfl rfl rfl ?_
      refine wl_n rfl rfl rfl rfl ?_
      refine wl_n rfl rfl rfl rfl ?_
      refine wl_u rfl (ow_y (yh_pickF rfl rfl rfl) rfl rfl (kk_wl ?_))
      refine wl_u rfl (ow_y (yh_move rfl rfl) rfl rfl (kk_wl ?_))
      refine wl_s rfl rfl nofun (fun _ => ?_)
      refine wl_n rfl rfl rfl rfl ?_
      refine wl_n rfl rfl rfl rfl ?_
      refine wl_n rfl rfl rfl rfl ?_
      refine wl_n rfl rfl rfl rfl ?_
      refine wl_n rfl rfl rfl rfl ?_
      refine wl_n rfl rfl rfl rfl ?_
      refine wl_u rfl (ow_y (yh_pickF rfl rfl rfl) rfl rfl (kk_wl ?_))
      refine wl_u rfl (ow_y (yh_assign rfl rfl) rfl rfl (kk_wl ?_))
      refine wl_nil ?_
      refine ex_seq ?_
      refine cw_ret ?_
      obtain rfl := Option.some.inj h
      exact ex_r1 Tb rfl (.tmp rfl) (fun wq hq => ⟨_, rfl, hq.ext, rfl⟩)
  · skip
    replace h := bf cc1 h
    refine wl_n rfl rfl rfl rfl ?_
    refine wl_n rfl rfl rfl rfl ?_
    refine wl_n rfl rfl rfl rfl ?_
    refine wl_n rfl rfl rfl rfl ?_
    refine wl_u rfl (ow_y (yh_pickF rfl rfl rfl) rfl rfl (kk_wl ?_))
    refine wl_u rfl (ow_y (yh_move rfl rfl) rfl rfl (kk_wl ?_))
    refine wl_s rfl rfl nofun (fun _ => ?_)
    refine wl_n rfl rfl rfl rfl ?_
    refine wl_n rfl rfl rfl rfl ?_
    refine wl_n rfl rfl rfl rfl ?_
    refine wl_u rfl (ow_y (yh_pickF rfl rfl rfl) rfl rfl (kk_wl ?_))
    refine wl_u rfl (ow_y (yh_move rfl rfl) rfl rfl (kk_wl ?_))
    refine wl_s rfl rfl nofun (fun _ => ?_)
    refine wl_n rfl rfl rfl rfl ?_
    refine wl_n rfl rfl rfl rfl ?_
    refine wl_n rfl rfl rfl rfl ?_
    refine wl_n rfl rfl rfl rfl ?_
    refine wl_n rfl rfl rfl rfl ?_
    refine wl_n rfl rfl rfl rfl ?_
    refine wl_u rfl (ow_y (yh_pickF rfl rfl rfl) rfl rfl (kk_wl ?_))
    refine wl_u rfl (ow_y (yh_assign rfl rfl) rfl rfl (kk_wl ?_))
    refine wl_nil ?_
    refine ex_seq ?_
    refine cw_ret ?_
    obtain rfl := Option.some.inj h
    exact ex_r1 Tb rfl (.tmp rfl) (fun wq hq => ⟨_, rfl, hq.ext, rfl⟩)

def m_impl_NamesHave_L4 (N : Nat) (list_ : List Str) (names : List Str) : Nat → Nat → Option (Ex (Nat) (Bool))
  | 0, _ => none
  | n + 1, s9 => (bif ltb ((s9 : Nat) : Int) ((names.length : Nat) : Int) then (names[s9]?).bind fun y11 => (m_slices_Contains_string N list_ y11).bind fun x15 => (bif !x15 then some (Ex.ret false)
 else m_impl_NamesHave_L4 N list_ names n (s9 + 1))
 else some (Ex.brk (s9)))

def m_impl_NamesHave (N : Nat) (list_ : List Str) (names : List Str) : Option (Bool) := (m_impl_NamesHave_L4 N list_ names N 0).bind fun e4 => e4.go (fun r => r) fun b4 => some true

set_option maxHeartbeats 4000000 in
theorem c_impl_NamesHave (N : Nat) (list_ : List Str) (names : List Str) (res : Bool) (h : m_impl_NamesHave N list_ names = some res) (w : World) {a_list_ a_names : Option Addr} {c_list_ c_names : Nat} (h_list_ : strsL.rd w [] [.slice a_list_ list_.length c_list_] list_) (h_names : strsL.rd w [] [.slice a_names names.length c_names] names) : Ret Tryz.prog 66 [.slice a_list_ list_.length c_list_, .slice a_names names.length c_names] w [] fun v w' => v = .bool res := by
  have mh_list_ := rd_max h_list_
  have mh_names := rd_max h_names
  unfold m_impl_NamesHave at h
  refine ret_enter Tryz.func66 rfl Tryz.ntmps66 rfl (Hp.refl w _) ?_
  refine cw_seq ?_
  refine cw_region ?_
  refine wl_u rfl (ow_y (yh_assign rfl rfl) rfl rfl (kk_wl ?_))
  refine wl_nil ?_
  refine ex_seq ?_
  refine cw_seq ?_
  refine cw_seq ?_
  refine cw_region ?_
  refine wl_u rfl (ow_y (yh_move rfl rfl) rfl rfl (kk_wl ?_))
  refine wl_u rfl (ow_y (yh_lenS Tb rfl rfl rfl rfl) rfl rfl (kk_wl ?_))
  refine wl_u rfl (ow_y (yh_move rfl rfl) rfl rfl (kk_wl ?_))
  refine wl_nil ?_
  refine ex_seq ?_
  refine cw_block ?_
  obtain ⟨e4, he4, hk4⟩ := bd h
  clear h
  refine cw_loopG (σ := Nat × Nat) (fun s => m_impl_NamesHave_L4 N list_ names s.1 s.2 = some e4) (fun s => [(0, .slice a_list_ list_.length c_list_), (7, .slice a_names names.length c_names), (8, .int .i64 ((names.length : Nat) : Int)), (9, .int .i64 ((s.2 : Nat) : Int))]) (fun s => []) (fun s => s.1) (N, 0) [] he4 ⟨rfl, rfl, rfl, rfl, trivial⟩ rfl (fun KL s he4 hn4 => ?_)
  obtain ⟨n4, s9⟩ := s
  simp only at he4 hn4 ⊢
  rcases n4 with _ | n4
  · exact nosome he4
  have h := he4; rw [m_impl_NamesHave_L4] at h
  refine cw_seq ?_
  refine cw_region ?_
  refine wl_u rfl (ow_y (yh_cmpI rfl rfl rfl rfl) rfl rfl (kk_wl ?_))
  refine wl_nil ?_
  refine ex_seq ?_
  refine cw_seq ?_
  refine cw_split rfl (fun cc1 => ?_) (fun cc1 => ?_)
  · skip
    replace h := bt cc1 h
    have q1 := ltb_true.1 cc1
    refine cw_skip ?_
    refine ex_seq ?_
    refine cw_seq ?_
    refine cw_block ?_
    refine cw_seq ?_
    refine cw_region ?_
    obtain ⟨y11, hy11, h⟩ := bd h
    obtain ⟨b11, o11, ha11⟩ := sl_addr h_names hy11
    subst ha11
    have hc11 := get_str h_names hy11
    refine wl_u rfl (ow_y (yh_idx Tb (k := s9) rfl rfl rfl rfl (get_lt hy11) rfl rfl) rfl rfl (kk_wl ?_))
    refine wl_u rfl (ow_y (yh_loadA0 Tb rfl rfl rfl hc11 rfl) rfl rfl (kk_wl ?_))
    refine wl_u rfl (ow_y (yh_assign rfl rfl) rfl rfl (kk_wl ?_))
    refine wl_nil ?_
    refine ex_seq ?_
    refine cw_seq ?_
    refine cw_region ?_
    refine wl_u rfl (ow_y (yh_move rfl rfl) rfl rfl (kk_wl ?_))
    refine wl_u rfl (ow_y (yh_move rfl rfl) rfl rfl (kk_wl ?_))
    obtain ⟨x15, hx15, h⟩ := bd h
    refine wl_u rfl (ow_cV rfl hb98 rfl (fun w hw => c_slices_Contains_string N _ _ _ hx15 w (Lay.at_ h_list_ hw)) rfl rfl (kk_wl ?_))
    refine wl_u rfl (ow_y (yh_not rfl rfl) rfl rfl (kk_wl ?_))
    refine wl_nil ?_
    refine ex_seq ?_
    refine cw_split rfl (fun cc2 => ?_) (fun cc2 => ?_)
    · skip
      replace h := bt cc2 h
      refine cw_seq ?_
      refine cw_region ?_
      refine wl_u rfl (ow_y (yh_assign rfl rfl) rfl rfl (kk_wl ?_))
      refine wl_nil ?_
      refine ex_seq ?_
      refine cw_ret ?_
      refine ex_block_ret ?_
      refine ex_then_ret ?_
      refine ex_then_ret ?_
      refine ex_block_ret ?_
      refine ex_then_ret ?_
      obtain rfl := Option.some.inj h
      obtain rfl := go_ret hk4
      exact ex_r1 Tb rfl (.tmp rfl) (fun wq hq => ⟨_, rfl, hq.ext, rfl⟩)
    · skip
      replace h := bf cc2 h
      refine cw_skip ?_
      refine ex_block_normal ?_
      refine ex_seq ?_
      refine cw_region ?_
      refine wl_u rfl (ow_y (yh_arI rfl rfl rfl rfl (by omega)) rfl rfl (kk_wl ?_))
      refine wl_u rfl (ow_y (yh_move rfl rfl) rfl rfl (kk_wl ?_))
      refine wl_nil ?_
      exact ex_next [] (hn4 (n4, s9 + 1) (Nat.lt_succ_self _) h) ⟨rfl, rfl, rfl, rfl, trivial⟩ (by kernel_rfl)
  · skip
    replace h := bf cc1 h
    have q2 := ltb_false.1 cc1
    refine cw_exit ?_
    refine ex_then_exit ?_
    refine ex_then_exit ?_
    obtain rfl := Option.some.inj h
    have h := go_brk hk4
    refine ex_block_exit ?_
    refine ex_seq ?_
    refine cw_seq ?_
    refine cw_region ?_
    refine wl_u rfl (ow_y (yh_assign rfl rfl) rfl rfl (kk_wl ?_))
    refine wl_nil ?_
    refine ex_seq ?_
    refine cw_ret ?_
    obtain rfl := Option.some.inj h
    exact ex_r1 Tb rfl (.tmp rfl) (fun wq hq => ⟨_, rfl, hq.ext, rfl⟩)

def m_impl_Flow_ready_L5 (N : Nat) (f : Flow) (done : List Str) : Nat → (List Str) → Nat → Option (Ex (List Str × Nat) (List Str))
  | 0, _, _ => none
  | n + 1, s5, s11 => (bif ltb ((s11 : Nat) : Int) ((f.steps.length : Nat) : Int) then (f.steps[s11]?).bind fun y13 => (m_slices_Contains_string N done y13.name).bind fun x18 => (bif !x18 then (m_impl_NamesHave N done y13.after).bind fun x24 => (bif x24 then (appd s5 ([y13.name] : List Str)).bind fun l30 => m_impl_Flow_ready_L5 N f done n (s5 ++ ([y13.name] : List Str)) (s11 + 1)
 else m_impl_Flow_ready_L5 N f done n s5 (s11 + 1))
 else m_impl_Flow_ready_L5 N f done n s5 (s11 + 1))
 else some (Ex.brk (s5, s11)))

def m_impl_Flow_ready (N : Nat) (f : Flow) (done : List Str) : Option (List Str) := (m_impl_Flow_ready_L5 N f done N ([] : List Str) 0).bind fun e5 => e5.go (fun r => r) fun b5 => some b5.1

set_option maxHeartbeats 4000000 in
theorem c_impl_Flow_ready (N : Nat) (f : Flow) (done : List Str) (res : List Str) (h : m_impl_Flow_ready N f done = some res) (w : World) {a_done a_f_steps : Option Addr} {c_done c_f_steps : Nat} (h_f_steps : stepsL.rd w [] [.slice a_f_steps f.steps.length c_f_steps] f.steps) (h_done : strsL.rd w [] [.slice a_done done.length c_done] done) : Ret Tryz.prog 82 [.agg #[.int .i64 f.ver, .slice a_f_steps f.steps.length c_f_steps], .slice a_done done.length c_done] w [] fun v w' => ∃ a1 c1 F1, v = .slice a1 res.length c1 ∧ NewC w w' [owC strsL F1 [.slice a1 res.length c1] res] := by
  have mh_f_steps := rd_max h_f_steps
  have mh_done := rd_max h_done
  unfold m_impl_Flow_ready at h
  refine ret_enter Tryz.func82 rfl Tryz.ntmps82 rfl (Hp.refl w _) ?_
  refine cw_seq ?_
  refine cw_region ?_
  refine wl_u rfl (ow_boxA rfl rfl rfl rfl (fun g2 => kk_wl ?_))
  refine wl_u rfl (ow_y (yh_assign rfl rfl) rfl rfl (kk_wl ?_))
  refine wl_nil ?_
  refine ex_seq ?_
  refine cw_seq ?_
  refine cw_region ?_
  refine wl_u rfl (ow_y (yh_assign rfl rfl) rfl rfl (kk_wl ?_))
  refine wl_nil ?_
  refine ex_seq ?_
  refine cw_seq ?_
  refine cw_seq ?_
  refine cw_region ?_
  refine wl_u rfl (ow_y (yh_field Tb rfl rfl rfl) rfl rfl (kk_wl ?_))
  refine wl_u rfl (ow_y (yh_loadB Tb (k := 0) rfl rfl rfl rfl rfl) rfl rfl (kk_wl ?_))
  refine wl_u rfl (ow_y (yh_lenS Tb rfl rfl rfl rfl) rfl rfl (kk_wl ?_))
  refine wl_u rfl (ow_y (yh_move rfl rfl) rfl rfl (kk_wl ?_))
  refine wl_nil ?_
  refine ex_seq ?_
  refine cw_block ?_
  obtain ⟨e5, he5, hk5⟩ := bd h
  clear h
  refine cw_nilS strsL rfl ?_
  refine cw_loopG (σ := Nat × (List Str) × Nat × (Option Addr) × Nat × (List Nat)) (fun s => m_impl_Flow_ready_L5 N f done s.1 s.2.1 s.2.2.1 = some e5) (fun s => [(1, .slice a_done done.length c_done), (5, .slice s.2.2.2.1 s.2.1.length s.2.2.2.2.1), (9, .slice a_f_steps f.steps.length c_f_steps), (10, .int .i64 ((f.steps.length : Nat) : Int)), (11, .int .i64 ((s.2.2.1 : Nat) : Int))]) (fun s => [owC strsL s.2.2.2.2.2 [.slice s.2.2.2.1 s.2.1.length s.2.2.2.2.1] s.2.1]) (fun s => s.1) (N, ([] : List Str), 0, none, 0, []) [0] he5 ⟨rfl, rfl, rfl, rfl, rfl, trivial⟩ rfl (fun KL s he5 hn5 => ?_)
  obtain ⟨n5, s5, s11, as5, cs5, Fs5⟩ := s
  simp only at he5 hn5 ⊢
  rcases n5 with _ | n5
  · exact nosome he5
  have h := he5; rw [m_impl_Flow_ready_L5] at h
  refine cw_seq ?_
  refine cw_region ?_
  refine wl_u rfl (ow_y (yh_cmpI rfl rfl rfl rfl) rfl rfl (kk_wl ?_))
  refine wl_nil ?_
  refine ex_seq ?_
  refine cw_seq ?_
  refine cw_split rfl (fun cc1 => ?_) (fun cc1 => ?_)
  · skip
    replace h := bt cc1 h
    have q1 := ltb_true.1 cc1
    refine cw_skip ?_
    refine ex_seq ?_
    refine cw_seq ?_
    refine cw_block ?_
    refine cw_seq ?_
    refine cw_region ?_
    obtain ⟨y13, hy13, h⟩ := bd h
    obtain ⟨b13, o13, ha13⟩ := sl_addr h_f_steps hy13
    subst ha13
    obtain ⟨a13, e13, hc13, hf13⟩ := get_step h_f_steps hy13
    have mx13 := rd_max hf13
    refine wl_u rfl (ow_y (yh_idx Tb (k := s11) rfl rfl rfl rfl (get_lt hy13) rfl rfl) rfl rfl (kk_wl ?_))
    refine wl_u rfl (ow_y (yh_loadAN Tb rfl rfl rfl rfl hc13 rfl) rfl rfl (kk_wl ?_))
    refine wl_u rfl (ow_allocA Tb rfl rfl rfl rfl (fun g7 => kk_wl ?_))
    refine wl_u rfl (ow_storeA Tb (k := 0) rfl rfl rfl rfl rfl rfl rfl rfl rfl (kk_wl ?_))
    refine wl_nil ?_
    refine ex_seq ?_
    refine cw_seq ?_
    refine cw_region ?_
    refine wl_u rfl (ow_y (yh_move rfl rfl) rfl rfl (kk_wl ?_))
    refine wl_u rfl (ow_y (yh_field Tb rfl rfl rfl) rfl rfl (kk_wl ?_))
    refine wl_u rfl (ow_y (yh_loadB Tb (k := 0) rfl rfl rfl rfl rfl) rfl rfl (kk_wl ?_))
    obtain ⟨x18, hx18, h⟩ := bd h
    refine wl_u rfl (ow_cV rfl hb98 rfl (fun w hw => c_slices_Contains_string N _ _ _ hx18 w (Lay.at_ h_done hw)) rfl rfl (kk_wl ?_))
    refine wl_u rfl (ow_y (yh_not rfl rfl) rfl rfl (kk_wl ?_))
    refine wl_u rfl (ow_y (yh_move rfl rfl) rfl rfl (kk_wl ?_))
    refine wl_s rfl rfl (fun cc2 => ?_) (fun cc2 => ?_)
    · skip
      replace h := bt cc2 h
      refine wl_g rfl rfl (ow_y (yh_move rfl rfl) rfl rfl (kk_wl ?_))
      refine wl_g rfl rfl (ow_y (yh_field Tb rfl rfl rfl) rfl rfl (kk_wl ?_))
      refine wl_g rfl rfl (ow_y (yh_loadB Tb (k := 0) rfl rfl rfl rfl rfl) rfl rfl (kk_wl ?_))
      obtain ⟨x24, hx24, h⟩ := bd h
      refine wl_g rfl rfl (ow_cV rfl hb66 rfl (fun w hw => c_impl_NamesHave N _ _ _ hx24 w (Lay.at_ h_done hw) (Lay.at_ hf13 hw)) rfl rfl (kk_wl ?_))
      refine wl_u rfl (ow_y (yh_pickT rfl rfl rfl) rfl rfl (kk_wl ?_))
      refine wl_nil ?_
      refine ex_seq ?_
      refine cw_split rfl (fun cc3 => ?_) (fun cc3 => ?_)
      · skip
        replace h := bt cc3 h
        refine cw_region ?_
        refine wl_u rfl (ow_y (yh_move rfl rfl) rfl rfl (kk_wl ?_))
        refine wl_u rfl (ow_y (yh_field Tb rfl rfl rfl) rfl rfl (kk_wl ?_))
        refine wl_u rfl (ow_y (yh_loadB Tb (k := 0) rfl rfl rfl rfl rfl) rfl rfl (kk_wl ?_))
        refine wl_u rfl (ow_lit1 Tb rfl rfl rfl rfl rfl rfl rfl rfl rfl rfl (fun g29 => kk_chg (c' := owC strsL [g29] [.slice (some ⟨g29, 0, none⟩) 1 1] ([y13.name] : List Str)) 0 rfl (fun w hA => own_strsL ([y13.name] : List Str) hA rfl (by simp [maxLen])) rfl (kk_wl ?_)))
        obtain ⟨hll30, h⟩ := bd_appd h
        refine wl_u rfl (ow_appP Tb (i := 2) rfl rfl rfl rfl rfl (fun w hw => rdo (A := strsL) 0 rfl hw) rfl rfl rfl rfl hll30 (by decide) rfl rfl (fun a30 c30 F30 => kk_wl ?_))
        refine wl_u rfl (ow_y (yh_assign rfl rfl) rfl rfl (kk_wl ?_))
        refine wl_nil ?_
        refine ex_block_normal ?_
        refine ex_seq ?_
        refine cw_region ?_
        refine wl_u rfl (ow_y (yh_arI rfl rfl rfl rfl (by omega)) rfl rfl (kk_wl ?_))
        refine wl_u rfl (ow_y (yh_move rfl rfl) rfl rfl (kk_wl ?_))
        refine wl_nil ?_
        exact ex_next [0] (hn5 (n5, (s5 ++ ([y13.name] : List Str)), s11 + 1, a30, c30, F30) (Nat.lt_succ_self _) h) ⟨rfl, rfl, rfl, rfl, rfl, trivial⟩ (by kernel_rfl)
      · skip
        replace h := bf cc3 h
        refine cw_skip ?_
        refine ex_block_normal ?_
        refine ex_seq ?_
        refine cw_region ?_
        refine wl_u rfl (ow_y (yh_arI rfl rfl rfl rfl (by omega)) rfl rfl (kk_wl ?_))
        refine wl_u rfl (ow_y (yh_move rfl rfl) rfl rfl (kk_wl ?_))
        refine wl_nil ?_
        exact ex_next [1] (hn5 (n5, s5, s11 + 1, as5, cs5, Fs5) (Nat.lt_succ_self _) h) ⟨rfl, rfl, rfl, rfl, rfl, trivial⟩ (by kernel_rfl)
    · skip
      replace h := bf cc2 h
      refine wl_n rfl rfl rfl rfl ?_
      refine wl_n rfl rfl rfl rfl ?_
      refine wl_n rfl rfl rfl rfl ?_
      refine wl_n rfl rfl rfl rfl ?_
      refine wl_u rfl (ow_y (yh_pickF rfl rfl rfl) rfl rfl (kk_wl ?_))
      refine wl_nil ?_
      refine ex_seq ?_
      refine cw_false rfl ?_
      refine cw_skip ?_
      refine ex_block_normal ?_
      refine ex_seq ?_
      refine cw_region ?_
      refine wl_u rfl (ow_y (yh_arI rfl rfl rfl rfl (by omega)) rfl rfl (kk_wl ?_))
      refine wl_u rfl (ow_y (yh_move rfl rfl) rfl rfl (kk_wl ?_))
      refine wl_nil ?_
      exact ex_next [1] (hn5 (n5, s5, s11 + 1, as5, cs5, Fs5) (Nat.lt_succ_self _) h) ⟨rfl, rfl, rfl, rfl, rfl, trivial⟩ (by kernel_rfl)
  · skip
    replace h := bf cc1 h
    have q2 := ltb_false.1 cc1
    refine cw_exit ?_
    refine ex_then_exit ?_
    refine ex_then_exit ?_
    obtain rfl := Option.some.inj h
    have h := go_brk hk5
    refine ex_block_exit ?_
    refine ex_seq ?_
    refine cw_seq ?_
    refine cw_region ?_
    refine wl_u rfl (ow_y (yh_move rfl rfl) rfl rfl (kk_wl ?_))
    refine wl_u rfl (ow_y (yh_assign rfl rfl) rfl rfl (kk_wl ?_))
    refine wl_nil ?_
    refine ex_seq ?_
    refine cw_ret ?_
    obtain rfl := Option.some.inj h
    exact ex_r1 Tb rfl (.tmp rfl) (fun wq hq => ⟨_, rfl, hq.ext, ⟨as5, cs5, Fs5, rfl, NewC.sel [0] hq rfl⟩⟩)

def m_impl_Flow_order_L3 (N : Nat) (f : Flow) : Nat → (List Str) → Option (Ex (List Str) (List Str))
  | 0, _ => none
  | n + 1, s3 => (m_impl_Flow_ready N f s3).bind fun x7 => (bif eqb ((x7.length : Nat) : Int) 0 then some (Ex.ret s3)
 else (x7[0]?).bind fun y14 => (appd s3 ([y14] : List Str)).bind fun l17 => m_impl_Flow_order_L3 N f n (s3 ++ ([y14] : List Str)))

def m_impl_Flow_order (N : Nat) (f : Flow) : Option (List Str) := (m_impl_Flow_order_L3 N f N ([] : List Str)).bind fun e3 => e3.go (fun r => r) fun b3 => none

set_option maxHeartbeats 4000000 in
theorem c_impl_Flow_order (N : Nat) (f : Flow) (res : List Str) (h : m_impl_Flow_order N f = some res) (w : World) {a_f_steps : Option Addr} {c_f_steps : Nat} (h_f_steps : stepsL.rd w [] [.slice a_f_steps f.steps.length c_f_steps] f.steps) : Ret Tryz.prog 40 [.agg #[.int .i64 f.ver, .slice a_f_steps f.steps.length c_f_steps]] w [] fun v w' => ∃ a1 c1 F1, v = .slice a1 res.length c1 ∧ NewC w w' [owC strsL F1 [.slice a1 res.length c1] res] := by
  have mh_f_steps := rd_max h_f_steps
  unfold m_impl_Flow_order at h
  refine ret_enter Tryz.func40 rfl Tryz.ntmps40 rfl (Hp.refl w _) ?_
  refine cw_seq ?_
  refine cw_region ?_
  refine wl_u rfl (ow_boxA rfl rfl rfl rfl (fun g1 => kk_wl ?_))
  refine wl_u rfl (ow_y (yh_assign rfl rfl) rfl rfl (kk_wl ?_))
  refine wl_nil ?_
  refine ex_seq ?_
  refine cw_seq ?_
  refine cw_region ?_
  refine wl_u rfl (ow_y (yh_assign rfl rfl) rfl rfl (kk_wl ?_))
  refine wl_nil ?_
  refine ex_seq ?_
  refine cw_block ?_
  obtain ⟨e3, he3, hk3⟩ := bd h
  clear h
  refine cw_nilS strsL rfl ?_
  refine cw_loopG (σ := Nat × (List Str) × (Option Addr) × Nat × (List Nat)) (fun s => m_impl_Flow_order_L3 N f s.1 s.2.1 = some e3) (fun s => [(1, .pointer (some ⟨g1, 0, none⟩)), (3, .slice s.2.2.1 s.2.1.length s.2.2.2.1)]) (fun s => [blkC g1 25 [.int .i64 f.ver, .slice a_f_steps f.steps.length c_f_steps], owC strsL s.2.2.2.2 [.slice s.2.2.1 s.2.1.length s.2.2.2.1] s.2.1]) (fun s => s.1) (N, ([] : List Str), none, 0, []) [1, 0] he3 ⟨rfl, rfl, trivial⟩ rfl (fun KL s he3 hn3 => ?_)
  obtain ⟨n3, s3, as3, cs3, Fs3⟩ := s
  simp only at he3 hn3 ⊢
  rcases n3 with _ | n3
  · exact nosome he3
  have h := he3; rw [m_impl_Flow_order_L3] at h
  refine cw_block ?_
  refine cw_seq ?_
  refine cw_region ?_
  refine wl_u rfl (ow_y (yh_loadBA Tb (k := 0) rfl rfl rfl rfl rfl rfl) rfl rfl (kk_wl ?_))
  refine wl_u rfl (ow_y (yh_move rfl rfl) rfl rfl (kk_wl ?_))
  obtain ⟨x7, hx7, h⟩ := bd h
  refine wl_u rfl (ow_cN1 rfl hb82 rfl (fun w hw => c_impl_Flow_ready N _ _ _ hx7 w (Lay.at_ h_f_steps hw) (rdo (A := strsL) 1 rfl hw)) rfl rfl (fun a7 c7 F7 => kk_wl ?_))
  refine wl_u rfl (ow_y (yh_assign rfl rfl) rfl rfl (kk_wl ?_))
  refine wl_nil ?_
  refine ex_seq ?_
  refine cw_seq ?_
  refine cw_seq ?_
  refine cw_region ?_
  refine wl_u rfl (ow_y (yh_move rfl rfl) rfl rfl (kk_wl ?_))
  refine wl_know (x7.length ≤ 9223372036854775807) (fun w hw => own_max 0 rfl hw) (fun mo9 => ?_)
  refine wl_u rfl (ow_y (yh_lenS Tb rfl rfl rfl rfl) rfl rfl (kk_wl ?_))
  refine wl_u rfl (ow_y (yh_cmpI rfl rfl rfl rfl) rfl rfl (kk_wl ?_))
  refine wl_nil ?_
  refine ex_seq ?_
  refine cw_split rfl (fun cc1 => ?_) (fun cc1 => ?_)
  · skip
    replace h := bt cc1 h
    have q1 := eqb_true.1 cc1
    refine cw_seq ?_
    refine cw_region ?_
    refine wl_u rfl (ow_y (yh_move rfl rfl) rfl rfl (kk_wl ?_))
    refine wl_u rfl (ow_y (yh_assign rfl rfl) rfl rfl (kk_wl ?_))
    refine wl_nil ?_
    refine ex_seq ?_
    refine cw_ret ?_
    refine ex_then_ret ?_
    refine ex_block_ret ?_
    refine ex_then_ret ?_
    refine ex_block_ret ?_
    obtain rfl := Option.some.inj h
    obtain rfl := go_ret hk3
    exact ex_r1 Tb rfl (.tmp rfl) (fun wq hq => ⟨_, rfl, hq.ext, ⟨as3, cs3, Fs3, rfl, NewC.sel [2] hq rfl⟩⟩)
  · skip
    replace h := bf cc1 h
    have q2 := eqb_false.1 cc1
    refine cw_skip ?_
    refine ex_seq ?_
    refine cw_region ?_
    refine wl_u rfl (ow_y (yh_move rfl rfl) rfl rfl (kk_wl ?_))
    refine wl_u rfl (ow_y (yh_move rfl rfl) rfl rfl (kk_wl ?_))
    obtain ⟨y14, hy14, h⟩ := bd h
    refine wl_ex (fun g => a7 = some ⟨g, 0, none⟩) (fun w hw => by exact own_addrK 0 rfl hy14 hw) (fun g14 hg14 => ?_)
    subst hg14
    refine wl_u rfl (ow_y (yh_idx Tb (k := 0) rfl rfl rfl rfl (get_lt hy14) rfl rfl) rfl rfl (kk_wl ?_))
    refine wl_u rfl (ow_y (yh_loadO0 Tb 0 rfl rfl rfl rfl rfl hy14 rfl) rfl rfl (kk_wl ?_))
    refine wl_u rfl (ow_lit1 Tb rfl rfl rfl rfl rfl rfl rfl rfl rfl rfl (fun g16 => kk_chg (c' := owC strsL [g16] [.slice (some ⟨g16, 0, none⟩) 1 1] ([y14] : List Str)) 0 rfl (fun w hA => own_strsL ([y14] : List Str) hA rfl (by simp [maxLen])) rfl (kk_wl ?_)))
    obtain ⟨hll17, h⟩ := bd_appd h
    refine wl_u rfl (ow_appP Tb (i := 3) rfl rfl rfl rfl rfl (fun w hw => rdo (A := strsL) 0 rfl hw) rfl rfl rfl rfl hll17 (by decide) rfl rfl (fun a17 c17 F17 => kk_wl ?_))
    refine wl_u rfl (ow_y (yh_assign rfl rfl) rfl rfl (kk_wl ?_))
    refine wl_nil ?_
    refine ex_block_normal ?_
    exact ex_next [3, 0] (hn3 (n3, (s3 ++ ([y14] : List Str)), a17, c17, F17) (Nat.lt_succ_self _) h) ⟨rfl, rfl, trivial⟩ (by kernel_rfl)

def m_impl_FlowValid_L12 (N : Nat) (f : Flow) : Nat → Nat → Option (Ex (Nat) (Bool))
  | 0, _ => none
  | n + 1, s34 => (bif ltb ((s34 : Nat) : Int) ((f.steps.length : Nat) : Int) then (f.steps[s34]?).bind fun y36 => (m_impl_StepValid N y36).bind fun x39 => (bif !x39 then some (Ex.ret false)
 else (m_impl_Flow_names N f).bind fun x43 => (m_impl_NamesHave N x43 y36.after).bind fun x46 => (bif !x46 then some (Ex.ret false)
 else m_impl_FlowValid_L12 N f n (s34 + 1)))
 else some (Ex.brk (s34)))

def m_impl_FlowValid (N : Nat) (f : Flow) : Option (Bool) := (bif ltb f.ver 1 then some false
 else (bif ltb 99 f.ver then some false
 else (bif ltb ((f.steps.length : Nat) : Int) 1 then some false
 else (bif ltb 8 ((f.steps.length : Nat) : Int) then some false
 else (m_impl_Flow_names N f).bind fun x27 => (m_impl_namesAscend N x27).bind fun x28 => (bif !x28 then some false
 else (m_impl_FlowValid_L12 N f N 0).bind fun e12 => e12.go (fun r => r) fun b12 => (m_impl_Flow_order N f).bind fun x51 => some (eqb ((x51.length : Nat) : Int) ((f.steps.length : Nat) : Int)))))))

set_option maxHeartbeats 4000000 in
theorem c_impl_FlowValid (N : Nat) (f : Flow) (res : Bool) (h : m_impl_FlowValid N f = some res) (w : World) {a_f_steps : Option Addr} {c_f_steps : Nat} (h_f_steps : stepsL.rd w [] [.slice a_f_steps f.steps.length c_f_steps] f.steps) : Ret Tryz.prog 32 [.agg #[.int .i64 f.ver, .slice a_f_steps f.steps.length c_f_steps]] w [] fun v w' => v = .bool res := by
  have mh_f_steps := rd_max h_f_steps
  unfold m_impl_FlowValid at h
  refine ret_enter Tryz.func32 rfl Tryz.ntmps32 rfl (Hp.refl w _) ?_
  refine cw_seq ?_
  refine cw_region ?_
  refine wl_u rfl (ow_boxA rfl rfl rfl rfl (fun g1 => kk_wl ?_))
  refine wl_u rfl (ow_y (yh_assign rfl rfl) rfl rfl (kk_wl ?_))
  refine wl_nil ?_
  refine ex_seq ?_
  refine cw_seq ?_
  refine cw_seq ?_
  refine cw_region ?_
  refine wl_u rfl (ow_y (yh_field Tb rfl rfl rfl) rfl rfl (kk_wl ?_))
  refine wl_u rfl (ow_y (yh_loadB Tb (k := 0) rfl rfl rfl rfl rfl) rfl rfl (kk_wl ?_))
  refine wl_u rfl (ow_y (yh_cmpI rfl rfl rfl rfl) rfl rfl (kk_wl ?_))
  refine wl_u rfl (ow_y (yh_move rfl rfl) rfl rfl (kk_wl ?_))
  refine wl_s rfl rfl (fun cc1 => ?_) (fun cc1 => ?_)
  · skip
    replace h := bt cc1 h
    have q1 := ltb_true.1 cc1
    refine wl_n rfl rfl rfl rfl ?_
    refine wl_n rfl rfl rfl rfl ?_
    refine wl_n rfl rfl rfl rfl ?_
    refine wl_u rfl (ow_y (yh_pickT rfl rfl rfl) rfl rfl (kk_wl ?_))
    refine wl_u rfl (ow_y (yh_move rfl rfl) rfl rfl (kk_wl ?_))
    refine wl_s rfl rfl (fun _ => ?_) nofun
    refine wl_n rfl rfl rfl rfl ?_
    refine wl_n rfl rfl rfl rfl ?_
    refine wl_n rfl rfl rfl rfl ?_
    refine wl_n rfl rfl rfl rfl ?_
    refine wl_u rfl (ow_y (yh_pickT rfl rfl rfl) rfl rfl (kk_wl ?_))
    refine wl_u rfl (ow_y (yh_move rfl rfl) rfl rfl (kk_wl ?_))
    refine wl_s rfl rfl (fun _ => ?_) nofun
    refine wl_n rfl rfl rfl rfl ?_
    refine wl_n rfl rfl rfl rfl ?_
    refine wl_n rfl rfl rfl rfl ?_
    refine wl_n rfl rfl rfl rfl ?_
    refine wl_u rfl (ow_y (yh_pickT rfl rfl rfl) rfl rfl (kk_wl ?_))
    refine wl_u rfl (ow_y (yh_move rfl rfl) rfl rfl (kk_wl ?_))
    refine wl_s rfl rfl (fun _ => ?_) nofun
    refine wl_n rfl rfl rfl rfl ?_
    refine wl_n rfl rfl rfl rfl ?_
    refine wl_n rfl rfl rfl rfl ?_
    refine wl_n rfl rfl rfl rfl ?_
    refine wl_u rfl (ow_y (yh_pickT rfl rfl rfl) rfl rfl (kk_wl ?_))
    refine wl_nil ?_
    refine ex_seq ?_
    refine cw_true rfl ?_
    refine cw_seq ?_
    refine cw_region ?_
    refine wl_u rfl (ow_y (yh_assign rfl rfl) rfl rfl (kk_wl ?_))
    refine wl_nil ?_
    refine ex_seq ?_
    refine cw_ret ?_
    refine ex_then_ret ?_
    obtain rfl := Option.some.inj h
    exact ex_r1 Tb rfl (.tmp rfl) (fun wq hq => ⟨_, rfl, hq.ext, rfl⟩)
  · skip
    replace h := bf cc1 h
    have q2 := ltb_false.1 cc1
    refine wl_g rfl rfl (ow_y (yh_field Tb rfl rfl rfl) rfl rfl (kk_wl ?_))
    refine wl_g rfl rfl (ow_y (yh_loadB Tb (k := 0) rfl rfl rfl rfl rfl) rfl rfl (kk_wl ?_))
    refine wl_g rfl rfl (ow_y (yh_cmpI rfl rfl rfl rfl) rfl rfl (kk_wl ?_))
    refine wl_u rfl (ow_y (yh_pickF rfl rfl rfl) rfl rfl (kk_wl ?_))
    refine wl_u rfl (ow_y (yh_move rfl rfl) rfl rfl (kk_wl ?_))
    refine wl_s rfl rfl (fun cc2 => ?_) (fun cc2 => ?_)
    · skip
      replace h := bt cc2 h
      have q3 := ltb_true.1 cc2
      refine wl_n rfl rfl rfl rfl ?_
      refine wl_n rfl rfl rfl rfl ?_
      refine wl_n rfl rfl rfl rfl ?_
      refine wl_n rfl rfl rfl rfl ?_
      refine wl_u rfl (ow_y (yh_pickT rfl rfl rfl) rfl rfl (kk_wl ?_))
      refine wl_u rfl (ow_y (yh_move rfl rfl) rfl rfl (kk_wl ?_))
      refine wl_s rfl rfl (fun _ => ?_) nofun
      refine wl_n rfl rfl rfl rfl ?_
      refine wl_n rfl rfl rfl rfl ?_
      refine wl_n rfl rfl rfl rfl ?_
      refine wl_n rfl rfl rfl rfl ?_
      refine wl_u rfl (ow_y (yh_pickT rfl rfl rfl) rfl rfl (kk_wl ?_))
      refine wl_u rfl (ow_y (yh_move rfl rfl) rfl rfl (kk_wl ?_))
      refine wl_s rfl rfl (fun _ => ?_) nofun
      refine wl_n rfl rfl rfl rfl ?_
      refine wl_n rfl rfl rfl rfl ?_
      refine wl_n rfl rfl rfl rfl ?_
      refine wl_n rfl rfl rfl rfl ?_
      refine wl_u rfl (ow_y (yh_pickT rfl rfl rfl) rfl rfl (kk_wl ?_))
      refine wl_nil ?_
      refine ex_seq ?_
      refine cw_true rfl ?_
      refine cw_seq ?_
      refine cw_region ?_
      refine wl_u rfl (ow_y (yh_assign rfl rfl) rfl rfl (kk_wl ?_))
      refine wl_nil ?_
      refine ex_seq ?_
      refine cw_ret ?_
      refine ex_then_ret ?_
      obtain rfl := Option.some.inj h
      exact ex_r1 Tb rfl (.tmp rfl) (fun wq hq => ⟨_, rfl, hq.ext, rfl⟩)
    · skip
      replace h := bf cc2 h
      have q4 := ltb_false.1 cc2
      refine wl_g rfl rfl (ow_y (yh_field Tb rfl rfl rfl) rfl rfl (kk_wl ?_))
      refine wl_g rfl rfl (ow_y (yh_loadB Tb (k := 0) rfl rfl rfl rfl rfl) rfl rfl (kk_wl ?_))
      refine wl_g rfl rfl (ow_y (yh_lenS Tb rfl rfl rfl rfl) rfl rfl (kk_wl ?_))
      refine wl_g rfl rfl (ow_y (yh_cmpI rfl rfl rfl rfl) rfl rfl (kk_wl ?_))
      refine wl_u rfl (ow_y (yh_pickF rfl rfl rfl) rfl rfl (kk_wl ?_))
      refine wl_u rfl (ow_y (yh_move rfl rfl) rfl rfl (kk_wl ?_))
      refine wl_s rfl rfl (fun cc3 => ?_) (fun cc3 => ?_)
      · skip
        replace h := bt cc3 h
        have q5 := ltb_true.1 cc3
        refine wl_n rfl rfl rfl rfl ?_
        refine wl_n rfl rfl rfl rfl ?_
        refine wl_n rfl rfl rfl rfl ?_
        refine wl_n rfl rfl rfl rfl ?_
        refine wl_u rfl (ow_y (yh_pickT rfl rfl rfl) rfl rfl (kk_wl ?_))
        refine wl_u rfl (ow_y (yh_move rfl rfl) rfl rfl (kk_wl ?_))
        refine wl_s rfl rfl (fun _ => ?_) nofun
        refine wl_n rfl rfl rfl rfl ?_
        refine wl_n rfl rfl rfl rfl ?_
        refine wl_n rfl rfl rfl rfl ?_
        refine wl_n rfl rfl rfl rfl ?_
        refine wl_u rfl (ow_y (yh_pickT rfl rfl rfl) rfl rfl (kk_wl ?_))
        refine wl_nil ?_
        refine ex_seq ?_
        refine cw_true rfl ?_
        refine cw_seq ?_
        refine cw_region ?_
        refine wl_u rfl (ow_y (yh_assign rfl rfl) rfl rfl (kk_wl ?_))
        refine wl_nil ?_
        refine ex_seq ?_
        refine cw_ret ?_
        refine ex_then_ret ?_
        obtain rfl := Option.some.inj h
        exact ex_r1 Tb rfl (.tmp rfl) (fun wq hq => ⟨_, rfl, hq.ext, rfl⟩)
      · skip
        replace h := bf cc3 h
        have q6 := ltb_false.1 cc3
        refine wl_g rfl rfl (ow_y (yh_field Tb rfl rfl rfl) rfl rfl (kk_wl ?_))
        refine wl_g rfl rfl (ow_y (yh_loadB Tb (k := 0) rfl rfl rfl rfl rfl) rfl rfl (kk_wl ?_))
        refine wl_g rfl rfl (ow_y (yh_lenS Tb rfl rfl rfl rfl) rfl rfl (kk_wl ?_))
        refine wl_g rfl rfl (ow_y (yh_cmpI rfl rfl rfl rfl) rfl rfl (kk_wl ?_))
        refine wl_u rfl (ow_y (yh_pickF rfl rfl rfl) rfl rfl (kk_wl ?_))
        refine wl_u rfl (ow_y (yh_move rfl rfl) rfl rfl (kk_wl ?_))
        refine wl_s rfl rfl (fun cc4 => ?_) (fun cc4 => ?_)
        · skip
          replace h := bt cc4 h
          have q7 := ltb_true.1 cc4
          refine wl_n rfl rfl rfl rfl ?_
          refine wl_n rfl rfl rfl rfl ?_
          refine wl_n rfl rfl rfl rfl ?_
          refine wl_n rfl rfl rfl rfl ?_
          refine wl_u rfl (ow_y (yh_pickT rfl rfl rfl) rfl rfl (kk_wl ?_))
          refine wl_nil ?_
          refine ex_seq ?_
          refine cw_true rfl ?_
          refine cw_seq ?_
          refine cw_region ?_
          refine wl_u rfl (ow_y (yh_assign rfl rfl) rfl rfl (kk_wl ?_))
          refine wl_nil ?_
          refine ex_seq ?_
          refine cw_ret ?_
          refine ex_then_ret ?_
          obtain rfl := Option.some.inj h
          exact ex_r1 Tb rfl (.tmp rfl) (fun wq hq => ⟨_, rfl, hq.ext, rfl⟩)
        · skip
          replace h := bf cc4 h
          have q8 := ltb_false.1 cc4
          refine wl_g rfl rfl (ow_y (yh_loadBA Tb (k := 0) rfl rfl rfl rfl rfl rfl) rfl rfl (kk_wl ?_))
          obtain ⟨x27, hx27, h⟩ := bd h
          refine wl_g rfl rfl (ow_cN1 rfl hb34 rfl (fun w hw => c_impl_Flow_names N _ _ hx27 w (Lay.at_ h_f_steps hw)) rfl rfl (fun a27 c27 F27 => kk_wl ?_))
          obtain ⟨x28, hx28, h⟩ := bd h
          refine wl_g rfl rfl (ow_cV rfl hb78 rfl (fun w hw => c_impl_namesAscend N _ _ hx28 w (rdo (A := strsL) 0 rfl hw)) rfl rfl (kk_wl ?_))
          refine wl_g rfl rfl (ow_y (yh_not rfl rfl) rfl rfl (kk_wl ?_))
          refine wl_u rfl (ow_y (yh_pickF rfl rfl rfl) rfl rfl (kk_wl ?_))
          refine wl_nil ?_
          refine ex_seq ?_
          refine cw_split rfl (fun cc5 => ?_) (fun cc5 => ?_)
          · skip
            replace h := bt cc5 h
            refine cw_seq ?_
            refine cw_region ?_
            refine wl_u rfl (ow_y (yh_assign rfl rfl) rfl rfl (kk_wl ?_))
            refine wl_nil ?_
            refine ex_seq ?_
            refine cw_ret ?_
            refine ex_then_ret ?_
            obtain rfl := Option.some.inj h
            exact ex_r1 Tb rfl (.tmp rfl) (fun wq hq => ⟨_, rfl, hq.ext, rfl⟩)
          · skip
            replace h := bf cc5 h
            refine cw_skip ?_
            refine ex_seq ?_
            refine cw_seq ?_
            refine cw_seq ?_
            refine cw_region ?_
            refine wl_u rfl (ow_y (yh_field Tb rfl rfl rfl) rfl rfl (kk_wl ?_))
            refine wl_u rfl (ow_y (yh_loadB Tb (k := 1) rfl rfl rfl rfl rfl) rfl rfl (kk_wl ?_))
            refine wl_u rfl (ow_y (yh_lenS Tb rfl rfl rfl rfl) rfl rfl (kk_wl ?_))
            refine wl_u rfl (ow_y (yh_move rfl rfl) rfl rfl (kk_wl ?_))
            refine wl_nil ?_
            refine ex_seq ?_
            refine cw_block ?_
            obtain ⟨e12, he12, hk12⟩ := bd h
            clear h
            refine cw_loopG (σ := Nat × Nat) (fun s => m_impl_FlowValid_L12 N f s.1 s.2 = some e12) (fun s => [(1, .pointer (some ⟨g1, 0, none⟩)), (32, .slice a_f_steps f.steps.length c_f_steps), (33, .int .i64 ((f.steps.length : Nat) : Int)), (34, .int .i64 ((s.2 : Nat) : Int))]) (fun s => [blkC g1 25 [.int .i64 f.ver, .slice a_f_steps f.steps.length c_f_steps]]) (fun s => s.1) (N, 0) [1] he12 ⟨rfl, rfl, rfl, rfl, trivial⟩ rfl (fun KL s he12 hn12 => ?_)
            obtain ⟨n12, s34⟩ := s
            simp only at he12 hn12 ⊢
            rcases n12 with _ | n12
            · exact nosome he12
            have h := he12; rw [m_impl_FlowValid_L12] at h
            refine cw_seq ?_
            refine cw_region ?_
            refine wl_u rfl (ow_y (yh_cmpI rfl rfl rfl rfl) rfl rfl (kk_wl ?_))
            refine wl_nil ?_
            refine ex_seq ?_
            refine cw_seq ?_
            refine cw_split rfl (fun cc6 => ?_) (fun cc6 => ?_)
            · skip
              replace h := bt cc6 h
              have q9 := ltb_true.1 cc6
              refine cw_skip ?_
              refine ex_seq ?_
              refine cw_seq ?_
              refine cw_block ?_
              refine cw_seq ?_
              refine cw_region ?_
              obtain ⟨y36, hy36, h⟩ := bd h
              obtain ⟨b36, o36, ha36⟩ := sl_addr h_f_steps hy36
              subst ha36
              obtain ⟨a36, e36, hc36, hf36⟩ := get_step h_f_steps hy36
              have mx36 := rd_max hf36
              refine wl_u rfl (ow_y (yh_idx Tb (k := s34) rfl rfl rfl rfl (get_lt hy36) rfl rfl) rfl rfl (kk_wl ?_))
              refine wl_u rfl (ow_y (yh_loadAN Tb rfl rfl rfl rfl hc36 rfl) rfl rfl (kk_wl ?_))
              refine wl_u rfl (ow_allocA Tb rfl rfl rfl rfl (fun g4 => kk_wl ?_))
              refine wl_u rfl (ow_storeA Tb (k := 0) rfl rfl rfl rfl rfl rfl rfl rfl rfl (kk_wl ?_))
              refine wl_nil ?_
              refine ex_seq ?_
              refine cw_seq ?_
              refine cw_dr [0, 2, 3, 4, 6, 7, 9, 10] [] [blkC g4 49 [.string y36.name, .slice a36 y36.after.length e36, .bool y36.undo], blkC g1 25 [.int .i64 f.ver, .slice (some ⟨b36, o36, none⟩) f.steps.length c_f_steps]] (by kernel_rfl) ?_
              refine wd_take (i := 0) [0, 1] rfl rfl rfl rfl rfl (by kernel_rfl) (by kernel_rfl) (fun _ _ _ _ h => h) (yh_loadBA Tb (k := 0) rfl rfl rfl rfl rfl rfl) ?_
              obtain ⟨x39, hx39, h⟩ := bd h
              refine wd_one 1 rfl rfl (by kernel_rfl) (ow_cV rfl hb71 rfl (fun w hw => c_impl_StepValid N _ _ hx39 w (Lay.at_ hf36 hw)) rfl rfl (kk_wd [0, 1] (by kernel_rfl) ?_))
              refine wd_take (i := 2) [0, 1] rfl rfl rfl rfl rfl (by kernel_rfl) (by kernel_rfl) (fun _ _ _ _ h => h) (yh_not rfl rfl) ?_
              refine wd_take (i := 3) [0, 1] rfl rfl rfl rfl rfl (by kernel_rfl) (by kernel_rfl) (fun _ _ _ _ h => h) (yh_move rfl rfl) ?_
              refine wd_split 4 rfl rfl rfl (fun cc7 => ?_) (fun cc7 => ?_)
              · skip
                replace h := bt cc7 h
                refine wd_skip (i := 4) [0, 1] rfl rfl rfl rfl (by kernel_rfl) (by kernel_rfl) (fun _ _ _ h => h) ?_
                refine wd_skip (i := 6) [0, 1] rfl rfl rfl rfl (by kernel_rfl) (by kernel_rfl) (fun _ _ _ h => h) ?_
                refine wd_skip (i := 7) [0, 1] rfl rfl rfl rfl (by kernel_rfl) (by kernel_rfl) (fun _ _ _ h => h) ?_
                refine wd_offD 5 rfl rfl rfl rfl (by kernel_rfl) [0, 1] (fun _ => rfl) ?_
                refine wd_offD 8 rfl rfl rfl rfl (by kernel_rfl) [0, 1] (fun _ => rfl) ?_
                refine wd_skip (i := 9) [0, 1] rfl rfl rfl rfl (by kernel_rfl) (by kernel_rfl) (fun _ _ _ h => h) ?_
                refine wd_take (i := 10) [0, 1] rfl rfl rfl rfl rfl (by kernel_rfl) (by kernel_rfl) (fun _ _ _ _ h => h) (yh_pickT rfl rfl rfl) ?_
                refine wd_done (by kernel_rfl) ?_
                refine ex_seq ?_
                refine cw_true rfl ?_
                refine cw_seq ?_
                refine cw_region ?_
                refine wl_u rfl (ow_y (yh_assign rfl rfl) rfl rfl (kk_wl ?_))
                refine wl_nil ?_
                refine ex_seq ?_
                refine cw_ret ?_
                refine ex_block_ret ?_
                refine ex_then_ret ?_
                refine ex_then_ret ?_
                refine ex_block_ret ?_
                refine ex_then_ret ?_
                obtain rfl := Option.some.inj h
                obtain rfl := go_ret hk12
                exact ex_r1 Tb rfl (.tmp rfl) (fun wq hq => ⟨_, rfl, hq.ext, rfl⟩)
              · skip
                replace h := bf cc7 h
                refine wd_take (i := 4) [0, 1] rfl rfl rfl rfl rfl (by kernel_rfl) (by kernel_rfl) (fun _ _ _ _ h => h) (yh_loadBA Tb (k := 1) rfl rfl rfl rfl rfl rfl) ?_
                refine wd_take (i := 6) [0, 1] rfl rfl rfl rfl rfl (by kernel_rfl) (by kernel_rfl) (fun _ _ _ _ h => h) (yh_field Tb rfl rfl rfl) ?_
                refine wd_take (i := 7) [0, 1] rfl rfl rfl rfl rfl (by kernel_rfl) (by kernel_rfl) (fun _ _ _ _ h => h) (yh_loadB Tb (k := 0) rfl rfl rfl rfl rfl) ?_
                obtain ⟨x43, hx43, h⟩ := bd h
                refine wd_one 5 rfl rfl (by kernel_rfl) (ow_cN1 rfl hb34 rfl (fun w hw => c_impl_Flow_names N _ _ hx43 w (Lay.at_ h_f_steps hw)) rfl rfl (fun a43 c43 F43 => kk_wd [1, 2] (by kernel_rfl) ?_))
                obtain ⟨x46, hx46, h⟩ := bd h
                refine wd_one 8 rfl rfl (by kernel_rfl) (ow_cV rfl hb66 rfl (fun w hw => c_impl_NamesHave N _ _ _ hx46 w (rdo (A := strsL) 0 rfl hw) (Lay.at_ hf36 hw)) rfl rfl (kk_wd [1, 2] (by kernel_rfl) ?_))
                refine wd_take (i := 9) [1, 2] rfl rfl rfl rfl rfl (by kernel_rfl) (by kernel_rfl) (fun _ _ _ _ h => h) (yh_not rfl rfl) ?_
                refine wd_take (i := 10) [1, 2] rfl rfl rfl rfl rfl (by kernel_rfl) (by kernel_rfl) (fun _ _ _ _ h => h) (yh_pickF rfl rfl rfl) ?_
                refine wd_done (by kernel_rfl) ?_
                refine ex_seq ?_
                refine cw_split rfl (fun cc8 => ?_) (fun cc8 => ?_)
                · skip
                  replace h := bt cc8 h
                  refine cw_seq ?_
                  refine cw_region ?_
                  refine wl_u rfl (ow_y (yh_assign rfl rfl) rfl rfl (kk_wl ?_))
                  refine wl_nil ?_
                  refine ex_seq ?_
                  refine cw_ret ?_
                  refine ex_block_ret ?_
                  refine ex_then_ret ?_
                  refine ex_then_ret ?_
                  refine ex_block_ret ?_
                  refine ex_then_ret ?_
                  obtain rfl := Option.some.inj h
                  obtain rfl := go_ret hk12
                  exact ex_r1 Tb rfl (.tmp rfl) (fun wq hq => ⟨_, rfl, hq.ext, rfl⟩)
                · skip
                  replace h := bf cc8 h
                  refine cw_skip ?_
                  refine ex_block_normal ?_
                  refine ex_seq ?_
                  refine cw_region ?_
                  refine wl_u rfl (ow_y (yh_arI rfl rfl rfl rfl (by omega)) rfl rfl (kk_wl ?_))
                  refine wl_u rfl (ow_y (yh_move rfl rfl) rfl rfl (kk_wl ?_))
                  refine wl_nil ?_
                  exact ex_next [2] (hn12 (n12, s34 + 1) (Nat.lt_succ_self _) h) ⟨rfl, rfl, rfl, rfl, trivial⟩ (by kernel_rfl)
            · skip
              replace h := bf cc6 h
              have q10 := ltb_false.1 cc6
              refine cw_exit ?_
              refine ex_then_exit ?_
              refine ex_then_exit ?_
              obtain rfl := Option.some.inj h
              have h := go_brk hk12
              refine ex_block_exit ?_
              refine ex_seq ?_
              refine cw_seq ?_
              refine cw_dr [0, 2, 3, 4, 5, 6, 7] [] [blkC g1 25 [.int .i64 f.ver, .slice a_f_steps f.steps.length c_f_steps]] (by kernel_rfl) ?_
              refine wd_take (i := 0) [0] rfl rfl rfl rfl rfl (by kernel_rfl) (by kernel_rfl) (fun _ _ _ _ h => h) (yh_loadBA Tb (k := 0) rfl rfl rfl rfl rfl rfl) ?_
              refine wd_take (i := 3) [0] rfl rfl rfl rfl rfl (by kernel_rfl) (by kernel_rfl) (fun _ _ _ _ h => h) (yh_field Tb rfl rfl rfl) ?_
              refine wd_take (i := 4) [0] rfl rfl rfl rfl rfl (by kernel_rfl) (by kernel_rfl) (fun _ _ _ _ h => h) (yh_loadB Tb (k := 0) rfl rfl rfl rfl rfl) ?_
              refine wd_take (i := 5) [0] rfl rfl rfl rfl rfl (by kernel_rfl) (by kernel_rfl) (fun _ _ _ _ h => h) (yh_lenS Tb rfl rfl rfl rfl) ?_
              obtain ⟨x51, hx51, h⟩ := bd h
              refine wd_one 1 rfl rfl (by kernel_rfl) (ow_cN1 rfl hb40 rfl (fun w hw => c_impl_Flow_order N _ _ hx51 w (Lay.at_ h_f_steps hw)) rfl rfl (fun a51 c51 F51 => kk_wd [1] (by kernel_rfl) ?_))
              refine wd_know (x51.length ≤ 9223372036854775807) (fun w hw => own_max 0 rfl hw) (fun mo52 => ?_)
              refine wd_take (i := 2) [1] rfl rfl rfl rfl rfl (by kernel_rfl) (by kernel_rfl) (fun _ _ _ _ h => h) (yh_lenS Tb rfl rfl rfl rfl) ?_
              refine wd_take (i := 6) [1] rfl rfl rfl rfl rfl (by kernel_rfl) (by kernel_rfl) (fun _ _ _ _ h => h) (yh_cmpI rfl rfl rfl rfl) ?_
              refine wd_take (i := 7) [1] rfl rfl rfl rfl rfl (by kernel_rfl) (by kernel_rfl) (fun _ _ _ _ h => h) (yh_assign rfl rfl) ?_
              refine wd_done (by kernel_rfl) ?_
              refine ex_seq ?_
              refine cw_ret ?_
              obtain rfl := Option.some.inj h
              exact ex_r1 Tb rfl (.tmp rfl) (fun wq hq => ⟨_, rfl, hq.ext, rfl⟩)

def m_impl_cloneNames (N : Nat) (list_ : List Str) : Option (List Str) := (appd ([] : List Str) list_).bind fun l4 => some (([] : List Str) ++ list_)

set_option maxHeartbeats 4000000 in
theorem c_impl_cloneNames (N : Nat) (list_ : List Str) (res : List Str) (h : m_impl_cloneNames N list_ = some res) (w : World) {a_list_ : Option Addr} {c_list_ : Nat} (h_list_ : strsL.rd w [] [.slice a_list_ list_.length c_list_] list_) : Ret Tryz.prog 76 [.slice a_list_ list_.length c_list_] w [] fun v w' => ∃ a1 c1 F1, v = .slice a1 res.length c1 ∧ NewC w w' [owC strsL F1 [.slice a1 res.length c1] res] := by
  have mh_list_ := rd_max h_list_
  unfold m_impl_cloneNames at h
  refine ret_enter Tryz.func76 rfl Tryz.ntmps76 rfl (Hp.refl w _) ?_
  refine cw_seq ?_
  refine cw_region ?_
  refine wl_u rfl (ow_y (yh_assign rfl rfl) rfl rfl (kk_wl ?_))
  refine wl_nil ?_
  refine ex_seq ?_
  refine cw_seq ?_
  refine cw_region ?_
  refine wl_u rfl (ow_y (yh_move rfl rfl) rfl rfl (kk_wl ?_))
  obtain ⟨hll4, h⟩ := bd_appd h
  refine wl_u rfl (ow_nilS strsL rfl (ow_appP Tb (i := 0) rfl rfl rfl rfl rfl (fun w hw => Lay.at_ h_list_ hw) rfl rfl rfl rfl hll4 (by decide) rfl rfl (fun a4 c4 F4 => kk_wl ?_)))
  refine wl_u rfl (ow_y (yh_assign rfl rfl) rfl rfl (kk_wl ?_))
  refine wl_nil ?_
  refine ex_seq ?_
  refine cw_ret ?_
  obtain rfl := Option.some.inj h
  exact ex_r1 Tb rfl (.tmp rfl) (fun wq hq => ⟨_, rfl, hq.ext, ⟨a4, c4, F4, rfl, NewC.sel [0] hq rfl⟩⟩)

def m_impl_Step_clone (N : Nat) (s_ : Step) : Option (Step) := (m_impl_cloneNames N s_.after).bind fun x5 => some (Step.mk s_.name x5 s_.undo)

set_option maxHeartbeats 4000000 in
theorem c_impl_Step_clone (N : Nat) (s_ : Step) (res : Step) (h : m_impl_Step_clone N s_ = some res) (w : World) {a_s__after : Option Addr} {c_s__after : Nat} (h_s__after : strsL.rd w [] [.slice a_s__after s_.after.length c_s__after] s_.after) : Ret Tryz.prog 38 [.agg #[.string s_.name, .slice a_s__after s_.after.length c_s__after, .bool s_.undo]] w [] fun v w' => ∃ a1 c1 F1, v = .agg #[.string res.name, .slice a1 res.after.length c1, .bool res.undo] ∧ NewC w w' [owC strsL F1 [.slice a1 res.after.length c1] res.after] := by
  have mh_s__after := rd_max h_s__after
  unfold m_impl_Step_clone at h
  refine ret_enter Tryz.func38 rfl Tryz.ntmps38 rfl (Hp.refl w _) ?_
  refine cw_seq ?_
  refine cw_region ?_
  refine wl_u rfl (ow_boxA rfl rfl rfl rfl (fun g1 => kk_wl ?_))
  refine wl_u rfl (ow_allocA Tb rfl rfl rfl rfl (fun g2 => kk_wl ?_))
  refine wl_nil ?_
  refine ex_seq ?_
  refine cw_seq ?_
  refine cw_region ?_
  refine wl_u rfl (ow_y (yh_field Tb rfl rfl rfl) rfl rfl (kk_wl ?_))
  refine wl_u rfl (ow_y (yh_loadB Tb (k := 1) rfl rfl rfl rfl rfl) rfl rfl (kk_wl ?_))
  obtain ⟨x5, hx5, h⟩ := bd h
  refine wl_u rfl (ow_cN1 rfl hb76 rfl (fun w hw => c_impl_cloneNames N _ _ hx5 w (Lay.at_ h_s__after hw)) rfl rfl (fun a5 c5 F5 => kk_wl ?_))
  refine wl_u rfl (ow_y (yh_field Tb rfl rfl rfl) rfl rfl (kk_wl ?_))
  refine wl_u rfl (ow_store1 Tb (k := 2) rfl rfl rfl rfl rfl rfl rfl rfl rfl (kk_wl ?_))
  refine wl_nil ?_
  refine ex_seq ?_
  refine cw_seq ?_
  refine cw_region ?_
  refine wl_u rfl (ow_y (yh_loadBA Tb (k := 0) rfl rfl rfl rfl rfl rfl) rfl rfl (kk_wl ?_))
  refine wl_u rfl (ow_storeA Tb (k := 2) rfl rfl rfl rfl rfl rfl rfl rfl rfl (kk_wl ?_))
  refine wl_nil ?_
  refine ex_seq ?_
  refine cw_ret ?_
  obtain rfl := Option.some.inj h
  exact ex_r1 Tb rfl (.cellA 0 rfl rfl rfl rfl rfl) (fun wq hq => ⟨_, rfl, hq.ext, ⟨a5, c5, F5, rfl, NewC.sel [2] hq rfl⟩⟩)

def m_impl_Flow_clone_L6 (N : Nat) (f : Flow) : Nat → (List Step) → Nat → Option (Ex (List Step × Nat) (Flow))
  | 0, _, _ => none
  | n + 1, s3_c_1, s12 => (bif ltb ((s12 : Nat) : Int) ((f.steps.length : Nat) : Int) then (f.steps[s12]?).bind fun y14 => (m_impl_Step_clone N y14).bind fun x19 => (appd s3_c_1 [x19]).bind fun l21 => m_impl_Flow_clone_L6 N f n (s3_c_1 ++ [x19]) (s12 + 1)
 else some (Ex.brk (s3_c_1, s12)))

def m_impl_Flow_clone (N : Nat) (f : Flow) : Option (Flow) := (m_impl_Flow_clone_L6 N f N ([] : List Step) 0).bind fun e6 => e6.go (fun r => r) fun b6 => some (Flow.mk f.ver b6.1)

set_option maxHeartbeats 4000000 in
theorem c_impl_Flow_clone (N : Nat) (f : Flow) (res : Flow) (h : m_impl_Flow_clone N f = some res) (w : World) {a_f_steps : Option Addr} {c_f_steps : Nat} (h_f_steps : stepsL.rd w [] [.slice a_f_steps f.steps.length c_f_steps] f.steps) : Ret Tryz.prog 48 [.agg #[.int .i64 f.ver, .slice a_f_steps f.steps.length c_f_steps]] w [] fun v w' => ∃ a1 c1 F1, v = .agg #[.int .i64 res.ver, .slice a1 res.steps.length c1] ∧ NewC w w' [owC stepsL F1 [.slice a1 res.steps.length c1] res.steps] := by
  have mh_f_steps := rd_max h_f_steps
  unfold m_impl_Flow_clone at h
  refine ret_enter Tryz.func48 rfl Tryz.ntmps48 rfl (Hp.refl w _) ?_
  refine cw_seq ?_
  refine cw_region ?_
  refine wl_u rfl (ow_boxA rfl rfl rfl rfl (fun g1 => kk_wl ?_))
  refine wl_u rfl (ow_allocA Tb rfl rfl rfl rfl (fun g2 => kk_wl ?_))
  refine wl_nil ?_
  refine ex_seq ?_
  refine cw_seq ?_
  refine cw_region ?_
  refine wl_u rfl (ow_y (yh_field Tb rfl rfl rfl) rfl rfl (kk_wl ?_))
  refine wl_u rfl (ow_y (yh_loadB Tb (k := 1) rfl rfl rfl rfl rfl) rfl rfl (kk_wl ?_))
  refine wl_u rfl (ow_y (yh_build [.int .i64 f.ver, .slice none 0 0] rfl rfl (by kernel_rfl)) rfl rfl (kk_wl ?_))
  refine wl_u rfl (ow_allocA Tb rfl rfl rfl rfl (fun g3 => kk_wl ?_))
  refine wl_u rfl (ow_storeA Tb (k := 0) rfl rfl rfl rfl rfl rfl rfl rfl rfl (kk_wl ?_))
  refine wl_nil ?_
  refine ex_seq ?_
  refine cw_seq ?_
  refine cw_seq ?_
  refine cw_region ?_
  refine wl_u rfl (ow_y (yh_field Tb rfl rfl rfl) rfl rfl (kk_wl ?_))
  refine wl_u rfl (ow_y (yh_loadB Tb (k := 2) rfl rfl rfl rfl rfl) rfl rfl (kk_wl ?_))
  refine wl_u rfl (ow_y (yh_lenS Tb rfl rfl rfl rfl) rfl rfl (kk_wl ?_))
  refine wl_u rfl (ow_y (yh_move rfl rfl) rfl rfl (kk_wl ?_))
  refine wl_nil ?_
  refine ex_seq ?_
  refine cw_block ?_
  obtain ⟨e6, he6, hk6⟩ := bd h
  clear h
  refine cw_nilS stepsL rfl ?_
  refine cw_loopG (σ := Nat × (List Step) × Nat × (Option Addr) × Nat × (List Nat)) (fun s => m_impl_Flow_clone_L6 N f s.1 s.2.1 s.2.2.1 = some e6) (fun s => [(2, .pointer (some ⟨g2, 0, none⟩)), (3, .pointer (some ⟨g3, 0, none⟩)), (10, .slice a_f_steps f.steps.length c_f_steps), (11, .int .i64 ((f.steps.length : Nat) : Int)), (12, .int .i64 ((s.2.2.1 : Nat) : Int))]) (fun s => [blkC g2 25 [.int .i64 0, .slice none 0 0], blkC g3 25 [.int .i64 f.ver, .slice s.2.2.2.1 s.2.1.length s.2.2.2.2.1], owC stepsL s.2.2.2.2.2 [.slice s.2.2.2.1 s.2.1.length s.2.2.2.2.1] s.2.1]) (fun s => s.1) (N, ([] : List Step), 0, none, 0, []) [2, 1, 0] he6 ⟨rfl, rfl, rfl, rfl, rfl, trivial⟩ rfl (fun KL s he6 hn6 => ?_)
  obtain ⟨n6, s3_c_1, s12, as3_c_1, cs3_c_1, Fs3_c_1⟩ := s
  simp only at he6 hn6 ⊢
  rcases n6 with _ | n6
  · exact nosome he6
  have h := he6; rw [m_impl_Flow_clone_L6] at h
  refine cw_seq ?_
  refine cw_region ?_
  refine wl_u rfl (ow_y (yh_cmpI rfl rfl rfl rfl) rfl rfl (kk_wl ?_))
  refine wl_nil ?_
  refine ex_seq ?_
  refine cw_seq ?_
  refine cw_split rfl (fun cc1 => ?_) (fun cc1 => ?_)
  · skip
    replace h := bt cc1 h
    have q1 := ltb_true.1 cc1
    refine cw_skip ?_
    refine ex_seq ?_
    refine cw_seq ?_
    refine cw_block ?_
    refine cw_seq ?_
    refine cw_region ?_
    obtain ⟨y14, hy14, h⟩ := bd h
    obtain ⟨b14, o14, ha14⟩ := sl_addr h_f_steps hy14
    subst ha14
    obtain ⟨a14, e14, hc14, hf14⟩ := get_step h_f_steps hy14
    have mx14 := rd_max hf14
    refine wl_u rfl (ow_y (yh_idx Tb (k := s12) rfl rfl rfl rfl (get_lt hy14) rfl rfl) rfl rfl (kk_wl ?_))
    refine wl_u rfl (ow_y (yh_loadAN Tb rfl rfl rfl rfl hc14 rfl) rfl rfl (kk_wl ?_))
    refine wl_u rfl (ow_allocA Tb rfl rfl rfl rfl (fun g5 => kk_wl ?_))
    refine wl_u rfl (ow_storeA Tb (k := 0) rfl rfl rfl rfl rfl rfl rfl rfl rfl (kk_wl ?_))
    refine wl_nil ?_
    refine ex_seq ?_
    refine cw_dr [0, 1, 2] [5, 6, 7] [blkC g5 49 [.string y14.name, .slice a14 y14.after.length e14, .bool y14.undo], blkC g2 25 [.int .i64 0, .slice none 0 0], blkC g3 25 [.int .i64 f.ver, .slice as3_c_1 s3_c_1.length cs3_c_1], owC stepsL Fs3_c_1 [.slice as3_c_1 s3_c_1.length cs3_c_1] s3_c_1] (by kernel_rfl) ?_
    refine wd_take (i := 0) [0, 1, 2, 3] rfl rfl rfl rfl rfl (by kernel_rfl) (by kernel_rfl) (fun _ _ _ _ h => h) (yh_field Tb rfl rfl rfl) ?_
    refine wd_take (i := 1) [0, 1, 2, 3] rfl rfl rfl rfl rfl (by kernel_rfl) (by kernel_rfl) (fun _ _ _ _ h => h) (yh_loadB Tb (k := 2) rfl rfl rfl rfl rfl) ?_
    refine wd_take (i := 2) [0, 1, 2, 3] rfl rfl rfl rfl rfl (by kernel_rfl) (by kernel_rfl) (fun _ _ _ _ h => h) (yh_loadBA Tb (k := 0) rfl rfl rfl rfl rfl rfl) ?_
    obtain ⟨x19, hx19, h⟩ := bd h
    refine wd_one 3 rfl rfl (by kernel_rfl) (ow_cN1 rfl hb38 rfl (fun w hw => c_impl_Step_clone N _ _ hx19 w (Lay.at_ hf14 hw)) rfl rfl (fun a19 c19 F19 => kk_wd [1, 2, 3, 4] (by kernel_rfl) ?_))
    refine wd_one 4 rfl rfl (by kernel_rfl) (ow_litA Tb rfl rfl rfl rfl rfl rfl (by decide) rfl rfl (fun g20 => kk_wd [2, 3, 4, 5] (by kernel_rfl) ?_))
    obtain ⟨hll21, h⟩ := bd_appd h
    refine wd_one 5 rfl rfl (by kernel_rfl) (ow_chg (c' := owC stepL F19 [.string x19.name, .slice a19 x19.after.length c19, .bool x19.undo] x19) 1 rfl (fun w hA => stepL_mk x19 hA) rfl (ow_appE Tb (i := 5) (j := 0) (k := 1) rfl rfl rfl rfl rfl rfl rfl rfl rfl rfl rfl (app1 hll21) (by decide) rfl rfl (fun a21 c21 F21 => kk_wdT rfl ?_)))
    refine wd_one 6 rfl rfl (by kernel_rfl) (ow_y (yh_field Tb rfl rfl rfl) rfl rfl (kk_wdT rfl ?_))
    refine wd_one 7 rfl rfl (by kernel_rfl) (ow_store1 Tb (k := 4) rfl rfl rfl rfl rfl rfl rfl rfl rfl (kk_wdT rfl ?_))
    refine wd_done (by kernel_rfl) ?_
    refine ex_block_normal ?_
    refine ex_seq ?_
    refine cw_region ?_
    refine wl_u rfl (ow_y (yh_arI rfl rfl rfl rfl (by omega)) rfl rfl (kk_wl ?_))
    refine wl_u rfl (ow_y (yh_move rfl rfl) rfl rfl (kk_wl ?_))
    refine wl_nil ?_
    exact ex_next [4, 0, 1] (hn6 (n6, (s3_c_1 ++ [x19]), s12 + 1, a21, c21, F21) (Nat.lt_succ_self _) h) ⟨rfl, rfl, rfl, rfl, rfl, trivial⟩ (by kernel_rfl)
  · skip
    replace h := bf cc1 h
    have q2 := ltb_false.1 cc1
    refine cw_exit ?_
    refine ex_then_exit ?_
    refine ex_then_exit ?_
    obtain rfl := Option.some.inj h
    have h := go_brk hk6
    refine ex_block_exit ?_
    refine ex_seq ?_
    refine cw_seq ?_
    refine cw_region ?_
    refine wl_u rfl (ow_y (yh_loadBA Tb (k := 1) rfl rfl rfl rfl rfl rfl) rfl rfl (kk_wl ?_))
    refine wl_u rfl (ow_storeA Tb (k := 0) rfl rfl rfl rfl rfl rfl rfl rfl rfl (kk_wl ?_))
    refine wl_nil ?_
    refine ex_seq ?_
    refine cw_ret ?_
    obtain rfl := Option.some.inj h
    exact ex_r1 Tb rfl (.cellA 0 rfl rfl rfl rfl rfl) (fun wq hq => ⟨_, rfl, hq.ext, ⟨as3_c_1, cs3_c_1, Fs3_c_1, rfl, NewC.sel [2] hq rfl⟩⟩)

def m_impl_Flow_at_f1 (N : Nat) (s_ : Step) (name : Str) : Option (Bool) := some (seq s_.name name)

set_option maxHeartbeats 4000000 in
theorem c_impl_Flow_at_f1 (N : Nat) (s_ : Step) (name : Str) (res : Bool) (h : m_impl_Flow_at_f1 N s_ name = some res) (w : World) {a_s__after : Option Addr} {c_s__after : Nat} {g_name : Nat} (h_s__after : strsL.rd w [] [.slice a_s__after s_.after.length c_s__after] s_.after) (hg_name : CellN w [] g_name 0 [.string name]) : Ret Tryz.prog 81 [.agg #[.string s_.name, .slice a_s__after s_.after.length c_s__after, .bool s_.undo], .pointer (some ⟨g_name, 0, none⟩)] w [] fun v w' => v = .bool res := by
  have mh_s__after := rd_max h_s__after
  unfold m_impl_Flow_at_f1 at h
  refine ret_enter Tryz.func81 rfl Tryz.ntmps81 rfl (Hp.refl w _) ?_
  refine cw_seq ?_
  refine cw_region ?_
  refine wl_u rfl (ow_boxA rfl rfl rfl rfl (fun g2 => kk_wl ?_))
  refine wl_u rfl (ow_y (yh_assign rfl rfl) rfl rfl (kk_wl ?_))
  refine wl_nil ?_
  refine ex_seq ?_
  refine cw_seq ?_
  refine cw_region ?_
  refine wl_u rfl (ow_y (yh_field Tb rfl rfl rfl) rfl rfl (kk_wl ?_))
  refine wl_u rfl (ow_y (yh_loadB Tb (k := 0) rfl rfl rfl rfl rfl) rfl rfl (kk_wl ?_))
  refine wl_u rfl (ow_y (yh_loadA0 Tb rfl rfl rfl hg_name rfl) rfl rfl (kk_wl ?_))
  refine wl_u rfl (ow_y (yh_cmpS rfl rfl rfl rfl) rfl rfl (kk_wl ?_))
  refine wl_u rfl (ow_y (yh_assign rfl rfl) rfl rfl (kk_wl ?_))
  refine wl_nil ?_
  refine ex_seq ?_
  refine cw_ret ?_
  obtain rfl := Option.some.inj h
  exact ex_r1 Tb rfl (.tmp rfl) (fun wq hq => ⟨_, rfl, hq.ext, rfl⟩)

def m_slices_IndexFunc_Step_L4 (N : Nat) (s_ : List Step) (f : Step → Option Bool) : Nat → Nat → Option (Ex (Nat) (Int))
  | 0, _ => none
  | n + 1, s8 => (bif ltb ((s8 : Nat) : Int) ((s_.length : Nat) : Int) then (s_[s8]?).bind fun y14 => (f y14).bind fun x16 => (bif x16 then some (Ex.ret ((s8 : Nat) : Int))
 else m_slices_IndexFunc_Step_L4 N s_ f n (s8 + 1))
 else some (Ex.brk (s8)))

def m_slices_IndexFunc_Step (N : Nat) (s_ : List Step) (f : Step → Option Bool) : Option (Int) := (m_slices_IndexFunc_Step_L4 N s_ f N 0).bind fun e4 => e4.go (fun r => r) fun b4 => some (-1)

set_option maxHeartbeats 4000000 in
theorem c_slices_IndexFunc_Step (N : Nat) (s_ : List Step) (f : Step → Option Bool) (res : Int) (h : m_slices_IndexFunc_Step N s_ f = some res) (w : World) {a_s_ : Option Addr} {c_s_ : Nat} {k_f : FuncId} {caps_f : List Value} (h_s_ : stepsL.rd w [] [.slice a_s_ s_.length c_s_] s_) (hb_f : hasBody Tryz.prog k_f) (hf_f : ∀ x0 b, f x0 = some b → ∀ w', ExtM [] w w' → ∀ a1 c1, strsL.rd w' [] [.slice a1 x0.after.length c1] x0.after → Ret Tryz.prog k_f ([.agg #[.string x0.name, .slice a1 x0.after.length c1, .bool x0.undo]] ++ caps_f) w' [] fun v _ => v = .bool b) : Ret Tryz.prog 80 [.slice a_s_ s_.length c_s_, .func (.func k_f) #[] caps_f.toArray] w [] fun v w' => v = .int .i64 res := by
  have mh_s_ := rd_max h_s_
  unfold m_slices_IndexFunc_Step at h
  refine ret_enter Tryz.func80 rfl Tryz.ntmps80 rfl (Hp.refl w _) ?_
  refine cw_seq ?_
  refine cw_region ?_
  refine wl_u rfl (ow_y (yh_assign rfl rfl) rfl rfl (kk_wl ?_))
  refine wl_nil ?_
  refine ex_seq ?_
  refine cw_seq ?_
  refine cw_seq ?_
  refine cw_region ?_
  refine wl_u rfl (ow_y (yh_move rfl rfl) rfl rfl (kk_wl ?_))
  refine wl_u rfl (ow_y (yh_lenS Tb rfl rfl rfl rfl) rfl rfl (kk_wl ?_))
  refine wl_u rfl (ow_y (yh_move rfl rfl) rfl rfl (kk_wl ?_))
  refine wl_nil ?_
  refine ex_seq ?_
  refine cw_block ?_
  obtain ⟨e4, he4, hk4⟩ := bd h
  clear h
  refine cw_loopG (σ := Nat × Nat) (fun s => m_slices_IndexFunc_Step_L4 N s_ f s.1 s.2 = some e4) (fun s => [(0, .slice a_s_ s_.length c_s_), (1, .func (.func k_f) #[] caps_f.toArray), (7, .int .i64 ((s_.length : Nat) : Int)), (8, .int .i64 ((s.2 : Nat) : Int))]) (fun s => []) (fun s => s.1) (N, 0) [] he4 ⟨rfl, rfl, rfl, rfl, trivial⟩ rfl (fun KL s he4 hn4 => ?_)
  obtain ⟨n4, s8⟩ := s
  simp only at he4 hn4 ⊢
  rcases n4 with _ | n4
  · exact nosome he4
  have h := he4; rw [m_slices_IndexFunc_Step_L4] at h
  refine cw_seq ?_
  refine cw_region ?_
  refine wl_u rfl (ow_y (yh_cmpI rfl rfl rfl rfl) rfl rfl (kk_wl ?_))
  refine wl_nil ?_
  refine ex_seq ?_
  refine cw_seq ?_
  refine cw_split rfl (fun cc1 => ?_) (fun cc1 => ?_)
  · skip
    replace h := bt cc1 h
    have q1 := ltb_true.1 cc1
    refine cw_skip ?_
    refine ex_seq ?_
    refine cw_seq ?_
    refine cw_block ?_
    refine cw_seq ?_
    refine cw_region ?_
    refine wl_u rfl (ow_y (yh_move rfl rfl) rfl rfl (kk_wl ?_))
    refine wl_u rfl (ow_y (yh_assign rfl rfl) rfl rfl (kk_wl ?_))
    refine wl_nil ?_
    refine ex_seq ?_
    refine cw_seq ?_
    refine cw_region ?_
    refine wl_u rfl (ow_y (yh_move rfl rfl) rfl rfl (kk_wl ?_))
    refine wl_u rfl (ow_y (yh_move rfl rfl) rfl rfl (kk_wl ?_))
    refine wl_u rfl (ow_y (yh_move rfl rfl) rfl rfl (kk_wl ?_))
    obtain ⟨y14, hy14, h⟩ := bd h
    obtain ⟨b14, o14, ha14⟩ := sl_addr h_s_ hy14
    subst ha14
    obtain ⟨a14, e14, hc14, hf14⟩ := get_step h_s_ hy14
    have mx14 := rd_max hf14
    refine wl_u rfl (ow_y (yh_idx Tb (k := s8) rfl rfl rfl rfl (get_lt hy14) rfl rfl) rfl rfl (kk_wl ?_))
    refine wl_u rfl (ow_y (yh_loadAN Tb rfl rfl rfl rfl hc14 rfl) rfl rfl (kk_wl ?_))
    obtain ⟨x16, hx16, h⟩ := bd h
    refine wl_u rfl (ow_callV rfl rfl hb_f rfl rfl (fun w hw => hf_f _ _ hx16 w hw.ext _ _ (Lay.at_ hf14 hw)) rfl rfl (kk_wl ?_))
    refine wl_nil ?_
    refine ex_seq ?_
    refine cw_split rfl (fun cc2 => ?_) (fun cc2 => ?_)
    · skip
      replace h := bt cc2 h
      refine cw_seq ?_
      refine cw_region ?_
      refine wl_u rfl (ow_y (yh_move rfl rfl) rfl rfl (kk_wl ?_))
      refine wl_u rfl (ow_y (yh_assign rfl rfl) rfl rfl (kk_wl ?_))
      refine wl_nil ?_
      refine ex_seq ?_
      refine cw_ret ?_
      refine ex_block_ret ?_
      refine ex_then_ret ?_
      refine ex_then_ret ?_
      refine ex_block_ret ?_
      refine ex_then_ret ?_
      obtain rfl := Option.some.inj h
      obtain rfl := go_ret hk4
      exact ex_r1 Tb rfl (.tmp rfl) (fun wq hq => ⟨_, rfl, hq.ext, rfl⟩)
    · skip
      replace h := bf cc2 h
      refine cw_skip ?_
      refine ex_block_normal ?_
      refine ex_seq ?_
      refine cw_region ?_
      refine wl_u rfl (ow_y (yh_arI rfl rfl rfl rfl (by omega)) rfl rfl (kk_wl ?_))
      refine wl_u rfl (ow_y (yh_move rfl rfl) rfl rfl (kk_wl ?_))
      refine wl_nil ?_
      exact ex_next [] (hn4 (n4, s8 + 1) (Nat.lt_succ_self _) h) ⟨rfl, rfl, rfl, rfl, trivial⟩ (by kernel_rfl)
  · skip
    replace h := bf cc1 h
    have q2 := ltb_false.1 cc1
    refine cw_exit ?_
    refine ex_then_exit ?_
    refine ex_then_exit ?_
    obtain rfl := Option.some.inj h
    have h := go_brk hk4
    refine ex_block_exit ?_
    refine ex_seq ?_
    refine cw_seq ?_
    refine cw_region ?_
    refine wl_u rfl (ow_y (yh_assign rfl rfl) rfl rfl (kk_wl ?_))
    refine wl_nil ?_
    refine ex_seq ?_
    refine cw_ret ?_
    obtain rfl := Option.some.inj h
    exact ex_r1 Tb rfl (.tmp rfl) (fun wq hq => ⟨_, rfl, hq.ext, rfl⟩)

def m_impl_Flow_at (N : Nat) (f : Flow) (name : Str) : Option (Int) := (m_slices_IndexFunc_Step N f.steps (fun x0 => m_impl_Flow_at_f1 N x0 name)).bind fun x8 => some x8

set_option maxHeartbeats 4000000 in
theorem c_impl_Flow_at (N : Nat) (f : Flow) (name : Str) (res : Int) (h : m_impl_Flow_at N f name = some res) (w : World) {a_f_steps : Option Addr} {c_f_steps : Nat} (h_f_steps : stepsL.rd w [] [.slice a_f_steps f.steps.length c_f_steps] f.steps) : Ret Tryz.prog 36 [.agg #[.int .i64 f.ver, .slice a_f_steps f.steps.length c_f_steps], .string name] w [] fun v w' => v = .int .i64 res := by
  have mh_f_steps := rd_max h_f_steps
  unfold m_impl_Flow_at at h
  refine ret_enter Tryz.func36 rfl Tryz.ntmps36 rfl (Hp.refl w _) ?_
  refine cw_seq ?_
  refine cw_region ?_
  refine wl_u rfl (ow_boxA rfl rfl rfl rfl (fun g2 => kk_wl ?_))
  refine wl_u rfl (ow_box1 rfl rfl rfl rfl rfl (fun g3 => kk_wl ?_))
  refine wl_u rfl (ow_y (yh_assign rfl rfl) rfl rfl (kk_wl ?_))
  refine wl_nil ?_
  refine ex_seq ?_
  refine cw_seq ?_
  refine cw_region ?_
  refine wl_u rfl (ow_y (yh_field Tb rfl rfl rfl) rfl rfl (kk_wl ?_))
  refine wl_u rfl (ow_y (yh_loadB Tb (k := 1) rfl rfl rfl rfl rfl) rfl rfl (kk_wl ?_))
  refine wl_u rfl (ow_y (yh_mkfn rfl rfl) rfl rfl (kk_wl ?_))
  obtain ⟨x8, hx8, h⟩ := bd h
  refine wl_u rfl (ow_cV rfl hb80 rfl (fun w hw => c_slices_IndexFunc_Step N _ _ _ hx8 w (Lay.at_ h_f_steps hw) hb81 (fun x0 b hb w' hE a1 c1 h1 => c_impl_Flow_at_f1 N x0 name b hb w' h1 (cell_blk ((hw.step hE).at (i := 0) rfl)))) rfl rfl (kk_wl ?_))
  refine wl_u rfl (ow_y (yh_assign rfl rfl) rfl rfl (kk_wl ?_))
  refine wl_nil ?_
  refine ex_seq ?_
  refine cw_ret ?_
  obtain rfl := Option.some.inj h
  exact ex_r1 Tb rfl (.tmp rfl) (fun wq hq => ⟨_, rfl, hq.ext, rfl⟩)

def m_slices_Delete_Step (N : Nat) (s_ : List Step) (i : Int) (j : Int) : Option (List Step) := (sl3 s_ i j).bind fun l13 => (bif eqb i j then some s_
 else (slTo s_ i).bind fun l22 => (slFrom s_ j).bind fun l25 => (kle i j).bind fun u26 => some (l22 ++ l25))

set_option maxHeartbeats 4000000 in
theorem c_slices_Delete_Step (N : Nat) (s_ : List Step) (i : Int) (j : Int) (res : List Step) (h : m_slices_Delete_Step N s_ i j = some res) (w : World) {a_s_ : Option Addr} {c_s_ : Nat} {F_s_ : List Nat} (hr : (owC stepsL F_s_ [.slice a_s_ s_.length c_s_] s_).A w) (hnd : F_s_.Nodup) : Ret Tryz.prog 107 [.slice a_s_ s_.length c_s_, .int .i64 i, .int .i64 j] w F_s_ fun v w' => ∃ a1 c1 F1, v = .slice a1 res.length c1 ∧ NewM w w' F_s_ [owC stepsL F1 [.slice a1 res.length c1] res] := by
  unfold m_slices_Delete_Step at h
  refine ret_enter Tryz.func107 rfl Tryz.ntmps107 rfl (hp_one hr hnd) ?_
  refine cw_seq ?_
  refine cw_region ?_
  refine wl_u rfl (ow_y (yh_assign rfl rfl) rfl rfl (kk_wl ?_))
  refine wl_nil ?_
  refine ex_seq ?_
  refine cw_seq ?_
  refine cw_region ?_
  refine wl_u rfl (ow_y (yh_move rfl rfl) rfl rfl (kk_wl ?_))
  refine wl_u rfl (ow_y (yh_move rfl rfl) rfl rfl (kk_wl ?_))
  refine wl_u rfl (ow_y (yh_move rfl rfl) rfl rfl (kk_wl ?_))
  refine wl_u rfl (ow_y (yh_move rfl rfl) rfl rfl (kk_wl ?_))
  refine wl_know (s_.length ≤ 9223372036854775807) (fun w hw => own_max 0 rfl hw) (fun mo12 => ?_)
  refine wl_u rfl (ow_y (yh_lenS Tb rfl rfl rfl rfl) rfl rfl (kk_wl ?_))
  obtain ⟨l13, zl13, h⟩ := bd h
  refine wl_know (s_.length ≤ c_s_) (fun w hw => own_capK 0 rfl hw) (fun hcp13 => ?_)
  have pl13 := sl3_some zl13
  refine wl_u rfl (ow_y (yh_slice3 Tb zl13 rfl hcp13 rfl rfl rfl rfl rfl rfl rfl rfl) rfl rfl (kk_wl ?_))
  refine wl_nil ?_
  refine ex_seq ?_
  refine cw_seq ?_
  refine cw_seq ?_
  refine cw_region ?_
  refine wl_u rfl (ow_y (yh_move rfl rfl) rfl rfl (kk_wl ?_))
  refine wl_u rfl (ow_y (yh_move rfl rfl) rfl rfl (kk_wl ?_))
  refine wl_u rfl (ow_y (yh_cmpI rfl rfl rfl rfl) rfl rfl (kk_wl ?_))
  refine wl_nil ?_
  refine ex_seq ?_
  refine cw_split rfl (fun cc1 => ?_) (fun cc1 => ?_)
  · skip
    replace h := bt cc1 h
    have q1 := eqb_true.1 cc1
    refine cw_seq ?_
    refine cw_region ?_
    refine wl_u rfl (ow_y (yh_move rfl rfl) rfl rfl (kk_wl ?_))
    refine wl_u rfl (ow_y (yh_assign rfl rfl) rfl rfl (kk_wl ?_))
    refine wl_nil ?_
    refine ex_seq ?_
    refine cw_ret ?_
    refine ex_then_ret ?_
    obtain rfl := Option.some.inj h
    exact ex_r1 Tb rfl (.tmp rfl) (fun wq hq => ⟨_, rfl, hq.ext, ⟨a_s_, c_s_, F_s_, rfl, NewM.sel [0] hq rfl⟩⟩)
  · skip
    replace h := bf cc1 h
    have q2 := eqb_false.1 cc1
    refine cw_skip ?_
    refine ex_seq ?_
    refine cw_seq ?_
    refine cw_region ?_
    refine wl_u rfl (ow_y (yh_move rfl rfl) rfl rfl (kk_wl ?_))
    refine wl_u rfl (ow_y (yh_lenS Tb rfl rfl rfl rfl) rfl rfl (kk_wl ?_))
    refine wl_u rfl (ow_y (yh_assign rfl rfl) rfl rfl (kk_wl ?_))
    refine wl_nil ?_
    refine ex_seq ?_
    refine cw_seq ?_
    refine cw_dr [0, 1, 2, 3, 4, 5] [6, 7] [owC stepsL F_s_ [.slice a_s_ s_.length c_s_] s_] (by kernel_rfl) ?_
    refine wd_take (i := 0) [0] rfl rfl rfl rfl rfl (by kernel_rfl) (by kernel_rfl) (fun _ _ _ _ h => h) (yh_move rfl rfl) ?_
    refine wd_take (i := 1) [0] rfl rfl rfl rfl rfl (by kernel_rfl) (by kernel_rfl) (fun _ _ _ _ h => h) (yh_move rfl rfl) ?_
    obtain ⟨l22, zl22, h⟩ := bd h
    obtain ⟨il22, jl22⟩ := slTo_K zl22
    refine wd_know (s_.length ≤ c_s_) (fun w hw => own_capK 0 rfl hw) (fun hcp22 => ?_)
    refine wd_take (i := 2) [0] rfl rfl rfl rfl rfl (by kernel_rfl) (by kernel_rfl) (fun _ _ _ _ h => h) (yh_sliceH Tb (k := l22.length) rfl rfl rfl il22 (Nat.le_trans jl22 hcp22) rfl rfl) ?_
    refine wd_take (i := 3) [0] rfl rfl rfl rfl rfl (by kernel_rfl) (by kernel_rfl) (fun _ _ _ _ h => h) (yh_move rfl rfl) ?_
    refine wd_take (i := 4) [0] rfl rfl rfl rfl rfl (by kernel_rfl) (by kernel_rfl) (fun _ _ _ _ h => h) (yh_move rfl rfl) ?_
    obtain ⟨l25, zl25, h⟩ := bd h
    obtain ⟨a25, e25, va25, ve25, il25⟩ := sl_dropV a_s_ c_s_ 3 zl25
    refine wd_take (i := 5) [0] rfl rfl rfl rfl rfl (by kernel_rfl) (by kernel_rfl) (fun _ _ _ _ h => h) (yh_sliceLN Tb rfl zl25 va25 ve25 rfl rfl rfl rfl rfl) ?_
    obtain ⟨u26, zu26, h⟩ := bd h
    have hle26 := kle_some zu26
    have hdl26 := del_len zl22 zl25 hle26
    refine wd_one 6 rfl rfl (by kernel_rfl) (ow_del Tb 0 zl22 zl25 hle26 va25 ve25 rfl rfl rfl rfl rfl rfl rfl rfl rfl (fun F26 => kk_wdT rfl ?_))
    refine wd_one 7 rfl rfl (by kernel_rfl) (ow_y (yh_assign rfl rfl) rfl rfl (kk_wdT rfl ?_))
    refine wd_done (by kernel_rfl) ?_
    refine ex_seq ?_
    refine cw_seq ?_
    refine cw_region ?_
    refine wl_u rfl (ow_y (yh_move rfl rfl) rfl rfl (kk_wl ?_))
    refine wl_u rfl (ow_y (yh_move rfl rfl) rfl rfl (kk_wl ?_))
    refine wl_know ((l22 ++ l25).length ≤ 9223372036854775807) (fun w hw => own_max 0 rfl hw) (fun mo29 => ?_)
    refine wl_u rfl (ow_y (yh_lenS Tb rfl rfl rfl rfl) rfl rfl (kk_wl ?_))
    refine wl_u rfl (ow_y (yh_move rfl rfl) rfl rfl (kk_wl ?_))
    obtain ⟨a31, va31⟩ : ∃ a', a' = (if c_s_ = (l22 ++ l25).length then a_s_ else (a_s_ : Option Addr).map (·.add ((l22 ++ l25).length * 3))) := ⟨_, rfl⟩
    refine wl_u rfl (ow_y (yh_slice2 Tb (k := (l22 ++ l25).length) (j := s_.length) va31 rfl rfl hdl26 hcp22 rfl rfl rfl rfl rfl rfl) rfl rfl (kk_wl ?_))
    refine wl_u rfl (ow_clearT Tb 0 rfl va31 (by omega) rfl rfl rfl rfl rfl rfl (by decide) rfl rfl (kk_wl ?_))
    refine wl_nil ?_
    refine ex_seq ?_
    refine cw_seq ?_
    refine cw_region ?_
    refine wl_u rfl (ow_y (yh_move rfl rfl) rfl rfl (kk_wl ?_))
    refine wl_u rfl (ow_y (yh_assign rfl rfl) rfl rfl (kk_wl ?_))
    refine wl_nil ?_
    refine ex_seq ?_
    refine cw_ret ?_
    obtain rfl := Option.some.inj h
    exact ex_r1 Tb rfl (.tmp rfl) (fun wq hq => ⟨_, rfl, hq.ext, ⟨a_s_, c_s_, F26, rfl, NewM.sel [0] hq rfl⟩⟩)

def m_slices_Delete_RStep (N : Nat) (s_ : List RStep) (i : Int) (j : Int) : Option (List RStep) := (sl3 s_ i j).bind fun l13 => (bif eqb i j then some s_
 else (slTo s_ i).bind fun l22 => (slFrom s_ j).bind fun l25 => (kle i j).bind fun u26 => some (l22 ++ l25))

set_option maxHeartbeats 4000000 in
theorem c_slices_Delete_RStep (N : Nat) (s_ : List RStep) (i : Int) (j : Int) (res : List RStep) (h : m_slices_Delete_RStep N s_ i j = some res) (w : World) {a_s_ : Option Addr} {c_s_ : Nat} {F_s_ : List Nat} (hr : (owC rstepsL F_s_ [.slice a_s_ s_.length c_s_] s_).A w) (hnd : F_s_.Nodup) : Ret Tryz.prog 107 [.slice a_s_ s_.length c_s_, .int .i64 i, .int .i64 j] w F_s_ fun v w' => ∃ a1 c1 F1, v = .slice a1 res.length c1 ∧ NewM w w' F_s_ [owC rstepsL F1 [.slice a1 res.length c1] res] := by
  unfold m_slices_Delete_RStep at h
  refine ret_enter Tryz.func107 rfl Tryz.ntmps107 rfl (hp_one hr hnd) ?_
  refine cw_seq ?_
  refine cw_region ?_
  refine wl_u rfl (ow_y (yh_assign rfl rfl) rfl rfl (kk_wl ?_))
  refine wl_nil ?_
  refine ex_seq ?_
  refine cw_seq ?_
  refine cw_region ?_
  refine wl_u rfl (ow_y (yh_move rfl rfl) rfl rfl (kk_wl ?_))
  refine wl_u rfl (ow_y (yh_move rfl rfl) rfl rfl (kk_wl ?_))
  refine wl_u rfl (ow_y (yh_move rfl rfl) rfl rfl (kk_wl ?_))
  refine wl_u rfl (ow_y (yh_move rfl rfl) rfl rfl (kk_wl ?_))
  refine wl_know (s_.length ≤ 9223372036854775807) (fun w hw => own_max 0 rfl hw) (fun mo12 => ?_)
  refine wl_u rfl (ow_y (yh_lenS Tb rfl rfl rfl rfl) rfl rfl (kk_wl ?_))
  obtain ⟨l13, zl13, h⟩ := bd h
  refine wl_know (s_.length ≤ c_s_) (fun w hw => own_capK 0 rfl hw) (fun hcp13 => ?_)
  have pl13 := sl3_some zl13
  refine wl_u rfl (ow_y (yh_slice3 Tb zl13 rfl hcp13 rfl rfl rfl rfl rfl rfl rfl rfl) rfl rfl (kk_wl ?_))
  refine wl_nil ?_
  refine ex_seq ?_
  refine cw_seq ?_
  refine cw_seq ?_
  refine cw_region ?_
  refine wl_u rfl (ow_y (yh_move rfl rfl) rfl rfl (kk_wl ?_))
  refine wl_u rfl (ow_y (yh_move rfl rfl) rfl rfl (kk_wl ?_))
  refine wl_u rfl (ow_y (yh_cmpI rfl rfl rfl rfl) rfl rfl (kk_wl ?_))
  refine wl_nil ?_
  refine ex_seq ?_
  refine cw_split rfl (fun cc1 => ?_) (fun cc1 => ?_)
  · skip
    replace h := bt cc1 h
    have q1 := eqb_true.1 cc1
    refine cw_seq ?_
    refine cw_region ?_
    refine wl_u rfl (ow_y (yh_move rfl rfl) rfl rfl (kk_wl ?_))
    refine wl_u rfl (ow_y (yh_assign rfl rfl) rfl rfl (kk_wl ?_))
    refine wl_nil ?_
    refine ex_seq ?_
    refine cw_ret ?_
    refine ex_then_ret ?_
    obtain rfl := Option.some.inj h
    exact ex_r1 Tb rfl (.tmp rfl) (fun wq hq => ⟨_, rfl, hq.ext, ⟨a_s_, c_s_, F_s_, rfl, NewM.sel [0] hq rfl⟩⟩)
  · skip
    replace h := bf cc1 h
    have q2 := eqb_false.1 cc1
    refine cw_skip ?_
    refine ex_seq ?_
    refine cw_seq ?_
    refine cw_region ?_
    refine wl_u rfl (ow_y (yh_move rfl rfl) rfl rfl (kk_wl ?_))
    refine wl_u rfl (ow_y (yh_lenS Tb rfl rfl rfl rfl) rfl rfl (kk_wl ?_))
    refine wl_u rfl (ow_y (yh_assign rfl rfl) rfl rfl (kk_wl ?_))
    refine wl_nil ?_
    refine ex_seq ?_
    refine cw_seq ?_
    refine cw_dr [0, 1, 2, 3, 4, 5] [6, 7] [owC rstepsL F_s_ [.slice a_s_ s_.length c_s_] s_] (by kernel_rfl) ?_
    refine wd_take (i := 0) [0] rfl rfl rfl rfl rfl (by kernel_rfl) (by kernel_rfl) (fun _ _ _ _ h => h) (yh_move rfl rfl) ?_
    refine wd_take (i := 1) [0] rfl rfl rfl rfl rfl (by kernel_rfl) (by kernel_rfl) (fun _ _ _ _ h => h) (yh_move rfl rfl) ?_
    obtain ⟨l22, zl22, h⟩ := bd h
    obtain ⟨il22, jl22⟩ := slTo_K zl22
    refine wd_know (s_.length ≤ c_s_) (fun w hw => own_capK 0 rfl hw) (fun hcp22 => ?_)
    refine wd_take (i := 2) [0] rfl rfl rfl rfl rfl (by kernel_rfl) (by kernel_rfl) (fun _ _ _ _ h => h) (yh_sliceH Tb (k := l22.length) rfl rfl rfl il22 (Nat.le_trans jl22 hcp22) rfl rfl) ?_
    refine wd_take (i := 3) [0] rfl rfl rfl rfl rfl (by kernel_rfl) (by kernel_rfl) (fun _ _ _ _ h => h) (yh_move rfl rfl) ?_
    refine wd_take (i := 4) [0] rfl rfl rfl rfl rfl (by kernel_rfl) (by kernel_rfl) (fun _ _ _ _ h => h) (yh_move rfl rfl) ?_
    obtain ⟨l25, zl25, h⟩ := bd h
    obtain ⟨a25, e25, va25, ve25, il25⟩ := sl_dropV a_s_ c_s_ 3 zl25
    refine wd_take (i := 5) [0] rfl rfl rfl rfl rfl (by kernel_rfl) (by kernel_rfl) (fun _ _ _ _ h => h) (yh_sliceLN Tb rfl zl25 va25 ve25 rfl rfl rfl rfl rfl) ?_
    obtain ⟨u26, zu26, h⟩ := bd h
    have hle26 := kle_some zu26
    have hdl26 := del_len zl22 zl25 hle26
    refine wd_one 6 rfl rfl (by kernel_rfl) (ow_del Tb 0 zl22 zl25 hle26 va25 ve25 rfl rfl rfl rfl rfl rfl rfl rfl rfl (fun F26 => kk_wdT rfl ?_))
    refine wd_one 7 rfl rfl (by kernel_rfl) (ow_y (yh_assign rfl rfl) rfl rfl (kk_wdT rfl ?_))
    refine wd_done (by kernel_rfl) ?_
    refine ex_seq ?_
    refine cw_seq ?_
    refine cw_region ?_
    refine wl_u rfl (ow_y (yh_move rfl rfl) rfl rfl (kk_wl ?_))
    refine wl_u rfl (ow_y (yh_move rfl rfl) rfl rfl (kk_wl ?_))
    refine wl_know ((l22 ++ l25).length ≤ 9223372036854775807) (fun w hw => own_max 0 rfl hw) (fun mo29 => ?_)
    refine wl_u rfl (ow_y (yh_lenS Tb rfl rfl rfl rfl) rfl rfl (kk_wl ?_))
    refine wl_u rfl (ow_y (yh_move rfl rfl) rfl rfl (kk_wl ?_))
    obtain ⟨a31, va31⟩ : ∃ a', a' = (if c_s_ = (l22 ++ l25).length then a_s_ else (a_s_ : Option Addr).map (·.add ((l22 ++ l25).length * 3))) := ⟨_, rfl⟩
    refine wl_u rfl (ow_y (yh_slice2 Tb (k := (l22 ++ l25).length) (j := s_.length) va31 rfl rfl hdl26 hcp22 rfl rfl rfl rfl rfl rfl) rfl rfl (kk_wl ?_))
    refine wl_u rfl (ow_clearT Tb 0 rfl va31 (by omega) rfl rfl rfl rfl rfl rfl (by decide) rfl rfl (kk_wl ?_))
    refine wl_nil ?_
    refine ex_seq ?_
    refine cw_seq ?_
    refine cw_region ?_
    refine wl_u rfl (ow_y (yh_move rfl rfl) rfl rfl (kk_wl ?_))
    refine wl_u rfl (ow_y (yh_assign rfl rfl) rfl rfl (kk_wl ?_))
    refine wl_nil ?_
    refine ex_seq ?_
    refine cw_ret ?_
    obtain rfl := Option.some.inj h
    exact ex_r1 Tb rfl (.tmp rfl) (fun wq hq => ⟨_, rfl, hq.ext, ⟨a_s_, c_s_, F26, rfl, NewM.sel [0] hq rfl⟩⟩)

/-- Delete of one element of a row of steps, whose slice is known: what the element held lies apart behind it. -/
theorem c_slices_Delete_know (N : Nat) (s : List Step) (i j : Int) (res : List Step) (h : m_slices_Delete_Step N s i j = some res) (w : World) {g n c k cg : Nat} {ag : Option Addr} {F : List Nat} {y : Step} (hr : (knowC F g n c s k (.slice ag y.after.length cg)).A w) (hnd : F.Nodup) (hk : s[k]? = some y) (hi : i = (k : Int)) (hj : j = w64 (i + 1)) (hn : n = s.length) :
    Ret Tryz.prog 107 [.slice (some ⟨g, 0, none⟩) n c, .int .i64 i, .int .i64 j] w F fun v w' => ∃ a1 c1 F1, ∃ (a2 : Option Addr) (c2 : Nat) (F2 : List Nat), v = .slice a1 res.length c1 ∧ NewM w w' F [owC stepsL F1 [.slice a1 res.length c1] res, owC strsL F2 [.slice ag y.after.length cg] y.after] := by
  subst hn
  obtain ⟨hr1, hcell, hgF⟩ := hr
  obtain ⟨lr, Fs, h1, hF, hfl, hdeep⟩ := step_expose hr1
  have hkl := (List.getElem?_eq_some_iff.1 hk).1
  have hlr : lr.length = s.length := by rw [← h1, List.length_map]
  obtain ⟨r, hrk⟩ : ∃ r, lr[k]? = some r := ⟨_, List.getElem?_eq_getElem (by omega)⟩
  have hry : r.st = y := by
    rw [← h1, List.getElem?_map, hrk] at hk
    simpa using hk
  obtain ⟨Fs', G, hp, hd', hG⟩ := deep_split hdeep hrk
  -- what it computes
  have hres : res = s.take k ++ s.drop (k + 1) ∧ m_slices_Delete_RStep N lr i j = some (lr.take k ++ lr.drop (k + 1)) := by
    subst hi; subst hj
    have hw64 : w64 ((k : Int) + 1) = (k : Int) + 1 := by
      obtain ⟨_, _, _, hnc4, hcm4, _⟩ := own_row.1 hfl
      have hcm5 : c ≤ maxLen := hcm4
      simp only [maxLen] at hcm5
      exact w64_id (by omega)
    rw [hw64] at h ⊢
    have e1 : ((k : Int) + 1).toNat = k + 1 := by omega
    have hne : eqb (k : Int) ((k : Int) + 1) = false := eqb_false.2 (by omega)
    unfold m_slices_Delete_Step at h
    unfold m_slices_Delete_RStep
    rw [sl3_ok (by omega), Option.bind_some, hne, cond_false, slTo_ok (by omega) (by omega), Option.bind_some, slFrom_ok (by omega) (by omega), Option.bind_some, kle_ok (by omega), Option.bind_some] at h
    rw [sl3_ok (by omega), Option.bind_some, hne, cond_false, slTo_ok (by omega) (by omega), Option.bind_some, slFrom_ok (by omega) (by omega), Option.bind_some, kle_ok (by omega), Option.bind_some]
    rw [e1, Int.toNat_natCast] at *
    exact ⟨(Option.some.inj h).symm, rfl⟩
  obtain ⟨rfl, hm⟩ := hres
  rw [hF] at hnd
  obtain ⟨hg1, hnd2⟩ := List.nodup_cons.1 hnd
  rw [← hlr] at hfl ⊢
  refine Calls.mono (c_slices_Delete_RStep N lr i j _ hm w hfl (by simp)) ?_
  rintro e w' ⟨v, rfl, hE, a1, c1, F1, rfl, hN⟩
  have hfl2 := hN.own _ (List.mem_singleton.2 rfl)
  have hge := hN.ge
  have hnd3 := hN.nd
  simp only [ff, owC, List.flatMap_cons, List.flatMap_nil, List.append_nil] at hge hnd3
  have hst : ∀ b ∈ Fs.flatten, w'.heap[b]? = w.heap[b]? := fun b hb => hE.block b (deep_lt hdeep b hb) (fun e1 => hg1 (by
    simp only [List.mem_singleton] at e1
    subst e1
    exact hb))
  have hcol := step_collapse hfl2 (deep_stb hd' fun b hb => hst b (hp.subset (List.mem_append.2 (.inl hb))))
  have hle : (lr.take k ++ lr.drop (k + 1)).length = (s.take k ++ s.drop (k + 1)).length := by rw [← h1]; simp
  have hmap : (lr.take k ++ lr.drop (k + 1)).map (·.st) = s.take k ++ s.drop (k + 1) := by rw [← h1]; simp
  rw [hmap] at hcol
  rw [hle] at hcol ⊢
  -- the element that is gone
  have hGo : strsL.ow w G [.slice ag y.after.length cg] y.after := by
    obtain ⟨cur, xs, Fs2, hb, _, _, _, _, hlen, ht, hl⟩ := own_openN hr1
    obtain ⟨cur3, hb3, _, hnc3, _, hcl3, ht3, _⟩ := own_row.1 hfl
    have hcell2 : w.cell? ⟨g, k * 3 + 1, none⟩ = some (.slice r.a r.st.after.length r.c) := by
      rw [blk_cell hb3]
      have h5 := (owL_get (owL_plain (hl := rsE_len) (h1 := rsE_one) w lr) hrk)
      obtain ⟨F2, es, _, ho2, hc2⟩ := h5
      have h6 := hc2 1 (.slice r.a r.st.after.length r.c) (by rw [ho2.2]; rfl)
      rw [← ht3] at h6
      have hlt := (List.getElem?_eq_some_iff.1 h6).1
      rw [List.length_take] at hlt
      rw [List.getElem?_take_of_lt (by omega)] at h6
      exact h6
    rw [hcell2] at hcell
    simp only [Option.some.injEq, Value.slice.injEq] at hcell
    obtain ⟨e1, _, e3⟩ := hcell
    obtain ⟨a4, c4, he, ho⟩ := stepL_ow hG
    simp only [rsE, List.cons.injEq, Value.slice.injEq, true_and, and_true] at he
    obtain ⟨e5, e6⟩ := he
    rw [← e5, ← e6, e1, e3, hry] at ho
    exact ho
  have hG2 : strsL.ow w' G [.slice ag y.after.length cg] y.after := strsL.ow_stb hGo fun b hb => hst b (hp.subset (List.mem_append.2 (.inr hb)))
  refine ⟨_, rfl, by rw [hF]; exact hE.mono (by simp), a1, c1, F1 ++ Fs'.flatten, none, 0, G, rfl, ?_, ?_, ?_⟩
  · intro c2 hc2
    simp only [List.mem_cons, List.not_mem_nil, or_false] at hc2
    rcases hc2 with rfl | rfl
    · exact hcol
    · exact hG2
  · simp only [ff, owC, List.flatMap_cons, List.flatMap_nil, List.append_nil]
    rw [List.append_assoc]
    refine List.nodup_append.2 ⟨hnd3, hp.nodup_iff.2 hnd2, ?_⟩
    intro a ha b hb e1
    subst e1
    have hb2 := hp.subset hb
    rcases hge a ha with h7 | h7
    · simp only [List.mem_singleton] at h7
      subst h7
      exact hg1 hb2
    · exact absurd (deep_lt hdeep a hb2) (by omega)
  · intro b hb
    simp only [ff, owC, List.flatMap_cons, List.flatMap_nil, List.append_nil] at hb
    rw [List.append_assoc] at hb
    rw [hF]
    rcases List.mem_append.1 hb with h7 | h7
    · rcases hge b h7 with h8 | h8
      · left
        simp only [List.mem_singleton] at h8
        subst h8
        simp
      · exact .inr h8
    · exact .inl (List.mem_cons_of_mem _ (hp.subset h7))

def m_impl_Flow_drop_f1 (N : Nat) (n_ : Str) (k0 : Str) : Option (Bool) := some (seq n_ k0)

set_option maxHeartbeats 4000000 in
theorem c_impl_Flow_drop_f1 (N : Nat) (n_ : Str) (k0 : Str) (res : Bool) (h : m_impl_Flow_drop_f1 N n_ k0 = some res) (w : World) {g_k0 : Nat} (hg_k0 : CellN w [] g_k0 0 [.string k0]) : Ret Tryz.prog 109 [.string n_, .pointer (some ⟨g_k0, 0, none⟩)] w [] fun v w' => v = .bool res := by
  unfold m_impl_Flow_drop_f1 at h
  refine ret_enter Tryz.func109 rfl Tryz.ntmps109 rfl (Hp.refl w _) ?_
  refine cw_seq ?_
  refine cw_region ?_
  refine wl_u rfl (ow_y (yh_assign rfl rfl) rfl rfl (kk_wl ?_))
  refine wl_nil ?_
  refine ex_seq ?_
  refine cw_seq ?_
  refine cw_region ?_
  refine wl_u rfl (ow_y (yh_move rfl rfl) rfl rfl (kk_wl ?_))
  refine wl_u rfl (ow_y (yh_loadA0 Tb rfl rfl rfl hg_k0 rfl) rfl rfl (kk_wl ?_))
  refine wl_u rfl (ow_y (yh_cmpS rfl rfl rfl rfl) rfl rfl (kk_wl ?_))
  refine wl_u rfl (ow_y (yh_assign rfl rfl) rfl rfl (kk_wl ?_))
  refine wl_nil ?_
  refine ex_seq ?_
  refine cw_ret ?_
  obtain rfl := Option.some.inj h
  exact ex_r1 Tb rfl (.tmp rfl) (fun wq hq => ⟨_, rfl, hq.ext, rfl⟩)

def m_slices_IndexFunc_string_L4 (N : Nat) (s_ : List Str) (f : Str → Option Bool) : Nat → Nat → Option (Ex (Nat) (Int))
  | 0, _ => none
  | n + 1, s8 => (bif ltb ((s8 : Nat) : Int) ((s_.length : Nat) : Int) then (s_[s8]?).bind fun y14 => (f y14).bind fun x16 => (bif x16 then some (Ex.ret ((s8 : Nat) : Int))
 else m_slices_IndexFunc_string_L4 N s_ f n (s8 + 1))
 else some (Ex.brk (s8)))

def m_slices_IndexFunc_string (N : Nat) (s_ : List Str) (f : Str → Option Bool) : Option (Int) := (m_slices_IndexFunc_string_L4 N s_ f N 0).bind fun e4 => e4.go (fun r => r) fun b4 => some (-1)

set_option maxHeartbeats 4000000 in
theorem c_slices_IndexFunc_string (N : Nat) (s_ : List Str) (f : Str → Option Bool) (res : Int) (h : m_slices_IndexFunc_string N s_ f = some res) (w : World) {a_s_ : Option Addr} {c_s_ : Nat} {k_f : FuncId} {caps_f : List Value} (h_s_ : strsL.rd w [] [.slice a_s_ s_.length c_s_] s_) (hb_f : hasBody Tryz.prog k_f) (hf_f : ∀ x0 b, f x0 = some b → ∀ w', ExtM [] w w' → Ret Tryz.prog k_f ([.string x0] ++ caps_f) w' [] fun v _ => v = .bool b) : Ret Tryz.prog 79 [.slice a_s_ s_.length c_s_, .func (.func k_f) #[] caps_f.toArray] w [] fun v w' => v = .int .i64 res := by
  have mh_s_ := rd_max h_s_
  unfold m_slices_IndexFunc_string at h
  refine ret_enter Tryz.func79 rfl Tryz.ntmps79 rfl (Hp.refl w _) ?_
  refine cw_seq ?_
  refine cw_region ?_
  refine wl_u rfl (ow_y (yh_assign rfl rfl) rfl rfl (kk_wl ?_))
  refine wl_nil ?_
  refine ex_seq ?_
  refine cw_seq ?_
  refine cw_seq ?_
  refine cw_region ?_
  refine wl_u rfl (ow_y (yh_move rfl rfl) rfl rfl (kk_wl ?_))
  refine wl_u rfl (ow_y (yh_lenS Tb rfl rfl rfl rfl) rfl rfl (kk_wl ?_))
  refine wl_u rfl (ow_y (yh_move rfl rfl) rfl rfl (kk_wl ?_))
  refine wl_nil ?_
  refine ex_seq ?_
  refine cw_block ?_
  obtain ⟨e4, he4, hk4⟩ := bd h
  clear h
  refine cw_loopG (σ := Nat × Nat) (fun s => m_slices_IndexFunc_string_L4 N s_ f s.1 s.2 = some e4) (fun s => [(0, .slice a_s_ s_.length c_s_), (1, .func (.func k_f) #[] caps_f.toArray), (7, .int .i64 ((s_.length : Nat) : Int)), (8, .int .i64 ((s.2 : Nat) : Int))]) (fun s => []) (fun s => s.1) (N, 0) [] he4 ⟨rfl, rfl, rfl, rfl, trivial⟩ rfl (fun KL s he4 hn4 => ?_)
  obtain ⟨n4, s8⟩ := s
  simp only at he4 hn4 ⊢
  rcases n4 with _ | n4
  · exact nosome he4
  have h := he4; rw [m_slices_IndexFunc_string_L4] at h
  refine cw_seq ?_
  refine cw_region ?_
  refine wl_u rfl (ow_y (yh_cmpI rfl rfl rfl rfl) rfl rfl (kk_wl ?_))
  refine wl_nil ?_
  refine ex_seq ?_
  refine cw_seq ?_
  refine cw_split rfl (fun cc1 => ?_) (fun cc1 => ?_)
  · skip
    replace h := bt cc1 h
    have q1 := ltb_true.1 cc1
    refine cw_skip ?_
    refine ex_seq ?_
    refine cw_seq ?_
    refine cw_block ?_
    refine cw_seq ?_
    refine cw_region ?_
    refine wl_u rfl (ow_y (yh_move rfl rfl) rfl rfl (kk_wl ?_))
    refine wl_u rfl (ow_y (yh_assign rfl rfl) rfl rfl (kk_wl ?_))
    refine wl_nil ?_
    refine ex_seq ?_
    refine cw_seq ?_
    refine cw_region ?_
    refine wl_u rfl (ow_y (yh_move rfl rfl) rfl rfl (kk_wl ?_))
    refine wl_u rfl (ow_y (yh_move rfl rfl) rfl rfl (kk_wl ?_))
    refine wl_u rfl (ow_y (yh_move rfl rfl) rfl rfl (kk_wl ?_))
    obtain ⟨y14, hy14, h⟩ := bd h
    obtain ⟨b14, o14, ha14⟩ := sl_addr h_s_ hy14
    subst ha14
    have hc14 := get_str h_s_ hy14
    refine wl_u rfl (ow_y (yh_idx Tb (k := s8) rfl rfl rfl rfl (get_lt hy14) rfl rfl) rfl rfl (kk_wl ?_))
    refine wl_u rfl (ow_y (yh_loadA0 Tb rfl rfl rfl hc14 rfl) rfl rfl (kk_wl ?_))
    obtain ⟨x16, hx16, h⟩ := bd h
    refine wl_u rfl (ow_callV rfl rfl hb_f rfl rfl (fun w hw => hf_f _ _ hx16 w hw.ext) rfl rfl (kk_wl ?_))
    refine wl_nil ?_
    refine ex_seq ?_
    refine cw_split rfl (fun cc2 => ?_) (fun cc2 => ?_)
    · skip
      replace h := bt cc2 h
      refine cw_seq ?_
      refine cw_region ?_
      refine wl_u rfl (ow_y (yh_move rfl rfl) rfl rfl (kk_wl ?_))
      refine wl_u rfl (ow_y (yh_assign rfl rfl) rfl rfl (kk_wl ?_))
      refine wl_nil ?_
      refine ex_seq ?_
      refine cw_ret ?_
      refine ex_block_ret ?_
      refine ex_then_ret ?_
      refine ex_then_ret ?_
      refine ex_block_ret ?_
      refine ex_then_ret ?_
      obtain rfl := Option.some.inj h
      obtain rfl := go_ret hk4
      exact ex_r1 Tb rfl (.tmp rfl) (fun wq hq => ⟨_, rfl, hq.ext, rfl⟩)
    · skip
      replace h := bf cc2 h
      refine cw_skip ?_
      refine ex_block_normal ?_
      refine ex_seq ?_
      refine cw_region ?_
      refine wl_u rfl (ow_y (yh_arI rfl rfl rfl rfl (by omega)) rfl rfl (kk_wl ?_))
      refine wl_u rfl (ow_y (yh_move rfl rfl) rfl rfl (kk_wl ?_))
      refine wl_nil ?_
      exact ex_next [] (hn4 (n4, s8 + 1) (Nat.lt_succ_self _) h) ⟨rfl, rfl, rfl, rfl, trivial⟩ (by kernel_rfl)
  · skip
    replace h := bf cc1 h
    have q2 := ltb_false.1 cc1
    refine cw_exit ?_
    refine ex_then_exit ?_
    refine ex_then_exit ?_
    obtain rfl := Option.some.inj h
    have h := go_brk hk4
    refine ex_block_exit ?_
    refine ex_seq ?_
    refine cw_seq ?_
    refine cw_region ?_
    refine wl_u rfl (ow_y (yh_assign rfl rfl) rfl rfl (kk_wl ?_))
    refine wl_nil ?_
    refine ex_seq ?_
    refine cw_ret ?_
    obtain rfl := Option.some.inj h
    exact ex_r1 Tb rfl (.tmp rfl) (fun wq hq => ⟨_, rfl, hq.ext, rfl⟩)

def m_slices_DeleteFunc_string_L8 (N : Nat) (s_ : List Str) (del : Str → Option Bool) : Nat → (List Str) → Int → Int → Option (Ex (List Str × Int × Int) (List Str))
  | 0, _, _, _ => none
  | n + 1, s0, s5, s6 => (bif ltb s6 ((s_.length : Nat) : Int) then (geti s0 s6).bind fun y24 => (del y24).bind fun x28 => (bif !x28 then (geti s0 s5).bind fun y33 => m_slices_DeleteFunc_string_L8 N s_ del n (s0.set s5.toNat y24) (w64 (s5 + 1)) (w64 (s6 + 1))
 else m_slices_DeleteFunc_string_L8 N s_ del n s0 s5 (w64 (s6 + 1)))
 else some (Ex.brk (s0, s5, s6)))

def m_slices_DeleteFunc_string (N : Nat) (s_ : List Str) (del : Str → Option Bool) : Option (List Str) := (m_slices_IndexFunc_string N s_ del).bind fun x10 => (bif eqb x10 (-1) then some s_
 else (m_slices_DeleteFunc_string_L8 N s_ del N s_ x10 (w64 (x10 + 1))).bind fun e8 => e8.go (fun r => r) fun b8 => (slFrom b8.1 b8.2.1).bind fun l38 => (slTo (b8.1.take (b8.2.1).toNat ++ List.replicate l38.length ((⟨#[]⟩ : Str) : Str)) b8.2.1).bind fun l41 => some l41)

set_option maxHeartbeats 4000000 in
theorem c_slices_DeleteFunc_string (N : Nat) (s_ : List Str) (del : Str → Option Bool) (res : List Str) (h : m_slices_DeleteFunc_string N s_ del = some res) (w : World) {a_s_ : Option Addr} {c_s_ : Nat} {F_s_ : List Nat} {k_del : FuncId} {caps_del : List Value} (hr : (owC strsL F_s_ [.slice a_s_ s_.length c_s_] s_).A w) (hnd : F_s_.Nodup) (hb_del : hasBody Tryz.prog k_del) (hf_del : ∀ x0 b, del x0 = some b → ∀ w', ExtM F_s_ w w' → Ret Tryz.prog k_del ([.string x0] ++ caps_del) w' [] fun v _ => v = .bool b) : Ret Tryz.prog 108 [.slice a_s_ s_.length c_s_, .func (.func k_del) #[] caps_del.toArray] w F_s_ fun v w' => ∃ a1 c1 F1, v = .slice a1 res.length c1 ∧ NewM w w' F_s_ [owC strsL F1 [.slice a1 res.length c1] res] := by
  unfold m_slices_DeleteFunc_string at h
  refine ret_enter Tryz.func108 rfl Tryz.ntmps108 rfl (hp_one hr hnd) ?_
  refine cw_seq ?_
  refine cw_region ?_
  refine wl_u rfl (ow_y (yh_assign rfl rfl) rfl rfl (kk_wl ?_))
  refine wl_nil ?_
  refine ex_seq ?_
  refine cw_seq ?_
  refine cw_region ?_
  refine wl_u rfl (ow_y (yh_move rfl rfl) rfl rfl (kk_wl ?_))
  refine wl_u rfl (ow_y (yh_move rfl rfl) rfl rfl (kk_wl ?_))
  obtain ⟨x10, hx10, h⟩ := bd h
  refine wl_u rfl (ow_cV rfl hb79 rfl (fun w hw => c_slices_IndexFunc_string N _ _ _ hx10 w (rdo (A := strsL) 0 rfl hw) hb_del (fun x b hb w' hE => hf_del x b hb w' (hw.ext.trans0 hE))) rfl rfl (kk_wl ?_))
  refine wl_u rfl (ow_y (yh_assign rfl rfl) rfl rfl (kk_wl ?_))
  refine wl_nil ?_
  refine ex_seq ?_
  refine cw_seq ?_
  refine cw_seq ?_
  refine cw_region ?_
  refine wl_u rfl (ow_y (yh_move rfl rfl) rfl rfl (kk_wl ?_))
  refine wl_u rfl (ow_y (yh_cmpI rfl rfl rfl rfl) rfl rfl (kk_wl ?_))
  refine wl_nil ?_
  refine ex_seq ?_
  refine cw_split rfl (fun cc1 => ?_) (fun cc1 => ?_)
  · skip
    replace h := bt cc1 h
    have q1 := eqb_true.1 cc1
    refine cw_seq ?_
    refine cw_region ?_
    refine wl_u rfl (ow_y (yh_move rfl rfl) rfl rfl (kk_wl ?_))
    refine wl_u rfl (ow_y (yh_assign rfl rfl) rfl rfl (kk_wl ?_))
    refine wl_nil ?_
    refine ex_seq ?_
    refine cw_ret ?_
    refine ex_then_ret ?_
    obtain rfl := Option.some.inj h
    exact ex_r1 Tb rfl (.tmp rfl) (fun wq hq => ⟨_, rfl, hq.ext, ⟨a_s_, c_s_, F_s_, rfl, NewM.sel [0] hq rfl⟩⟩)
  · skip
    replace h := bf cc1 h
    have q2 := eqb_false.1 cc1
    refine cw_skip ?_
    refine ex_seq ?_
    refine cw_seq ?_
    refine cw_seq ?_
    refine cw_region ?_
    refine wl_u rfl (ow_y (yh_move rfl rfl) rfl rfl (kk_wl ?_))
    refine wl_u rfl (ow_y (yh_arW rfl rfl rfl rfl) rfl rfl (kk_wl ?_))
    refine wl_u rfl (ow_y (yh_assign rfl rfl) rfl rfl (kk_wl ?_))
    refine wl_nil ?_
    refine ex_seq ?_
    refine cw_block ?_
    obtain ⟨e8, he8, hk8⟩ := bd h
    clear h
    refine cw_loopG (σ := Nat × (List Str) × Int × Int × (List Nat)) (fun s => m_slices_DeleteFunc_string_L8 N s_ del s.1 s.2.1 s.2.2.1 s.2.2.2.1 = some e8) (fun s => [(0, .slice a_s_ s_.length c_s_), (1, .func (.func k_del) #[] caps_del.toArray), (5, .int .i64 s.2.2.1), (6, .int .i64 s.2.2.2.1)]) (fun s => [owC strsL s.2.2.2.2 [.slice a_s_ s_.length c_s_] s.2.1]) (fun s => s.1) (N, s_, x10, w64 (x10 + 1), F_s_) [0] he8 ⟨rfl, rfl, rfl, rfl, trivial⟩ rfl (fun KL s he8 hn8 => ?_)
    obtain ⟨n8, s0, s5, s6, Fs0⟩ := s
    simp only at he8 hn8 ⊢
    rcases n8 with _ | n8
    · exact nosome he8
    have h := he8; rw [m_slices_DeleteFunc_string_L8] at h
    refine cw_seq ?_
    refine cw_seq ?_
    refine cw_region ?_
    refine wl_u rfl (ow_y (yh_move rfl rfl) rfl rfl (kk_wl ?_))
    refine wl_u rfl (ow_y (yh_move rfl rfl) rfl rfl (kk_wl ?_))
    refine wl_know (s_.length ≤ 9223372036854775807) (fun w hw => own_max 0 rfl hw) (fun mo18 => ?_)
    refine wl_u rfl (ow_y (yh_lenS Tb rfl rfl rfl rfl) rfl rfl (kk_wl ?_))
    refine wl_u rfl (ow_y (yh_cmpI rfl rfl rfl rfl) rfl rfl (kk_wl ?_))
    refine wl_nil ?_
    refine ex_seq ?_
    refine cw_split rfl (fun cc2 => ?_) (fun cc2 => ?_)
    · skip
      replace h := bt cc2 h
      have q3 := ltb_true.1 cc2
      refine cw_skip ?_
      refine ex_seq ?_
      refine cw_seq ?_
      refine cw_block ?_
      refine cw_seq ?_
      refine cw_region ?_
      refine wl_u rfl (ow_y (yh_move rfl rfl) rfl rfl (kk_wl ?_))
      refine wl_u rfl (ow_y (yh_move rfl rfl) rfl rfl (kk_wl ?_))
      obtain ⟨y24, zy24, h⟩ := bd h
      obtain ⟨iy24, hy24⟩ := geti_some zy24
      refine wl_ex (fun g => a_s_ = some ⟨g, 0, none⟩) (fun w hw => by exact own_addrK 0 rfl hy24 hw) (fun g24 hg24 => ?_)
      subst hg24
      refine wl_know (s_.length = s0.length) (fun w hw => own_lenK 0 rfl hw) (fun hn24 => ?_)
      refine wl_u rfl (ow_y (yh_idx Tb (k := s6.toNat) rfl rfl rfl iy24 (Nat.lt_of_lt_of_eq (get_lt hy24) hn24.symm) rfl rfl) rfl rfl (kk_wl ?_))
      refine wl_u rfl (ow_y (yh_loadO0 Tb 0 rfl rfl rfl rfl rfl hy24 rfl) rfl rfl (kk_wl ?_))
      refine wl_u rfl (ow_y (yh_assign rfl rfl) rfl rfl (kk_wl ?_))
      refine wl_nil ?_
      refine ex_seq ?_
      refine cw_seq ?_
      refine cw_region ?_
      refine wl_u rfl (ow_y (yh_move rfl rfl) rfl rfl (kk_wl ?_))
      refine wl_u rfl (ow_y (yh_move rfl rfl) rfl rfl (kk_wl ?_))
      obtain ⟨x28, hx28, h⟩ := bd h
      refine wl_u rfl (ow_callV rfl rfl hb_del rfl rfl (fun w hw => hf_del _ _ hx28 w hw.ext) rfl rfl (kk_wl ?_))
      refine wl_u rfl (ow_y (yh_not rfl rfl) rfl rfl (kk_wl ?_))
      refine wl_nil ?_
      refine ex_seq ?_
      refine cw_split rfl (fun cc3 => ?_) (fun cc3 => ?_)
      · skip
        replace h := bt cc3 h
        refine cw_seq ?_
        refine cw_region ?_
        refine wl_u rfl (ow_y (yh_move rfl rfl) rfl rfl (kk_wl ?_))
        refine wl_u rfl (ow_y (yh_move rfl rfl) rfl rfl (kk_wl ?_))
        refine wl_u rfl (ow_y (yh_move rfl rfl) rfl rfl (kk_wl ?_))
        obtain ⟨y33, zy33, h⟩ := bd h
        obtain ⟨iy33, hy33⟩ := geti_some zy33
        refine wl_know (s_.length = s0.length) (fun w hw => own_lenK 0 rfl hw) (fun hn33 => ?_)
        refine wl_u rfl (ow_y (yh_idx Tb (k := s5.toNat) rfl rfl rfl iy33 (Nat.lt_of_lt_of_eq (get_lt hy33) hn33.symm) rfl rfl) rfl rfl (kk_wl ?_))
        refine wl_u rfl (ow_setP Tb (u := y24) 0 rfl rfl rfl rfl rfl (get_lt hy33) rfl rfl (fun Fs14 => kk_wl ?_))
        refine wl_nil ?_
        refine ex_seq ?_
        refine cw_region ?_
        refine wl_u rfl (ow_y (yh_move rfl rfl) rfl rfl (kk_wl ?_))
        refine wl_u rfl (ow_y (yh_arW rfl rfl rfl rfl) rfl rfl (kk_wl ?_))
        refine wl_u rfl (ow_y (yh_assign rfl rfl) rfl rfl (kk_wl ?_))
        refine wl_nil ?_
        refine ex_block_normal ?_
        refine ex_seq ?_
        refine cw_region ?_
        refine wl_u rfl (ow_y (yh_move rfl rfl) rfl rfl (kk_wl ?_))
        refine wl_u rfl (ow_y (yh_arW rfl rfl rfl rfl) rfl rfl (kk_wl ?_))
        refine wl_u rfl (ow_y (yh_assign rfl rfl) rfl rfl (kk_wl ?_))
        refine wl_nil ?_
        exact ex_next [0] (hn8 (n8, (s0.set s5.toNat y24), w64 (s5 + 1), w64 (s6 + 1), Fs14) (Nat.lt_succ_self _) h) ⟨rfl, rfl, rfl, rfl, trivial⟩ (by kernel_rfl)
      · skip
        replace h := bf cc3 h
        refine cw_skip ?_
        refine ex_block_normal ?_
        refine ex_seq ?_
        refine cw_region ?_
        refine wl_u rfl (ow_y (yh_move rfl rfl) rfl rfl (kk_wl ?_))
        refine wl_u rfl (ow_y (yh_arW rfl rfl rfl rfl) rfl rfl (kk_wl ?_))
        refine wl_u rfl (ow_y (yh_assign rfl rfl) rfl rfl (kk_wl ?_))
        refine wl_nil ?_
        exact ex_next [0] (hn8 (n8, s0, s5, w64 (s6 + 1), Fs0) (Nat.lt_succ_self _) h) ⟨rfl, rfl, rfl, rfl, trivial⟩ (by kernel_rfl)
    · skip
      replace h := bf cc2 h
      have q4 := ltb_false.1 cc2
      refine cw_exit ?_
      refine ex_then_exit ?_
      refine ex_then_exit ?_
      obtain rfl := Option.some.inj h
      have h := go_brk hk8
      refine ex_block_exit ?_
      refine ex_seq ?_
      refine cw_seq ?_
      refine cw_region ?_
      refine wl_u rfl (ow_y (yh_move rfl rfl) rfl rfl (kk_wl ?_))
      refine wl_u rfl (ow_y (yh_move rfl rfl) rfl rfl (kk_wl ?_))
      obtain ⟨l38, zl38, h⟩ := bd h
      refine wl_know (s_.length = s0.length) (fun w hw => own_lenK 0 rfl hw) (fun hn38 => ?_)
      obtain ⟨a38, e38, va38, ve38, il38⟩ := sl_dropV a_s_ c_s_ 1 zl38
      refine wl_u rfl (ow_y (yh_sliceLN Tb hn38 zl38 va38 ve38 rfl rfl rfl rfl rfl) rfl rfl (kk_wl ?_))
      refine wl_u rfl (ow_clear Tb ((⟨#[]⟩ : Str) : Str) 0 zl38 va38 ve38 rfl rfl rfl rfl rfl rfl rfl rfl (kk_wl ?_))
      refine wl_nil ?_
      refine ex_seq ?_
      refine cw_seq ?_
      refine cw_region ?_
      refine wl_u rfl (ow_y (yh_move rfl rfl) rfl rfl (kk_wl ?_))
      refine wl_u rfl (ow_y (yh_move rfl rfl) rfl rfl (kk_wl ?_))
      obtain ⟨l41, zl41, h⟩ := bd h
      obtain ⟨il41, jl41⟩ := slTo_K zl41
      refine wl_know ((s0.take (s5).toNat ++ List.replicate l38.length ((⟨#[]⟩ : Str) : Str)).length ≤ c_s_) (fun w hw => own_capK 0 rfl hw) (fun hcp41 => ?_)
      refine wl_u rfl (ow_chg (c' := owC strsL Fs0 [.slice a_s_ l41.length c_s_] l41) 0 rfl (fun w hA => own_cut zl41 hA) rfl (ow_y (yh_sliceH Tb (k := l41.length) rfl rfl rfl il41 (Nat.le_trans jl41 hcp41) rfl rfl) rfl rfl (kk_wl ?_)))
      refine wl_u rfl (ow_y (yh_assign rfl rfl) rfl rfl (kk_wl ?_))
      refine wl_nil ?_
      refine ex_seq ?_
      refine cw_ret ?_
      obtain rfl := Option.some.inj h
      exact ex_r1 Tb rfl (.tmp rfl) (fun wq hq => ⟨_, rfl, hq.ext, ⟨a_s_, c_s_, Fs0, rfl, NewM.sel [0] hq rfl⟩⟩)

def m_impl_Flow_drop_L9 (N : Nat) (u1 : Str) (y19 : Step) (x29 : List Step) : Nat → (List Step) → Nat → Option (Ex (List Step × Nat) (List Step))
  | 0, _, _ => none
  | n + 1, s0_c_1, s37 => (bif ltb ((s37 : Nat) : Int) ((x29.length : Nat) : Int) then (s0_c_1[s37]?).bind fun y40 => (m_slices_Contains_string N y40.after u1).bind fun x45 => (bif !x45 then m_impl_Flow_drop_L9 N u1 y19 x29 n s0_c_1 (s37 + 1)
 else ((m_impl_cloneNames N y40.after).bind fun x49 => (m_slices_DeleteFunc_string N x49 (fun x0 => m_impl_Flow_drop_f1 N x0 u1)).bind fun x51 => (appd x51 y19.after).bind fun l54 => some (x51 ++ y19.after) : Option ((List Str))).bind fun j116 => (m_slices_Sort_string N j116).bind fun x56 => (m_slices_Compact_string N x56.2).bind fun x63 => m_impl_Flow_drop_L9 N u1 y19 x29 n (s0_c_1.set s37 (Step.mk y40.name x63 y40.undo)) (s37 + 1))
 else some (Ex.brk (s0_c_1, s37)))

def m_impl_Flow_drop (N : Nat) (u0 : Flow) (u1 : Str) : Option (List Step) := ((m_impl_Flow_at N u0 u1).bind fun x13 => some x13 : Option (Int)).bind fun j102 => (geti u0.steps j102).bind fun y19 => (m_slices_Delete_Step N u0.steps j102 (w64 (j102 + 1))).bind fun x29 => (m_impl_Flow_drop_L9 N u1 y19 x29 N x29 0).bind fun e9 => e9.go (fun r => r) fun b9 => some b9.1

set_option maxHeartbeats 4000000 in
theorem c_impl_Flow_drop (N : Nat) (u0 : Flow) (u1 : Str) (res : List Step) (h : m_impl_Flow_drop N u0 u1 = some res) (w : World) {a_u0 : Option Addr} {c_u0 g_u0 : Nat} {F_u0 : List Nat} (hr : (blkC g_u0 25 [.int .i64 u0.ver, .slice a_u0 u0.steps.length c_u0]).A w) (hr2 : (owC stepsL F_u0 [.slice a_u0 u0.steps.length c_u0] u0.steps).A w) (hnd : (g_u0 :: F_u0).Nodup) : Ret Tryz.prog 75 [.pointer (some ⟨g_u0, 0, none⟩), .string u1] w (g_u0 :: F_u0) fun v w' => ∃ a1 c1 F1, v = .tuple #[] ∧ NewM w w' (g_u0 :: F_u0) [blkC g_u0 25 [.int .i64 u0.ver, .slice a1 res.length c1], owC stepsL F1 [.slice a1 res.length c1] res] := by
  unfold m_impl_Flow_drop at h
  refine ret_enter Tryz.func75 rfl Tryz.ntmps75 rfl (hp_pair hr hr2 hnd) ?_
  refine cw_seq ?_
  refine cw_region ?_
  refine wl_u rfl (ow_box1 rfl rfl rfl rfl rfl (fun g3 => kk_wl ?_))
  refine wl_nil ?_
  refine ex_seq ?_
  obtain ⟨j102, he102, hk102⟩ := bd h
  clear h
  refine cw_cut (σ := Unit) (fun s => True) (fun s => [(0, .pointer (some ⟨g_u0, 0, none⟩)), (3, .pointer (some ⟨g3, 0, none⟩)), (4, .int .i64 j102)]) (fun s => [blkC g_u0 25 [.int .i64 u0.ver, .slice a_u0 u0.steps.length c_u0], owC stepsL F_u0 [.slice a_u0 u0.steps.length c_u0] u0.steps, blkC g3 9 [.string u1]]) (fun s hI => ?_) (fun KL hn102 => ?_)
  · skip
    have h := hk102
    refine cw_seq ?_
    refine cw_region ?_
    refine wl_u rfl (ow_y (yh_move rfl rfl) rfl rfl (kk_wl ?_))
    refine wl_u rfl (ow_y (yh_nilCheck rfl rfl) rfl rfl (kk_wl ?_))
    refine wl_u rfl (ow_y (yh_field Tb rfl rfl rfl) rfl rfl (kk_wl ?_))
    refine wl_u rfl (ow_y (yh_loadB Tb (k := 0) rfl rfl rfl rfl rfl) rfl rfl (kk_wl ?_))
    refine wl_u rfl (ow_y (yh_move rfl rfl) rfl rfl (kk_wl ?_))
    obtain ⟨y19, zy19, h⟩ := bd h
    obtain ⟨iy19, hy19⟩ := geti_some zy19
    refine wl_ex (fun g => a_u0 = some ⟨g, 0, none⟩) (fun w hw => by exact own_addrK 1 rfl hy19 hw) (fun g19 hg19 => ?_)
    subst hg19
    refine wl_u rfl (ow_y (yh_idx Tb (k := j102.toNat) rfl rfl rfl iy19 (get_lt hy19) rfl rfl) rfl rfl (kk_wl ?_))
    refine wl_u rfl (ow_loadK Tb 1 rfl rfl rfl rfl rfl hy19 rfl rfl (fun a20 c20 => kk_wl ?_))
    refine wl_u rfl (ow_allocA Tb rfl rfl rfl rfl (fun g5 => kk_wl ?_))
    refine wl_u rfl (ow_storeA Tb (k := 0) rfl rfl rfl rfl rfl rfl rfl rfl rfl (kk_wl ?_))
    refine wl_nil ?_
    refine ex_seq ?_
    refine cw_seq ?_
    refine cw_region ?_
    refine wl_u rfl (ow_y (yh_move rfl rfl) rfl rfl (kk_wl ?_))
    refine wl_u rfl (ow_y (yh_move rfl rfl) rfl rfl (kk_wl ?_))
    refine wl_u rfl (ow_y (yh_nilCheck rfl rfl) rfl rfl (kk_wl ?_))
    refine wl_u rfl (ow_y (yh_field Tb rfl rfl rfl) rfl rfl (kk_wl ?_))
    refine wl_u rfl (ow_y (yh_loadB Tb (k := 2) rfl rfl rfl rfl rfl) rfl rfl (kk_wl ?_))
    refine wl_u rfl (ow_y (yh_move rfl rfl) rfl rfl (kk_wl ?_))
    refine wl_u rfl (ow_y (yh_move rfl rfl) rfl rfl (kk_wl ?_))
    refine wl_u rfl (ow_y (yh_arW rfl rfl rfl rfl) rfl rfl (kk_wl ?_))
    obtain ⟨x29, hx29, h⟩ := bd h
    refine wl_u rfl (ow_cM2 1 rfl hb107 rfl rfl (fun w hw => c_slices_Delete_know N _ _ _ _ hx29 w (hw.at (i := 1) rfl) (hw.ndAt (i := 1) rfl) hy19 iy19 rfl rfl) rfl rfl (fun a29 c29 F29 a29_2 c29_2 F29_2 => kk_wl ?_))
    refine wl_u rfl (ow_y (yh_nilCheck rfl rfl) rfl rfl (kk_wl ?_))
    refine wl_u rfl (ow_y (yh_field Tb rfl rfl rfl) rfl rfl (kk_wl ?_))
    refine wl_u rfl (ow_store1 Tb (k := 3) rfl rfl rfl rfl rfl rfl rfl rfl rfl (kk_wl ?_))
    refine wl_nil ?_
    refine ex_seq ?_
    refine cw_seq ?_
    refine cw_region ?_
    refine wl_u rfl (ow_y (yh_move rfl rfl) rfl rfl (kk_wl ?_))
    refine wl_u rfl (ow_y (yh_nilCheck rfl rfl) rfl rfl (kk_wl ?_))
    refine wl_u rfl (ow_y (yh_field Tb rfl rfl rfl) rfl rfl (kk_wl ?_))
    refine wl_u rfl (ow_y (yh_loadB Tb (k := 0) rfl rfl rfl rfl rfl) rfl rfl (kk_wl ?_))
    refine wl_know (x29.length ≤ 9223372036854775807) (fun w hw => own_max 1 rfl hw) (fun mo36 => ?_)
    refine wl_u rfl (ow_y (yh_lenS Tb rfl rfl rfl rfl) rfl rfl (kk_wl ?_))
    refine wl_u rfl (ow_y (yh_move rfl rfl) rfl rfl (kk_wl ?_))
    refine wl_nil ?_
    refine ex_seq ?_
    refine cw_block ?_
    obtain ⟨e9, he9, hk9⟩ := bd h
    clear h
    refine cw_loopG (σ := Nat × (List Step) × Nat × (List Nat)) (fun s => m_impl_Flow_drop_L9 N u1 y19 x29 s.1 s.2.1 s.2.2.1 = some e9) (fun s => [(0, .pointer (some ⟨g_u0, 0, none⟩)), (3, .pointer (some ⟨g3, 0, none⟩)), (5, .pointer (some ⟨g5, 0, none⟩)), (35, .slice a29 x29.length c29), (36, .int .i64 ((x29.length : Nat) : Int)), (37, .int .i64 ((s.2.2.1 : Nat) : Int))]) (fun s => [blkC g_u0 25 [.int .i64 u0.ver, .slice a29 x29.length c29], owC stepsL s.2.2.2 [.slice a29 x29.length c29] s.2.1, blkC g3 9 [.string u1], blkC g5 49 [.string y19.name, .slice a20 y19.after.length c20, .bool y19.undo], owC strsL F29_2 [.slice a20 y19.after.length c20] y19.after]) (fun s => s.1) (N, x29, 0, F29) [0, 1, 4, 3, 2] he9 ⟨rfl, rfl, rfl, rfl, rfl, rfl, trivial⟩ rfl (fun KL s he9 hn9 => ?_)
    obtain ⟨n9, s0_c_1, s37, Fs0_c_1⟩ := s
    simp only at he9 hn9 ⊢
    rcases n9 with _ | n9
    · exact nosome he9
    have h := he9; rw [m_impl_Flow_drop_L9] at h
    refine cw_seq ?_
    refine cw_region ?_
    refine wl_u rfl (ow_y (yh_cmpI rfl rfl rfl rfl) rfl rfl (kk_wl ?_))
    refine wl_nil ?_
    refine ex_seq ?_
    refine cw_seq ?_
    refine cw_split rfl (fun cc1 => ?_) (fun cc1 => ?_)
    · skip
      replace h := bt cc1 h
      have q1 := ltb_true.1 cc1
      refine cw_skip ?_
      refine ex_seq ?_
      refine cw_seq ?_
      refine cw_block ?_
      refine cw_seq ?_
      refine cw_region ?_
      refine wl_u rfl (ow_y (yh_move rfl rfl) rfl rfl (kk_wl ?_))
      obtain ⟨y40, hy40, h⟩ := bd h
      refine wl_ex (fun g => a29 = some ⟨g, 0, none⟩) (fun w hw => by exact own_addrK 1 rfl hy40 hw) (fun g40 hg40 => ?_)
      subst hg40
      refine wl_know (x29.length = s0_c_1.length) (fun w hw => own_lenK 1 rfl hw) (fun hn40 => ?_)
      refine wl_u rfl (ow_y (yh_idx Tb (k := s37) rfl rfl rfl rfl (Nat.lt_of_lt_of_eq (get_lt hy40) hn40.symm) rfl rfl) rfl rfl (kk_wl ?_))
      refine wl_u rfl (ow_loadK Tb 1 rfl rfl rfl rfl rfl hy40 rfl rfl (fun a41 c41 => kk_wl ?_))
      refine wl_u rfl (ow_allocA Tb rfl rfl rfl rfl (fun g7 => kk_wl ?_))
      refine wl_u rfl (ow_y (yh_assign rfl rfl) rfl rfl (kk_wl ?_))
      refine wl_u rfl (ow_storeA Tb (k := 0) rfl rfl rfl rfl rfl rfl rfl rfl rfl (kk_wl ?_))
      refine wl_nil ?_
      refine ex_seq ?_
      refine cw_seq ?_
      refine cw_seq ?_
      refine cw_region ?_
      refine wl_u rfl (ow_y (yh_field Tb rfl rfl rfl) rfl rfl (kk_wl ?_))
      refine wl_u rfl (ow_y (yh_loadB Tb (k := 0) rfl rfl rfl rfl rfl) rfl rfl (kk_wl ?_))
      refine wl_u rfl (ow_y (yh_loadB Tb (k := 3) rfl rfl rfl rfl rfl) rfl rfl (kk_wl ?_))
      obtain ⟨x45, hx45, h⟩ := bd h
      refine wl_u rfl (ow_cV rfl hb98 rfl (fun w hw => c_slices_Contains_string N _ _ _ hx45 w (rdk 1 rfl hy40 hw)) rfl rfl (kk_wl ?_))
      refine wl_u rfl (ow_y (yh_not rfl rfl) rfl rfl (kk_wl ?_))
      refine wl_nil ?_
      refine ex_seq ?_
      refine cw_split rfl (fun cc2 => ?_) (fun cc2 => ?_)
      · skip
        replace h := bt cc2 h
        refine cw_exit ?_
        refine ex_then_exit ?_
        refine ex_block_exit ?_
        refine ex_seq ?_
        refine cw_region ?_
        refine wl_u rfl (ow_y (yh_arI rfl rfl rfl rfl (by omega)) rfl rfl (kk_wl ?_))
        refine wl_u rfl (ow_y (yh_move rfl rfl) rfl rfl (kk_wl ?_))
        refine wl_nil ?_
        refine ex_chg 1 (c' := owC stepsL Fs0_c_1 [.slice (some ⟨g40, 0, none⟩) x29.length c29] s0_c_1) rfl (fun w hA => hA.1) rfl ?_
        exact ex_next [2, 0, 3, 4, 5] (hn9 (n9, s0_c_1, s37 + 1, Fs0_c_1) (Nat.lt_succ_self _) h) ⟨rfl, rfl, rfl, rfl, rfl, rfl, trivial⟩ (by kernel_rfl)
      · skip
        replace h := bf cc2 h
        refine cw_skip ?_
        refine ex_seq ?_
        obtain ⟨j116, he116, hk116⟩ := bd h
        clear h
        refine cw_cut (σ := (Option Addr) × Nat × (List Nat)) (fun s => True) (fun s => [(0, .pointer (some ⟨g_u0, 0, none⟩)), (3, .pointer (some ⟨g3, 0, none⟩)), (5, .pointer (some ⟨g5, 0, none⟩)), (6, .int .i64 ((s37 : Nat) : Int)), (8, .slice s.1 j116.length s.2.1), (35, .slice (some ⟨g40, 0, none⟩) x29.length c29), (36, .int .i64 ((x29.length : Nat) : Int)), (37, .int .i64 ((s37 : Nat) : Int))]) (fun s => [blkC g_u0 25 [.int .i64 u0.ver, .slice (some ⟨g40, 0, none⟩) x29.length c29], knowC Fs0_c_1 g40 x29.length c29 s0_c_1 s37 (.slice a41 y40.after.length c41), blkC g3 9 [.string u1], blkC g5 49 [.string y19.name, .slice a20 y19.after.length c20, .bool y19.undo], owC strsL F29_2 [.slice a20 y19.after.length c20] y19.after, owC strsL s.2.2 [.slice s.1 j116.length s.2.1] j116]) (fun s hI => ?_) (fun KL hn116 => ?_)
        · skip
          obtain ⟨ak116_8, ck116_8, Fk116_8⟩ := s
          simp only at ⊢
          have h := hk116
          refine cw_seq ?_
          refine cw_region ?_
          refine wl_u rfl (ow_y (yh_move rfl rfl) rfl rfl (kk_wl ?_))
          obtain ⟨x56, hx56, h⟩ := bd h
          refine wl_u rfl (ow_cF1 5 rfl hb110 rfl rfl (fun w hw => c_slices_Sort_string N _ _ hx56 w (hw.at (i := 5) rfl) (hw.ndAt (i := 5) rfl)) rfl rfl (fun F56 => kk_wl ?_))
          refine wl_nil ?_
          refine ex_seq ?_
          refine cw_chg 2 (k' := owC stepsL Fs0_c_1 [.slice (some ⟨g40, 0, none⟩) x29.length c29] s0_c_1) rfl (fun w hA => hA.1) rfl ?_
          refine cw_dr [0, 1, 2, 3, 4, 5, 7, 8] [9] [owC stepsL Fs0_c_1 [.slice (some ⟨g40, 0, none⟩) x29.length c29] s0_c_1, blkC g_u0 25 [.int .i64 u0.ver, .slice (some ⟨g40, 0, none⟩) x29.length c29], blkC g3 9 [.string u1], blkC g5 49 [.string y19.name, .slice a20 y19.after.length c20, .bool y19.undo], owC strsL F29_2 [.slice a20 y19.after.length c20] y19.after] (by kernel_rfl) ?_
          refine wd_take (i := 0) [0, 2, 3, 4, 5] rfl rfl rfl rfl rfl (by kernel_rfl) (by kernel_rfl) (fun _ _ _ _ h => h) (yh_move rfl rfl) ?_
          refine wd_take (i := 1) [0, 2, 3, 4, 5] rfl rfl rfl rfl rfl (by kernel_rfl) (by kernel_rfl) (fun _ _ _ _ h => h) (yh_nilCheck rfl rfl) ?_
          refine wd_take (i := 2) [0, 2, 3, 4, 5] rfl rfl rfl rfl rfl (by kernel_rfl) (by kernel_rfl) (fun _ _ _ _ h => h) (yh_field Tb rfl rfl rfl) ?_
          refine wd_take (i := 3) [0, 2, 3, 4, 5] rfl rfl rfl rfl rfl (by kernel_rfl) (by kernel_rfl) (fun _ _ _ _ h => h) (yh_loadB Tb (k := 1) rfl rfl rfl rfl rfl) ?_
          refine wd_take (i := 4) [0, 2, 3, 4, 5] rfl rfl rfl rfl rfl (by kernel_rfl) (by kernel_rfl) (fun _ _ _ _ h => h) (yh_move rfl rfl) ?_
          refine wd_take (i := 5) [0, 2, 3, 4, 5] rfl rfl rfl rfl rfl (by kernel_rfl) (by kernel_rfl) (fun _ _ _ _ h => h) (yh_move rfl rfl) ?_
          refine wd_know (j116.length = x56.2.length) (fun w hw => own_lenK 1 rfl hw) (fun hr11_ => ?_)
          rw [hr11_]
          obtain ⟨x63, hx63, h⟩ := bd h
          refine wd_one 6 rfl rfl (by kernel_rfl) (ow_cM1 1 rfl hb111 rfl rfl (fun w hw => c_slices_Compact_string N _ _ hx63 w (hw.at (i := 1) rfl) (hw.ndAt (i := 1) rfl)) rfl rfl (fun a63 c63 F63 => kk_wd [1, 2, 3, 4, 5] (by kernel_rfl) ?_))
          refine wd_know (x29.length = s0_c_1.length) (fun w hw => own_lenK 1 rfl hw) (fun hn64 => ?_)
          refine wd_take (i := 7) [1, 2, 3, 4, 5] rfl rfl rfl rfl rfl (by kernel_rfl) (by kernel_rfl) (fun _ _ _ _ h => h) (yh_idx Tb (k := s37) rfl rfl rfl rfl (Nat.lt_of_lt_of_eq (get_lt hy40) hn64.symm) rfl rfl) ?_
          refine wd_take (i := 8) [1, 2, 3, 4, 5] rfl rfl rfl rfl rfl (by kernel_rfl) (by kernel_rfl) (fun _ _ _ _ h => h) (yh_field Tb rfl rfl rfl) ?_
          refine wd_one 9 rfl rfl (by kernel_rfl) (ow_setFS Tb 1 0 1 (Step.mk y40.name x63 y40.undo) (fun w F cs h hG => by obtain ⟨a, c, rfl, h2⟩ := stepL_ow h; exact stepL_mk (Step.mk y40.name x63 y40.undo) hG) rfl rfl rfl rfl rfl rfl rfl rfl hy40 rfl (fun Fs77 => kk_wdT rfl ?_))
          refine wd_done (by kernel_rfl) ?_
          refine ex_block_normal ?_
          refine ex_seq ?_
          refine cw_region ?_
          refine wl_u rfl (ow_y (yh_arI rfl rfl rfl rfl (by omega)) rfl rfl (kk_wl ?_))
          refine wl_u rfl (ow_y (yh_move rfl rfl) rfl rfl (kk_wl ?_))
          refine wl_nil ?_
          exact ex_next [1, 0, 2, 3, 4] (hn9 (n9, (s0_c_1.set s37 (Step.mk y40.name x63 y40.undo)), s37 + 1, Fs77) (Nat.lt_succ_self _) h) ⟨rfl, rfl, rfl, rfl, rfl, rfl, trivial⟩ (by kernel_rfl)
        · skip
          have h := he116
          refine cw_dr [0, 1, 3, 5, 6] [7, 8] [blkC g7 49 [.string y40.name, .slice a41 y40.after.length c41, .bool y40.undo], knowC Fs0_c_1 g40 x29.length c29 s0_c_1 s37 (.slice a41 y40.after.length c41), blkC g_u0 25 [.int .i64 u0.ver, .slice (some ⟨g40, 0, none⟩) x29.length c29], blkC g3 9 [.string u1], blkC g5 49 [.string y19.name, .slice a20 y19.after.length c20, .bool y19.undo], owC strsL F29_2 [.slice a20 y19.after.length c20] y19.after] (by kernel_rfl) ?_
          refine wd_take (i := 0) [0, 1, 2, 3, 4, 5] rfl rfl rfl rfl rfl (by kernel_rfl) (by kernel_rfl) (fun _ _ _ _ h => h) (yh_field Tb rfl rfl rfl) ?_
          refine wd_take (i := 1) [0, 1, 2, 3, 4, 5] rfl rfl rfl rfl rfl (by kernel_rfl) (by kernel_rfl) (fun _ _ _ _ h => h) (yh_loadB Tb (k := 0) rfl rfl rfl rfl rfl) ?_
          refine wd_take (i := 3) [0, 1, 2, 3, 4, 5] rfl rfl rfl rfl rfl (by kernel_rfl) (by kernel_rfl) (fun _ _ _ _ h => h) (yh_mkfn rfl rfl) ?_
          refine wd_take (i := 5) [0, 1, 2, 3, 4, 5] rfl rfl rfl rfl rfl (by kernel_rfl) (by kernel_rfl) (fun _ _ _ _ h => h) (yh_field Tb rfl rfl rfl) ?_
          refine wd_take (i := 6) [0, 1, 2, 3, 4, 5] rfl rfl rfl rfl rfl (by kernel_rfl) (by kernel_rfl) (fun _ _ _ _ h => h) (yh_loadB Tb (k := 4) rfl rfl rfl rfl rfl) ?_
          obtain ⟨x49, hx49, h⟩ := bd h
          refine wd_one 2 rfl rfl (by kernel_rfl) (ow_cN1 rfl hb76 rfl (fun w hw => c_impl_cloneNames N _ _ hx49 w (rdk 1 rfl hy40 hw)) rfl rfl (fun a49 c49 F49 => kk_wd [1, 2, 3, 4, 5, 6] (by kernel_rfl) ?_))
          obtain ⟨x51, hx51, h⟩ := bd h
          refine wd_one 4 rfl rfl (by kernel_rfl) (ow_cM1 0 rfl hb108 rfl rfl (fun w hw => c_slices_DeleteFunc_string N _ _ _ hx51 w (hw.at (i := 0) rfl) (hw.ndAt (i := 0) rfl) hb109 (fun x0 b hb w' hE => c_impl_Flow_drop_f1 N x0 u1 b hb w' (cell_blk ((hw.stepX 0 rfl hE).at (i := 3) rfl)))) rfl rfl (fun a51 c51 F51 => kk_wd [1, 2, 3, 4, 5, 6] (by kernel_rfl) ?_))
          obtain ⟨hll54, h⟩ := bd_appd h
          refine wd_one 7 rfl rfl (by kernel_rfl) (ow_appP Tb (i := 0) rfl rfl rfl rfl rfl (fun w hw => rdo (A := strsL) 6 rfl hw) rfl rfl rfl rfl hll54 (by decide) rfl rfl (fun a54 c54 F54 => kk_wdT rfl ?_))
          refine wd_one 8 rfl rfl (by kernel_rfl) (ow_y (yh_assign rfl rfl) rfl rfl (kk_wdT rfl ?_))
          refine wd_done (by kernel_rfl) ?_
          obtain rfl := Option.some.inj h
          exact ex_next [3, 2, 4, 5, 6, 0] (hn116 (a54, c54, F54) trivial) ⟨rfl, rfl, rfl, rfl, rfl, rfl, rfl, rfl, trivial⟩ (by kernel_rfl)
    · skip
      replace h := bf cc1 h
      have q2 := ltb_false.1 cc1
      refine cw_exit ?_
      refine ex_then_exit ?_
      refine ex_then_exit ?_
      obtain rfl := Option.some.inj h
      have h := go_brk hk9
      refine ex_block_exit ?_
      refine ex_know (x29.length = s0_c_1.length) (fun w hw => own_lenK 1 rfl hw) (fun hnz => ?_)
      obtain rfl := Option.some.inj h
      exact ex_n0 rfl (fun wq hq => ⟨_, rfl, hq.ext, ⟨a29, c29, Fs0_c_1, rfl, (by simp only [← hnz]; exact NewM.sel [0, 1] hq (by kernel_rfl))⟩⟩)
  · skip
    have h := he102
    refine cw_dr [0, 1, 2, 3, 5] [] [blkC g3 9 [.string u1], blkC g_u0 25 [.int .i64 u0.ver, .slice a_u0 u0.steps.length c_u0], owC stepsL F_u0 [.slice a_u0 u0.steps.length c_u0] u0.steps] (by kernel_rfl) ?_
    refine wd_take (i := 0) [0, 1, 2] rfl rfl rfl rfl rfl (by kernel_rfl) (by kernel_rfl) (fun _ _ _ _ h => h) (yh_move rfl rfl) ?_
    refine wd_take (i := 1) [0, 1, 2] rfl rfl rfl rfl rfl (by kernel_rfl) (by kernel_rfl) (fun _ _ _ _ h => h) (yh_nilCheck rfl rfl) ?_
    refine wd_take (i := 2) [0, 1, 2] rfl rfl rfl rfl rfl (by kernel_rfl) (by kernel_rfl) (fun _ _ _ _ h => h) (yh_loadBA Tb (k := 1) rfl rfl rfl rfl rfl rfl) ?_
    refine wd_take (i := 3) [0, 1, 2] rfl rfl rfl rfl rfl (by kernel_rfl) (by kernel_rfl) (fun _ _ _ _ h => h) (yh_loadB Tb (k := 0) rfl rfl rfl rfl rfl) ?_
    obtain ⟨x13, hx13, h⟩ := bd h
    refine wd_one 4 rfl rfl (by kernel_rfl) (ow_cV rfl hb36 rfl (fun w hw => c_impl_Flow_at N _ _ _ hx13 w (rdo (A := stepsL) 2 rfl hw)) rfl rfl (kk_wd [0, 1, 2] (by kernel_rfl) ?_))
    refine wd_take (i := 5) [0, 1, 2] rfl rfl rfl rfl rfl (by kernel_rfl) (by kernel_rfl) (fun _ _ _ _ h => h) (yh_assign rfl rfl) ?_
    refine wd_done (by kernel_rfl) ?_
    obtain rfl := Option.some.inj h
    exact ex_next [1, 2, 0] (hn102 () trivial) ⟨rfl, rfl, rfl, trivial⟩ (by kernel_rfl)

def m_impl_FlowChange (N : Nat) (u0 : Flow) (u1 : Change) : Option (Flow × Bool) := ((m_impl_FlowValid N u0).bind fun x9 => (bif !x9 then some (Ex.ret ((Flow.mk 0 []), false))
 else (m_impl_StepValid N u1.step).bind fun x14 => (bif !x14 then some (Ex.ret ((Flow.mk 0 []), false))
 else (bif ltb u1.kind 1 then some (Ex.ret ((Flow.mk 0 []), false))
 else (bif ltb 4 u1.kind then some (Ex.ret ((Flow.mk 0 []), false))
 else (m_impl_Flow_at N u0 u1.step.name).bind fun x32 => (bif (leb 0 x32) == (eqb u1.kind 1) then some (Ex.ret ((Flow.mk 0 []), false))
 else some (Ex.brk ())))))) : Option (Ex (Unit) (Flow × Bool))).bind fun e102 => e102.go (fun r => r) fun j102 => (m_impl_Flow_clone N u0).bind fun x41 => (m_impl_Flow_at N (Flow.mk (w64 (x41.ver + 1)) x41.steps) u1.step.name).bind fun x50 => ((bif eqb u1.kind 1 then (m_impl_Step_clone N u1.step).bind fun x59 => (appd x41.steps [x59]).bind fun l61 => (m_slices_SortFunc_Step N (x41.steps ++ [x59])).bind fun x65 => some x65.2
 else (bif eqb u1.kind 2 then (m_impl_Flow_drop N (Flow.mk (w64 (x41.ver + 1)) x41.steps) u1.step.name).bind fun xc1 => some xc1
 else (bif eqb u1.kind 3 then (m_impl_cloneNames N u1.step.after).bind fun x80 => (geti x41.steps x50).bind fun y81 => some (x41.steps.set x50.toNat (Step.mk y81.name x80 y81.undo))
 else (bif eqb u1.kind 4 then (geti x41.steps x50).bind fun y91 => some (x41.steps.set x50.toNat (Step.mk y91.name y91.after u1.step.undo))
 else some x41.steps)))) : Option ((List Step))).bind fun j113 => (m_impl_FlowValid N (Flow.mk (w64 (x41.ver + 1)) j113)).bind fun x94 => (bif !x94 then some ((Flow.mk 0 []), false)
 else (m_impl_Flow_clone N (Flow.mk (w64 (x41.ver + 1)) j113)).bind fun x98 => some (x98, true))

set_option maxHeartbeats 4000000 in
theorem c_impl_FlowChange (N : Nat) (u0 : Flow) (u1 : Change) (res : Flow × Bool) (h : m_impl_FlowChange N u0 u1 = some res) (w : World) {a_u0_steps a_u1_step_after : Option Addr} {c_u0_steps c_u1_step_after : Nat} (h_u0_steps : stepsL.rd w [] [.slice a_u0_steps u0.steps.length c_u0_steps] u0.steps) (h_u1_step_after : strsL.rd w [] [.slice a_u1_step_after u1.step.after.length c_u1_step_after] u1.step.after) : Ret Tryz.prog 27 [.agg #[.int .i64 u0.ver, .slice a_u0_steps u0.steps.length c_u0_steps], .agg #[.int .i64 u1.kind, .string u1.step.name, .slice a_u1_step_after u1.step.after.length c_u1_step_after, .bool u1.step.undo]] w [] fun v w' => ∃ a1 c1 F1, v = .tuple #[.agg #[.int .i64 res.1.ver, .slice a1 res.1.steps.length c1], .bool res.2] ∧ NewC w w' [owC stepsL F1 [.slice a1 res.1.steps.length c1] res.1.steps] := by
  have mh_u0_steps := rd_max h_u0_steps
  have mh_u1_step_after := rd_max h_u1_step_after
  unfold m_impl_FlowChange at h
  refine ret_enter Tryz.func27 rfl Tryz.ntmps27 rfl (Hp.refl w _) ?_
  refine cw_seq ?_
  refine cw_region ?_
  refine wl_u rfl (ow_boxA rfl rfl rfl rfl (fun g2 => kk_wl ?_))
  refine wl_u rfl (ow_boxA rfl rfl rfl rfl (fun g3 => kk_wl ?_))
  refine wl_u rfl (ow_allocA Tb rfl rfl rfl rfl (fun g4 => kk_wl ?_))
  refine wl_u rfl (ow_y (yh_assign rfl rfl) rfl rfl (kk_wl ?_))
  refine wl_nil ?_
  refine ex_seq ?_
  obtain ⟨e102, he102, hk102⟩ := bd h
  clear h
  refine cw_cut (σ := Unit × Unit) (fun s => e102 = Ex.brk s.1) (fun s => [(2, .pointer (some ⟨g2, 0, none⟩)), (3, .pointer (some ⟨g3, 0, none⟩)), (4, .pointer (some ⟨g4, 0, none⟩))]) (fun s => [blkC g2 25 [.int .i64 u0.ver, .slice a_u0_steps u0.steps.length c_u0_steps], blkC g3 51 [.int .i64 u1.kind, .string u1.step.name, .slice a_u1_step_after u1.step.after.length c_u1_step_after, .bool u1.step.undo], blkC g4 25 [.int .i64 0, .slice none 0 0]]) (fun s hI => ?_) (fun KL hn102 => ?_)
  · skip
    obtain ⟨j102, _⟩ := s
    simp only at hI ⊢
    subst hI
    have h := go_brk hk102
    refine cw_seq ?_
    refine cw_region ?_
    refine wl_u rfl (ow_y (yh_loadBA Tb (k := 0) rfl rfl rfl rfl rfl rfl) rfl rfl (kk_wl ?_))
    obtain ⟨x41, hx41, h⟩ := bd h
    refine wl_u rfl (ow_cN1 rfl hb48 rfl (fun w hw => c_impl_Flow_clone N _ _ hx41 w (Lay.at_ h_u0_steps hw)) rfl rfl (fun a41 c41 F41 => kk_wl ?_))
    refine wl_u rfl (ow_allocA Tb rfl rfl rfl rfl (fun g6 => kk_wl ?_))
    refine wl_u rfl (ow_storeA Tb (k := 0) rfl rfl rfl rfl rfl rfl rfl rfl rfl (kk_wl ?_))
    refine wl_nil ?_
    refine ex_seq ?_
    refine cw_seq ?_
    refine cw_region ?_
    refine wl_u rfl (ow_y (yh_field Tb rfl rfl rfl) rfl rfl (kk_wl ?_))
    refine wl_u rfl (ow_y (yh_loadB Tb (k := 0) rfl rfl rfl rfl rfl) rfl rfl (kk_wl ?_))
    refine wl_u rfl (ow_y (yh_arW rfl rfl rfl rfl) rfl rfl (kk_wl ?_))
    refine wl_u rfl (ow_y (yh_field Tb rfl rfl rfl) rfl rfl (kk_wl ?_))
    refine wl_u rfl (ow_store1 Tb (k := 0) rfl rfl rfl rfl rfl rfl rfl rfl rfl (kk_wl ?_))
    refine wl_nil ?_
    refine ex_seq ?_
    refine cw_seq ?_
    refine cw_region ?_
    refine wl_u rfl (ow_y (yh_loadBA Tb (k := 0) rfl rfl rfl rfl rfl rfl) rfl rfl (kk_wl ?_))
    refine wl_u rfl (ow_y (yh_field Tb rfl rfl rfl) rfl rfl (kk_wl ?_))
    refine wl_u rfl (ow_y (yh_field Tb rfl rfl rfl) rfl rfl (kk_wl ?_))
    refine wl_u rfl (ow_y (yh_loadB Tb (k := 3) rfl rfl rfl rfl rfl) rfl rfl (kk_wl ?_))
    obtain ⟨x50, hx50, h⟩ := bd h
    refine wl_u rfl (ow_cV rfl hb36 rfl (fun w hw => c_impl_Flow_at N _ _ _ hx50 w (rdo (A := stepsL) 1 rfl hw)) rfl rfl (kk_wl ?_))
    refine wl_u rfl (ow_y (yh_assign rfl rfl) rfl rfl (kk_wl ?_))
    refine wl_nil ?_
    refine ex_seq ?_
    obtain ⟨j113, he113, hk113⟩ := bd h
    clear h
    refine cw_cut (σ := (Option Addr) × Nat × (List Nat)) (fun s => True) (fun s => [(4, .pointer (some ⟨g4, 0, none⟩)), (6, .pointer (some ⟨g6, 0, none⟩))]) (fun s => [blkC g4 25 [.int .i64 0, .slice none 0 0], blkC g6 25 [.int .i64 (w64 (x41.ver + 1)), .slice s.1 j113.length s.2.1], owC stepsL s.2.2 [.slice s.1 j113.length s.2.1] j113]) (fun s hI => ?_) (fun KL hn113 => ?_)
    · skip
      obtain ⟨ak113_6_c_1, ck113_6_c_1, Fk113_6_c_1⟩ := s
      simp only at ⊢
      have h := hk113
      refine cw_seq ?_
      refine cw_seq ?_
      refine cw_region ?_
      refine wl_u rfl (ow_y (yh_loadBA Tb (k := 1) rfl rfl rfl rfl rfl rfl) rfl rfl (kk_wl ?_))
      obtain ⟨x94, hx94, h⟩ := bd h
      refine wl_u rfl (ow_cV rfl hb32 rfl (fun w hw => c_impl_FlowValid N _ _ hx94 w (rdo (A := stepsL) 2 rfl hw)) rfl rfl (kk_wl ?_))
      refine wl_u rfl (ow_y (yh_not rfl rfl) rfl rfl (kk_wl ?_))
      refine wl_nil ?_
      refine ex_seq ?_
      refine cw_split rfl (fun cc1 => ?_) (fun cc1 => ?_)
      · skip
        replace h := bt cc1 h
        refine cw_seq ?_
        refine cw_region ?_
        refine wl_u rfl (ow_y (yh_build [.int .i64 0, .slice none 0 0] rfl rfl (by kernel_rfl)) rfl rfl (kk_wl ?_))
        refine wl_u rfl (ow_storeA Tb (k := 0) rfl rfl rfl rfl rfl rfl rfl rfl rfl (kk_wl ?_))
        refine wl_u rfl (ow_y (yh_assign rfl rfl) rfl rfl (kk_wl ?_))
        refine wl_nil ?_
        refine ex_seq ?_
        refine cw_ret ?_
        refine ex_then_ret ?_
        refine ex_nilS stepsL rfl ?_
        obtain rfl := Option.some.inj h
        exact ex_r2 Tb rfl (.cellA 1 rfl rfl rfl rfl rfl) (.tmp rfl) (fun wq hq => ⟨_, rfl, hq.ext, ⟨none, 0, [], rfl, NewC.sel [0] hq rfl⟩⟩)
      · skip
        replace h := bf cc1 h
        refine cw_skip ?_
        refine ex_seq ?_
        refine cw_seq ?_
        refine cw_region ?_
        refine wl_u rfl (ow_y (yh_loadBA Tb (k := 1) rfl rfl rfl rfl rfl rfl) rfl rfl (kk_wl ?_))
        obtain ⟨x98, hx98, h⟩ := bd h
        refine wl_u rfl (ow_cN1 rfl hb48 rfl (fun w hw => c_impl_Flow_clone N _ _ hx98 w (rdo (A := stepsL) 2 rfl hw)) rfl rfl (fun a98 c98 F98 => kk_wl ?_))
        refine wl_u rfl (ow_storeA Tb (k := 1) rfl rfl rfl rfl rfl rfl rfl rfl rfl (kk_wl ?_))
        refine wl_u rfl (ow_y (yh_assign rfl rfl) rfl rfl (kk_wl ?_))
        refine wl_nil ?_
        refine ex_seq ?_
        refine cw_ret ?_
        obtain rfl := Option.some.inj h
        exact ex_r2 Tb rfl (.cellA 0 rfl rfl rfl rfl rfl) (.tmp rfl) (fun wq hq => ⟨_, rfl, hq.ext, ⟨a98, c98, F98, rfl, NewC.sel [1] hq rfl⟩⟩)
    · skip
      have h := he113
      refine cw_seq ?_
      refine cw_region ?_
      refine wl_u rfl (ow_y (yh_field Tb rfl rfl rfl) rfl rfl (kk_wl ?_))
      refine wl_u rfl (ow_y (yh_loadB Tb (k := 3) rfl rfl rfl rfl rfl) rfl rfl (kk_wl ?_))
      refine wl_nil ?_
      refine ex_seq ?_
      refine cw_block ?_
      refine cw_seq ?_
      refine cw_region ?_
      refine wl_u rfl (ow_y (yh_cmpI rfl rfl rfl rfl) rfl rfl (kk_wl ?_))
      refine wl_u rfl (ow_y (yh_assign rfl rfl) rfl rfl (kk_wl ?_))
      refine wl_nil ?_
      refine ex_seq ?_
      refine cw_split rfl (fun cc2 => ?_) (fun cc2 => ?_)
      · skip
        replace h := bt cc2 h
        have q1 := eqb_true.1 cc2
        refine cw_seq ?_
        refine cw_dr [0, 1, 2, 3] [6, 7, 8] [blkC g6 25 [.int .i64 (w64 (x41.ver + 1)), .slice a41 x41.steps.length c41], owC stepsL F41 [.slice a41 x41.steps.length c41] x41.steps, blkC g2 25 [.int .i64 u0.ver, .slice a_u0_steps u0.steps.length c_u0_steps], blkC g3 51 [.int .i64 u1.kind, .string u1.step.name, .slice a_u1_step_after u1.step.after.length c_u1_step_after, .bool u1.step.undo], blkC g4 25 [.int .i64 0, .slice none 0 0]] (by kernel_rfl) ?_
        refine wd_take (i := 0) [0, 1, 2, 3, 4] rfl rfl rfl rfl rfl (by kernel_rfl) (by kernel_rfl) (fun _ _ _ _ h => h) (yh_field Tb rfl rfl rfl) ?_
        refine wd_take (i := 1) [0, 1, 2, 3, 4] rfl rfl rfl rfl rfl (by kernel_rfl) (by kernel_rfl) (fun _ _ _ _ h => h) (yh_loadB Tb (k := 0) rfl rfl rfl rfl rfl) ?_
        refine wd_take (i := 2) [0, 1, 2, 3, 4] rfl rfl rfl rfl rfl (by kernel_rfl) (by kernel_rfl) (fun _ _ _ _ h => h) (yh_field Tb rfl rfl rfl) ?_
        refine wd_take (i := 3) [0, 1, 2, 3, 4] rfl rfl rfl rfl rfl (by kernel_rfl) (by kernel_rfl) (fun _ _ _ _ h => h) (yh_loadBN Tb (k := 3) rfl rfl rfl rfl rfl rfl rfl) ?_
        obtain ⟨x59, hx59, h⟩ := bd h
        refine wd_one 4 rfl rfl (by kernel_rfl) (ow_cN1 rfl hb38 rfl (fun w hw => c_impl_Step_clone N _ _ hx59 w (Lay.at_ h_u1_step_after hw)) rfl rfl (fun a59 c59 F59 => kk_wd [1, 2, 3, 4, 5] (by kernel_rfl) ?_))
        refine wd_one 5 rfl rfl (by kernel_rfl) (ow_litA Tb rfl rfl rfl rfl rfl rfl (by decide) rfl rfl (fun g60 => kk_wd [2, 3, 4, 5, 6] (by kernel_rfl) ?_))
        obtain ⟨hll61, h⟩ := bd_appd h
        refine wd_one 6 rfl rfl (by kernel_rfl) (ow_chg (c' := owC stepL F59 [.string x59.name, .slice a59 x59.after.length c59, .bool x59.undo] x59) 1 rfl (fun w hA => stepL_mk x59 hA) rfl (ow_appE Tb (i := 3) (j := 0) (k := 1) rfl rfl rfl rfl rfl rfl rfl rfl rfl rfl rfl (app1 hll61) (by decide) rfl rfl (fun a61 c61 F61 => kk_wdT rfl ?_)))
        refine wd_one 7 rfl rfl (by kernel_rfl) (ow_y (yh_field Tb rfl rfl rfl) rfl rfl (kk_wdT rfl ?_))
        refine wd_one 8 rfl rfl (by kernel_rfl) (ow_store1 Tb (k := 2) rfl rfl rfl rfl rfl rfl rfl rfl rfl (kk_wdT rfl ?_))
        refine wd_done (by kernel_rfl) ?_
        refine ex_seq ?_
        refine cw_region ?_
        refine wl_u rfl (ow_y (yh_field Tb rfl rfl rfl) rfl rfl (kk_wl ?_))
        refine wl_u rfl (ow_y (yh_loadB Tb (k := 0) rfl rfl rfl rfl rfl) rfl rfl (kk_wl ?_))
        obtain ⟨x65, hx65, h⟩ := bd h
        refine wl_u rfl (ow_cF1 1 rfl hb72 rfl rfl (fun w hw => c_slices_SortFunc_Step N _ _ hx65 w (hw.at (i := 1) rfl) (hw.ndAt (i := 1) rfl)) rfl rfl (fun F65 => kk_wl ?_))
        refine wl_nil ?_
        refine ex_block_normal ?_
        refine ex_know ((x41.steps ++ [x59]).length = x65.2.length) (fun w hw => own_lenK 0 rfl hw) (fun hr1_ => ?_)
        rw [hr1_]
        obtain rfl := Option.some.inj h
        exact ex_next [5, 1, 0] (hn113 (a61, c61, F65) trivial) ⟨rfl, rfl, trivial⟩ (by kernel_rfl)
      · skip
        replace h := bf cc2 h
        have q2 := eqb_false.1 cc2
        refine cw_seq ?_
        refine cw_region ?_
        refine wl_u rfl (ow_y (yh_cmpI rfl rfl rfl rfl) rfl rfl (kk_wl ?_))
        refine wl_u rfl (ow_y (yh_assign rfl rfl) rfl rfl (kk_wl ?_))
        refine wl_nil ?_
        refine ex_seq ?_
        refine cw_split rfl (fun cc3 => ?_) (fun cc3 => ?_)
        · skip
          replace h := bt cc3 h
          have q3 := eqb_true.1 cc3
          refine cw_region ?_
          refine wl_u rfl (ow_y (yh_field Tb rfl rfl rfl) rfl rfl (kk_wl ?_))
          refine wl_u rfl (ow_y (yh_field Tb rfl rfl rfl) rfl rfl (kk_wl ?_))
          refine wl_u rfl (ow_y (yh_loadB Tb (k := 3) rfl rfl rfl rfl rfl) rfl rfl (kk_wl ?_))
          obtain ⟨xc1, hxc1, h⟩ := bd h
          refine wl_u rfl (ow_cPd 0 0 rfl rfl hb75 rfl rfl rfl rfl (fun w hw => c_impl_Flow_drop N _ _ _ hxc1 w (hw.at (i := 0) rfl) (hw.at (i := 1) rfl) (hw.ndPair (i := 0) (j := 0) rfl rfl)) rfl rfl (fun axc1 cxc1 Fxc1 => kk_wl ?_))
          refine wl_nil ?_
          refine ex_block_normal ?_
          obtain rfl := Option.some.inj h
          exact ex_next [4, 0, 1] (hn113 (axc1, cxc1, Fxc1) trivial) ⟨rfl, rfl, trivial⟩ (by kernel_rfl)
        · skip
          replace h := bf cc3 h
          have q4 := eqb_false.1 cc3
          refine cw_seq ?_
          refine cw_region ?_
          refine wl_u rfl (ow_y (yh_cmpI rfl rfl rfl rfl) rfl rfl (kk_wl ?_))
          refine wl_u rfl (ow_y (yh_assign rfl rfl) rfl rfl (kk_wl ?_))
          refine wl_nil ?_
          refine ex_seq ?_
          refine cw_split rfl (fun cc4 => ?_) (fun cc4 => ?_)
          · skip
            replace h := bt cc4 h
            have q5 := eqb_true.1 cc4
            refine cw_dr [0, 1, 2, 3, 4, 5, 7, 8] [9] [blkC g6 25 [.int .i64 (w64 (x41.ver + 1)), .slice a41 x41.steps.length c41], owC stepsL F41 [.slice a41 x41.steps.length c41] x41.steps, blkC g2 25 [.int .i64 u0.ver, .slice a_u0_steps u0.steps.length c_u0_steps], blkC g3 51 [.int .i64 u1.kind, .string u1.step.name, .slice a_u1_step_after u1.step.after.length c_u1_step_after, .bool u1.step.undo], blkC g4 25 [.int .i64 0, .slice none 0 0]] (by kernel_rfl) ?_
            refine wd_take (i := 0) [0, 1, 2, 3, 4] rfl rfl rfl rfl rfl (by kernel_rfl) (by kernel_rfl) (fun _ _ _ _ h => h) (yh_field Tb rfl rfl rfl) ?_
            refine wd_take (i := 1) [0, 1, 2, 3, 4] rfl rfl rfl rfl rfl (by kernel_rfl) (by kernel_rfl) (fun _ _ _ _ h => h) (yh_loadB Tb (k := 0) rfl rfl rfl rfl rfl) ?_
            refine wd_take (i := 2) [0, 1, 2, 3, 4] rfl rfl rfl rfl rfl (by kernel_rfl) (by kernel_rfl) (fun _ _ _ _ h => h) (yh_move rfl rfl) ?_
            refine wd_take (i := 3) [0, 1, 2, 3, 4] rfl rfl rfl rfl rfl (by kernel_rfl) (by kernel_rfl) (fun _ _ _ _ h => h) (yh_field Tb rfl rfl rfl) ?_
            refine wd_take (i := 4) [0, 1, 2, 3, 4] rfl rfl rfl rfl rfl (by kernel_rfl) (by kernel_rfl) (fun _ _ _ _ h => h) (yh_field Tb rfl rfl rfl) ?_
            refine wd_take (i := 5) [0, 1, 2, 3, 4] rfl rfl rfl rfl rfl (by kernel_rfl) (by kernel_rfl) (fun _ _ _ _ h => h) (yh_loadB Tb (k := 3) rfl rfl rfl rfl rfl) ?_
            obtain ⟨x80, hx80, h⟩ := bd h
            refine wd_one 6 rfl rfl (by kernel_rfl) (ow_cN1 rfl hb76 rfl (fun w hw => c_impl_cloneNames N _ _ hx80 w (Lay.at_ h_u1_step_after hw)) rfl rfl (fun a80 c80 F80 => kk_wd [1, 2, 3, 4, 5] (by kernel_rfl) ?_))
            obtain ⟨y81, zy81, h⟩ := bd h
            obtain ⟨iy81, hy81⟩ := geti_some zy81
            refine wd_ex (fun g => a41 = some ⟨g, 0, none⟩) (fun w hw => by exact own_addrK 2 rfl hy81 hw) (fun g81 hg81 => ?_)
            subst hg81
            refine wd_take (i := 7) [1, 2, 3, 4, 5] rfl rfl rfl rfl rfl (by kernel_rfl) (by kernel_rfl) (fun _ _ _ _ h => h) (yh_idx Tb (k := x50.toNat) rfl rfl rfl iy81 (get_lt hy81) rfl rfl) ?_
            refine wd_take (i := 8) [1, 2, 3, 4, 5] rfl rfl rfl rfl rfl (by kernel_rfl) (by kernel_rfl) (fun _ _ _ _ h => h) (yh_field Tb rfl rfl rfl) ?_
            refine wd_one 9 rfl rfl (by kernel_rfl) (ow_setFS Tb 2 0 1 (Step.mk y81.name x80 y81.undo) (fun w F cs h hG => by obtain ⟨a, c, rfl, h2⟩ := stepL_ow h; exact stepL_mk (Step.mk y81.name x80 y81.undo) hG) rfl rfl rfl rfl rfl rfl rfl rfl hy81 rfl (fun Fs56 => kk_wdT rfl ?_))
            refine wd_done (by kernel_rfl) ?_
            refine ex_block_normal ?_
            refine ex_know (x41.steps.length = (x41.steps.set x50.toNat (Step.mk y81.name x80 y81.undo)).length) (fun w hw => own_lenK 0 rfl hw) (fun hr2_ => ?_)
            rw [hr2_]
            obtain rfl := Option.some.inj h
            exact ex_next [4, 1, 0] (hn113 ((some ⟨g81, 0, none⟩), c41, Fs56) trivial) ⟨rfl, rfl, trivial⟩ (by kernel_rfl)
          · skip
            replace h := bf cc4 h
            have q6 := eqb_false.1 cc4
            refine cw_seq ?_
            refine cw_region ?_
            refine wl_u rfl (ow_y (yh_cmpI rfl rfl rfl rfl) rfl rfl (kk_wl ?_))
            refine wl_u rfl (ow_y (yh_assign rfl rfl) rfl rfl (kk_wl ?_))
            refine wl_nil ?_
            refine ex_seq ?_
            refine cw_split rfl (fun cc5 => ?_) (fun cc5 => ?_)
            · skip
              replace h := bt cc5 h
              have q7 := eqb_true.1 cc5
              refine cw_region ?_
              refine wl_u rfl (ow_y (yh_field Tb rfl rfl rfl) rfl rfl (kk_wl ?_))
              refine wl_u rfl (ow_y (yh_loadB Tb (k := 0) rfl rfl rfl rfl rfl) rfl rfl (kk_wl ?_))
              refine wl_u rfl (ow_y (yh_move rfl rfl) rfl rfl (kk_wl ?_))
              refine wl_u rfl (ow_y (yh_field Tb rfl rfl rfl) rfl rfl (kk_wl ?_))
              refine wl_u rfl (ow_y (yh_field Tb rfl rfl rfl) rfl rfl (kk_wl ?_))
              refine wl_u rfl (ow_y (yh_loadB Tb (k := 3) rfl rfl rfl rfl rfl) rfl rfl (kk_wl ?_))
              obtain ⟨y91, zy91, h⟩ := bd h
              obtain ⟨iy91, hy91⟩ := geti_some zy91
              refine wl_ex (fun g => a41 = some ⟨g, 0, none⟩) (fun w hw => by exact own_addrK 1 rfl hy91 hw) (fun g91 hg91 => ?_)
              subst hg91
              refine wl_u rfl (ow_y (yh_idx Tb (k := x50.toNat) rfl rfl rfl iy91 (get_lt hy91) rfl rfl) rfl rfl (kk_wl ?_))
              refine wl_u rfl (ow_y (yh_field Tb rfl rfl rfl) rfl rfl (kk_wl ?_))
              refine wl_u rfl (ow_setFP Tb 1 2 (Step.mk y91.name y91.after u1.step.undo) (fun w F cs h => by obtain ⟨a, c, rfl, h2⟩ := stepL_ow h; exact stepL_mk (Step.mk y91.name y91.after u1.step.undo) h2) rfl rfl rfl rfl rfl rfl rfl hy91 rfl (kk_wl ?_))
              refine wl_nil ?_
              refine ex_block_normal ?_
              refine ex_know (x41.steps.length = (x41.steps.set x50.toNat (Step.mk y91.name y91.after u1.step.undo)).length) (fun w hw => own_lenK 0 rfl hw) (fun hr3_ => ?_)
              rw [hr3_]
              obtain rfl := Option.some.inj h
              exact ex_next [4, 1, 0] (hn113 ((some ⟨g91, 0, none⟩), c41, F41) trivial) ⟨rfl, rfl, trivial⟩ (by kernel_rfl)
            · skip
              replace h := bf cc5 h
              have q8 := eqb_false.1 cc5
              refine cw_skip ?_
              refine ex_block_normal ?_
              obtain rfl := Option.some.inj h
              exact ex_next [4, 0, 1] (hn113 (a41, c41, F41) trivial) ⟨rfl, rfl, trivial⟩ (by kernel_rfl)
  · skip
    have h := he102
    refine cw_seq ?_
    refine cw_dr [0, 2, 3, 4, 5, 7, 8, 9, 10, 11, 12, 13, 14, 15, 16, 17, 18, 19, 20, 21, 22, 23, 25, 26, 27, 28, 29, 30] [] [blkC g4 25 [.int .i64 0, .slice none 0 0], blkC g3 51 [.int .i64 u1.kind, .string u1.step.name, .slice a_u1_step_after u1.step.after.length c_u1_step_after, .bool u1.step.undo], blkC g2 25 [.int .i64 u0.ver, .slice a_u0_steps u0.steps.length c_u0_steps]] (by kernel_rfl) ?_
    refine wd_take (i := 0) [0, 1, 2] rfl rfl rfl rfl rfl (by kernel_rfl) (by kernel_rfl) (fun _ _ _ _ h => h) (yh_loadBA Tb (k := 2) rfl rfl rfl rfl rfl rfl) ?_
    obtain ⟨x9, hx9, h⟩ := bd h
    refine wd_one 1 rfl rfl (by kernel_rfl) (ow_cV rfl hb32 rfl (fun w hw => c_impl_FlowValid N _ _ hx9 w (Lay.at_ h_u0_steps hw)) rfl rfl (kk_wd [0, 1, 2] (by kernel_rfl) ?_))
    refine wd_take (i := 2) [0, 1, 2] rfl rfl rfl rfl rfl (by kernel_rfl) (by kernel_rfl) (fun _ _ _ _ h => h) (yh_not rfl rfl) ?_
    refine wd_take (i := 3) [0, 1, 2] rfl rfl rfl rfl rfl (by kernel_rfl) (by kernel_rfl) (fun _ _ _ _ h => h) (yh_move rfl rfl) ?_
    refine wd_split 4 rfl rfl rfl (fun cc6 => ?_) (fun cc6 => ?_)
    · skip
      replace h := bt cc6 h
      refine wd_skip (i := 4) [0, 1, 2] rfl rfl rfl rfl (by kernel_rfl) (by kernel_rfl) (fun _ _ _ h => h) ?_
      refine wd_skip (i := 5) [0, 1, 2] rfl rfl rfl rfl (by kernel_rfl) (by kernel_rfl) (fun _ _ _ h => h) ?_
      refine wd_offD 6 rfl rfl rfl rfl (by kernel_rfl) [0, 1, 2] (fun _ => rfl) ?_
      refine wd_skip (i := 7) [0, 1, 2] rfl rfl rfl rfl (by kernel_rfl) (by kernel_rfl) (fun _ _ _ h => h) ?_
      refine wd_take (i := 8) [0, 1, 2] rfl rfl rfl rfl rfl (by kernel_rfl) (by kernel_rfl) (fun _ _ _ _ h => h) (yh_pickT rfl rfl rfl) ?_
      refine wd_take (i := 9) [0, 1, 2] rfl rfl rfl rfl rfl (by kernel_rfl) (by kernel_rfl) (fun _ _ _ _ h => h) (yh_move rfl rfl) ?_
      refine wd_split 10 rfl rfl rfl (fun _ => ?_) nofun
      refine wd_skip (i := 10) [0, 1, 2] rfl rfl rfl rfl (by kernel_rfl) (by kernel_rfl) (fun _ _ _ h => h) ?_
      refine wd_skip (i := 11) [0, 1, 2] rfl rfl rfl rfl (by kernel_rfl) (by kernel_rfl) (fun _ _ _ h => h) ?_
      refine wd_skip (i := 12) [0, 1, 2] rfl rfl rfl rfl (by kernel_rfl) (by kernel_rfl) (fun _ _ _ h => h) ?_
      refine wd_take (i := 13) [0, 1, 2] rfl rfl rfl rfl rfl (by kernel_rfl) (by kernel_rfl) (fun _ _ _ _ h => h) (yh_pickT rfl rfl rfl) ?_
      refine wd_take (i := 14) [0, 1, 2] rfl rfl rfl rfl rfl (by kernel_rfl) (by kernel_rfl) (fun _ _ _ _ h => h) (yh_move rfl rfl) ?_
      refine wd_split 15 rfl rfl rfl (fun _ => ?_) nofun
      refine wd_skip (i := 15) [0, 1, 2] rfl rfl rfl rfl (by kernel_rfl) (by kernel_rfl) (fun _ _ _ h => h) ?_
      refine wd_skip (i := 16) [0, 1, 2] rfl rfl rfl rfl (by kernel_rfl) (by kernel_rfl) (fun _ _ _ h => h) ?_
      refine wd_skip (i := 17) [0, 1, 2] rfl rfl rfl rfl (by kernel_rfl) (by kernel_rfl) (fun _ _ _ h => h) ?_
      refine wd_take (i := 18) [0, 1, 2] rfl rfl rfl rfl rfl (by kernel_rfl) (by kernel_rfl) (fun _ _ _ _ h => h) (yh_pickT rfl rfl rfl) ?_
      refine wd_take (i := 19) [0, 1, 2] rfl rfl rfl rfl rfl (by kernel_rfl) (by kernel_rfl) (fun _ _ _ _ h => h) (yh_move rfl rfl) ?_
      refine wd_split 20 rfl rfl rfl (fun _ => ?_) nofun
      refine wd_skip (i := 20) [0, 1, 2] rfl rfl rfl rfl (by kernel_rfl) (by kernel_rfl) (fun _ _ _ h => h) ?_
      refine wd_skip (i := 21) [0, 1, 2] rfl rfl rfl rfl (by kernel_rfl) (by kernel_rfl) (fun _ _ _ h => h) ?_
      refine wd_skip (i := 22) [0, 1, 2] rfl rfl rfl rfl (by kernel_rfl) (by kernel_rfl) (fun _ _ _ h => h) ?_
      refine wd_skip (i := 23) [0, 1, 2] rfl rfl rfl rfl (by kernel_rfl) (by kernel_rfl) (fun _ _ _ h => h) ?_
      refine wd_skip (i := 26) [0, 1, 2] rfl rfl rfl rfl (by kernel_rfl) (by kernel_rfl) (fun _ _ _ h => h) ?_
      refine wd_skip (i := 27) [0, 1, 2] rfl rfl rfl rfl (by kernel_rfl) (by kernel_rfl) (fun _ _ _ h => h) ?_
      refine wd_skip (i := 28) [0, 1, 2] rfl rfl rfl rfl (by kernel_rfl) (by kernel_rfl) (fun _ _ _ h => h) ?_
      refine wd_offD 24 rfl rfl rfl rfl (by kernel_rfl) [0, 1, 2] (fun _ => rfl) ?_
      refine wd_skip (i := 25) [0, 1, 2] rfl rfl rfl rfl (by kernel_rfl) (by kernel_rfl) (fun _ _ _ h => h) ?_
      refine wd_skip (i := 29) [0, 1, 2] rfl rfl rfl rfl (by kernel_rfl) (by kernel_rfl) (fun _ _ _ h => h) ?_
      refine wd_take (i := 30) [0, 1, 2] rfl rfl rfl rfl rfl (by kernel_rfl) (by kernel_rfl) (fun _ _ _ _ h => h) (yh_pickT rfl rfl rfl) ?_
      refine wd_done (by kernel_rfl) ?_
      refine ex_seq ?_
      refine cw_true rfl ?_
      refine cw_seq ?_
      refine cw_region ?_
      refine wl_u rfl (ow_y (yh_build [.int .i64 0, .slice none 0 0] rfl rfl (by kernel_rfl)) rfl rfl (kk_wl ?_))
      refine wl_u rfl (ow_storeA Tb (k := 0) rfl rfl rfl rfl rfl rfl rfl rfl rfl (kk_wl ?_))
      refine wl_u rfl (ow_y (yh_assign rfl rfl) rfl rfl (kk_wl ?_))
      refine wl_nil ?_
      refine ex_seq ?_
      refine cw_ret ?_
      refine ex_then_ret ?_
      refine ex_nilS stepsL rfl ?_
      obtain rfl := Option.some.inj h
      obtain rfl := go_ret hk102
      exact ex_r2 Tb rfl (.cellA 1 rfl rfl rfl rfl rfl) (.tmp rfl) (fun wq hq => ⟨_, rfl, hq.ext, ⟨none, 0, [], rfl, NewC.sel [0] hq rfl⟩⟩)
    · skip
      replace h := bf cc6 h
      refine wd_take (i := 4) [0, 1, 2] rfl rfl rfl rfl rfl (by kernel_rfl) (by kernel_rfl) (fun _ _ _ _ h => h) (yh_field Tb rfl rfl rfl) ?_
      refine wd_take (i := 5) [0, 1, 2] rfl rfl rfl rfl rfl (by kernel_rfl) (by kernel_rfl) (fun _ _ _ _ h => h) (yh_loadBN Tb (k := 1) rfl rfl rfl rfl rfl rfl rfl) ?_
      obtain ⟨x14, hx14, h⟩ := bd h
      refine wd_one 6 rfl rfl (by kernel_rfl) (ow_cV rfl hb71 rfl (fun w hw => c_impl_StepValid N _ _ hx14 w (Lay.at_ h_u1_step_after hw)) rfl rfl (kk_wd [0, 1, 2] (by kernel_rfl) ?_))
      refine wd_take (i := 7) [0, 1, 2] rfl rfl rfl rfl rfl (by kernel_rfl) (by kernel_rfl) (fun _ _ _ _ h => h) (yh_not rfl rfl) ?_
      refine wd_take (i := 8) [0, 1, 2] rfl rfl rfl rfl rfl (by kernel_rfl) (by kernel_rfl) (fun _ _ _ _ h => h) (yh_pickF rfl rfl rfl) ?_
      refine wd_take (i := 9) [0, 1, 2] rfl rfl rfl rfl rfl (by kernel_rfl) (by kernel_rfl) (fun _ _ _ _ h => h) (yh_move rfl rfl) ?_
      refine wd_split 10 rfl rfl rfl (fun cc7 => ?_) (fun cc7 => ?_)
      · skip
        replace h := bt cc7 h
        refine wd_skip (i := 10) [0, 1, 2] rfl rfl rfl rfl (by kernel_rfl) (by kernel_rfl) (fun _ _ _ h => h) ?_
        refine wd_skip (i := 11) [0, 1, 2] rfl rfl rfl rfl (by kernel_rfl) (by kernel_rfl) (fun _ _ _ h => h) ?_
        refine wd_skip (i := 12) [0, 1, 2] rfl rfl rfl rfl (by kernel_rfl) (by kernel_rfl) (fun _ _ _ h => h) ?_
        refine wd_take (i := 13) [0, 1, 2] rfl rfl rfl rfl rfl (by kernel_rfl) (by kernel_rfl) (fun _ _ _ _ h => h) (yh_pickT rfl rfl rfl) ?_
        refine wd_take (i := 14) [0, 1, 2] rfl rfl rfl rfl rfl (by kernel_rfl) (by kernel_rfl) (fun _ _ _ _ h => h) (yh_move rfl rfl) ?_
        refine wd_split 15 rfl rfl rfl (fun _ => ?_) nofun
        refine wd_skip (i := 15) [0, 1, 2] rfl rfl rfl rfl (by kernel_rfl) (by kernel_rfl) (fun _ _ _ h => h) ?_
        refine wd_skip (i := 16) [0, 1, 2] rfl rfl rfl rfl (by kernel_rfl) (by kernel_rfl) (fun _ _ _ h => h) ?_
        refine wd_skip (i := 17) [0, 1, 2] rfl rfl rfl rfl (by kernel_rfl) (by kernel_rfl) (fun _ _ _ h => h) ?_
        refine wd_take (i := 18) [0, 1, 2] rfl rfl rfl rfl rfl (by kernel_rfl) (by kernel_rfl) (fun _ _ _ _ h => h) (yh_pickT rfl rfl rfl) ?_
        refine wd_take (i := 19) [0, 1, 2] rfl rfl rfl rfl rfl (by kernel_rfl) (by kernel_rfl) (fun _ _ _ _ h => h) (yh_move rfl rfl) ?_
        refine wd_split 20 rfl rfl rfl (fun _ => ?_) nofun
        refine wd_skip (i := 20) [0, 1, 2] rfl rfl rfl rfl (by kernel_rfl) (by kernel_rfl) (fun _ _ _ h => h) ?_
        refine wd_skip (i := 21) [0, 1, 2] rfl rfl rfl rfl (by kernel_rfl) (by kernel_rfl) (fun _ _ _ h => h) ?_
        refine wd_skip (i := 22) [0, 1, 2] rfl rfl rfl rfl (by kernel_rfl) (by kernel_rfl) (fun _ _ _ h => h) ?_
        refine wd_skip (i := 23) [0, 1, 2] rfl rfl rfl rfl (by kernel_rfl) (by kernel_rfl) (fun _ _ _ h => h) ?_
        refine wd_skip (i := 26) [0, 1, 2] rfl rfl rfl rfl (by kernel_rfl) (by kernel_rfl) (fun _ _ _ h => h) ?_
        refine wd_skip (i := 27) [0, 1, 2] rfl rfl rfl rfl (by kernel_rfl) (by kernel_rfl) (fun _ _ _ h => h) ?_
        refine wd_skip (i := 28) [0, 1, 2] rfl rfl rfl rfl (by kernel_rfl) (by kernel_rfl) (fun _ _ _ h => h) ?_
        refine wd_offD 24 rfl rfl rfl rfl (by kernel_rfl) [0, 1, 2] (fun _ => rfl) ?_
        refine wd_skip (i := 25) [0, 1, 2] rfl rfl rfl rfl (by kernel_rfl) (by kernel_rfl) (fun _ _ _ h => h) ?_
        refine wd_skip (i := 29) [0, 1, 2] rfl rfl rfl rfl (by kernel_rfl) (by kernel_rfl) (fun _ _ _ h => h) ?_
        refine wd_take (i := 30) [0, 1, 2] rfl rfl rfl rfl rfl (by kernel_rfl) (by kernel_rfl) (fun _ _ _ _ h => h) (yh_pickT rfl rfl rfl) ?_
        refine wd_done (by kernel_rfl) ?_
        refine ex_seq ?_
        refine cw_true rfl ?_
        refine cw_seq ?_
        refine cw_region ?_
        refine wl_u rfl (ow_y (yh_build [.int .i64 0, .slice none 0 0] rfl rfl (by kernel_rfl)) rfl rfl (kk_wl ?_))
        refine wl_u rfl (ow_storeA Tb (k := 0) rfl rfl rfl rfl rfl rfl rfl rfl rfl (kk_wl ?_))
        refine wl_u rfl (ow_y (yh_assign rfl rfl) rfl rfl (kk_wl ?_))
        refine wl_nil ?_
        refine ex_seq ?_
        refine cw_ret ?_
        refine ex_then_ret ?_
        refine ex_nilS stepsL rfl ?_
        obtain rfl := Option.some.inj h
        obtain rfl := go_ret hk102
        exact ex_r2 Tb rfl (.cellA 1 rfl rfl rfl rfl rfl) (.tmp rfl) (fun wq hq => ⟨_, rfl, hq.ext, ⟨none, 0, [], rfl, NewC.sel [0] hq rfl⟩⟩)
      · skip
        replace h := bf cc7 h
        refine wd_take (i := 10) [0, 1, 2] rfl rfl rfl rfl rfl (by kernel_rfl) (by kernel_rfl) (fun _ _ _ _ h => h) (yh_field Tb rfl rfl rfl) ?_
        refine wd_take (i := 11) [0, 1, 2] rfl rfl rfl rfl rfl (by kernel_rfl) (by kernel_rfl) (fun _ _ _ _ h => h) (yh_loadB Tb (k := 1) rfl rfl rfl rfl rfl) ?_
        refine wd_take (i := 12) [0, 1, 2] rfl rfl rfl rfl rfl (by kernel_rfl) (by kernel_rfl) (fun _ _ _ _ h => h) (yh_cmpI rfl rfl rfl rfl) ?_
        refine wd_take (i := 13) [0, 1, 2] rfl rfl rfl rfl rfl (by kernel_rfl) (by kernel_rfl) (fun _ _ _ _ h => h) (yh_pickF rfl rfl rfl) ?_
        refine wd_take (i := 14) [0, 1, 2] rfl rfl rfl rfl rfl (by kernel_rfl) (by kernel_rfl) (fun _ _ _ _ h => h) (yh_move rfl rfl) ?_
        refine wd_split 15 rfl rfl rfl (fun cc8 => ?_) (fun cc8 => ?_)
        · skip
          replace h := bt cc8 h
          have q9 := ltb_true.1 cc8
          refine wd_skip (i := 15) [0, 1, 2] rfl rfl rfl rfl (by kernel_rfl) (by kernel_rfl) (fun _ _ _ h => h) ?_
          refine wd_skip (i := 16) [0, 1, 2] rfl rfl rfl rfl (by kernel_rfl) (by kernel_rfl) (fun _ _ _ h => h) ?_
          refine wd_skip (i := 17) [0, 1, 2] rfl rfl rfl rfl (by kernel_rfl) (by kernel_rfl) (fun _ _ _ h => h) ?_
          refine wd_take (i := 18) [0, 1, 2] rfl rfl rfl rfl rfl (by kernel_rfl) (by kernel_rfl) (fun _ _ _ _ h => h) (yh_pickT rfl rfl rfl) ?_
          refine wd_take (i := 19) [0, 1, 2] rfl rfl rfl rfl rfl (by kernel_rfl) (by kernel_rfl) (fun _ _ _ _ h => h) (yh_move rfl rfl) ?_
          refine wd_split 20 rfl rfl rfl (fun _ => ?_) nofun
          refine wd_skip (i := 20) [0, 1, 2] rfl rfl rfl rfl (by kernel_rfl) (by kernel_rfl) (fun _ _ _ h => h) ?_
          refine wd_skip (i := 21) [0, 1, 2] rfl rfl rfl rfl (by kernel_rfl) (by kernel_rfl) (fun _ _ _ h => h) ?_
          refine wd_skip (i := 22) [0, 1, 2] rfl rfl rfl rfl (by kernel_rfl) (by kernel_rfl) (fun _ _ _ h => h) ?_
          refine wd_skip (i := 23) [0, 1, 2] rfl rfl rfl rfl (by kernel_rfl) (by kernel_rfl) (fun _ _ _ h => h) ?_
          refine wd_skip (i := 26) [0, 1, 2] rfl rfl rfl rfl (by kernel_rfl) (by kernel_rfl) (fun _ _ _ h => h) ?_
          refine wd_skip (i := 27) [0, 1, 2] rfl rfl rfl rfl (by kernel_rfl) (by kernel_rfl) (fun _ _ _ h => h) ?_
          refine wd_skip (i := 28) [0, 1, 2] rfl rfl rfl rfl (by kernel_rfl) (by kernel_rfl) (fun _ _ _ h => h) ?_
          refine wd_offD 24 rfl rfl rfl rfl (by kernel_rfl) [0, 1, 2] (fun _ => rfl) ?_
          refine wd_skip (i := 25) [0, 1, 2] rfl rfl rfl rfl (by kernel_rfl) (by kernel_rfl) (fun _ _ _ h => h) ?_
          refine wd_skip (i := 29) [0, 1, 2] rfl rfl rfl rfl (by kernel_rfl) (by kernel_rfl) (fun _ _ _ h => h) ?_
          refine wd_take (i := 30) [0, 1, 2] rfl rfl rfl rfl rfl (by kernel_rfl) (by kernel_rfl) (fun _ _ _ _ h => h) (yh_pickT rfl rfl rfl) ?_
          refine wd_done (by kernel_rfl) ?_
          refine ex_seq ?_
          refine cw_true rfl ?_
          refine cw_seq ?_
          refine cw_region ?_
          refine wl_u rfl (ow_y (yh_build [.int .i64 0, .slice none 0 0] rfl rfl (by kernel_rfl)) rfl rfl (kk_wl ?_))
          refine wl_u rfl (ow_storeA Tb (k := 0) rfl rfl rfl rfl rfl rfl rfl rfl rfl (kk_wl ?_))
          refine wl_u rfl (ow_y (yh_assign rfl rfl) rfl rfl (kk_wl ?_))
          refine wl_nil ?_
          refine ex_seq ?_
          refine cw_ret ?_
          refine ex_then_ret ?_
          refine ex_nilS stepsL rfl ?_
          obtain rfl := Option.some.inj h
          obtain rfl := go_ret hk102
          exact ex_r2 Tb rfl (.cellA 1 rfl rfl rfl rfl rfl) (.tmp rfl) (fun wq hq => ⟨_, rfl, hq.ext, ⟨none, 0, [], rfl, NewC.sel [0] hq rfl⟩⟩)
        · skip
          replace h := bf cc8 h
          have q10 := ltb_false.1 cc8
          refine wd_take (i := 15) [0, 1, 2] rfl rfl rfl rfl rfl (by kernel_rfl) (by kernel_rfl) (fun _ _ _ _ h => h) (yh_field Tb rfl rfl rfl) ?_
          refine wd_take (i := 16) [0, 1, 2] rfl rfl rfl rfl rfl (by kernel_rfl) (by kernel_rfl) (fun _ _ _ _ h => h) (yh_loadB Tb (k := 1) rfl rfl rfl rfl rfl) ?_
          refine wd_take (i := 17) [0, 1, 2] rfl rfl rfl rfl rfl (by kernel_rfl) (by kernel_rfl) (fun _ _ _ _ h => h) (yh_cmpI rfl rfl rfl rfl) ?_
          refine wd_take (i := 18) [0, 1, 2] rfl rfl rfl rfl rfl (by kernel_rfl) (by kernel_rfl) (fun _ _ _ _ h => h) (yh_pickF rfl rfl rfl) ?_
          refine wd_take (i := 19) [0, 1, 2] rfl rfl rfl rfl rfl (by kernel_rfl) (by kernel_rfl) (fun _ _ _ _ h => h) (yh_move rfl rfl) ?_
          refine wd_split 20 rfl rfl rfl (fun cc9 => ?_) (fun cc9 => ?_)
          · skip
            replace h := bt cc9 h
            have q11 := ltb_true.1 cc9
            refine wd_skip (i := 20) [0, 1, 2] rfl rfl rfl rfl (by kernel_rfl) (by kernel_rfl) (fun _ _ _ h => h) ?_
            refine wd_skip (i := 21) [0, 1, 2] rfl rfl rfl rfl (by kernel_rfl) (by kernel_rfl) (fun _ _ _ h => h) ?_
            refine wd_skip (i := 22) [0, 1, 2] rfl rfl rfl rfl (by kernel_rfl) (by kernel_rfl) (fun _ _ _ h => h) ?_
            refine wd_skip (i := 23) [0, 1, 2] rfl rfl rfl rfl (by kernel_rfl) (by kernel_rfl) (fun _ _ _ h => h) ?_
            refine wd_skip (i := 26) [0, 1, 2] rfl rfl rfl rfl (by kernel_rfl) (by kernel_rfl) (fun _ _ _ h => h) ?_
            refine wd_skip (i := 27) [0, 1, 2] rfl rfl rfl rfl (by kernel_rfl) (by kernel_rfl) (fun _ _ _ h => h) ?_
            refine wd_skip (i := 28) [0, 1, 2] rfl rfl rfl rfl (by kernel_rfl) (by kernel_rfl) (fun _ _ _ h => h) ?_
            refine wd_offD 24 rfl rfl rfl rfl (by kernel_rfl) [0, 1, 2] (fun _ => rfl) ?_
            refine wd_skip (i := 25) [0, 1, 2] rfl rfl rfl rfl (by kernel_rfl) (by kernel_rfl) (fun _ _ _ h => h) ?_
            refine wd_skip (i := 29) [0, 1, 2] rfl rfl rfl rfl (by kernel_rfl) (by kernel_rfl) (fun _ _ _ h => h) ?_
            refine wd_take (i := 30) [0, 1, 2] rfl rfl rfl rfl rfl (by kernel_rfl) (by kernel_rfl) (fun _ _ _ _ h => h) (yh_pickT rfl rfl rfl) ?_
            refine wd_done (by kernel_rfl) ?_
            refine ex_seq ?_
            refine cw_true rfl ?_
            refine cw_seq ?_
            refine cw_region ?_
            refine wl_u rfl (ow_y (yh_build [.int .i64 0, .slice none 0 0] rfl rfl (by kernel_rfl)) rfl rfl (kk_wl ?_))
            refine wl_u rfl (ow_storeA Tb (k := 0) rfl rfl rfl rfl rfl rfl rfl rfl rfl (kk_wl ?_))
            refine wl_u rfl (ow_y (yh_assign rfl rfl) rfl rfl (kk_wl ?_))
            refine wl_nil ?_
            refine ex_seq ?_
            refine cw_ret ?_
            refine ex_then_ret ?_
            refine ex_nilS stepsL rfl ?_
            obtain rfl := Option.some.inj h
            obtain rfl := go_ret hk102
            exact ex_r2 Tb rfl (.cellA 1 rfl rfl rfl rfl rfl) (.tmp rfl) (fun wq hq => ⟨_, rfl, hq.ext, ⟨none, 0, [], rfl, NewC.sel [0] hq rfl⟩⟩)
          · skip
            replace h := bf cc9 h
            have q12 := ltb_false.1 cc9
            refine wd_take (i := 20) [0, 1, 2] rfl rfl rfl rfl rfl (by kernel_rfl) (by kernel_rfl) (fun _ _ _ _ h => h) (yh_loadBA Tb (k := 2) rfl rfl rfl rfl rfl rfl) ?_
            refine wd_take (i := 21) [0, 1, 2] rfl rfl rfl rfl rfl (by kernel_rfl) (by kernel_rfl) (fun _ _ _ _ h => h) (yh_field Tb rfl rfl rfl) ?_
            refine wd_take (i := 22) [0, 1, 2] rfl rfl rfl rfl rfl (by kernel_rfl) (by kernel_rfl) (fun _ _ _ _ h => h) (yh_field Tb rfl rfl rfl) ?_
            refine wd_take (i := 23) [0, 1, 2] rfl rfl rfl rfl rfl (by kernel_rfl) (by kernel_rfl) (fun _ _ _ _ h => h) (yh_loadB Tb (k := 1) rfl rfl rfl rfl rfl) ?_
            refine wd_take (i := 26) [0, 1, 2] rfl rfl rfl rfl rfl (by kernel_rfl) (by kernel_rfl) (fun _ _ _ _ h => h) (yh_field Tb rfl rfl rfl) ?_
            refine wd_take (i := 27) [0, 1, 2] rfl rfl rfl rfl rfl (by kernel_rfl) (by kernel_rfl) (fun _ _ _ _ h => h) (yh_loadB Tb (k := 1) rfl rfl rfl rfl rfl) ?_
            refine wd_take (i := 28) [0, 1, 2] rfl rfl rfl rfl rfl (by kernel_rfl) (by kernel_rfl) (fun _ _ _ _ h => h) (yh_cmpI rfl rfl rfl rfl) ?_
            obtain ⟨x32, hx32, h⟩ := bd h
            refine wd_one 24 rfl rfl (by kernel_rfl) (ow_cV rfl hb36 rfl (fun w hw => c_impl_Flow_at N _ _ _ hx32 w (Lay.at_ h_u0_steps hw)) rfl rfl (kk_wd [0, 1, 2] (by kernel_rfl) ?_))
            refine wd_take (i := 25) [0, 1, 2] rfl rfl rfl rfl rfl (by kernel_rfl) (by kernel_rfl) (fun _ _ _ _ h => h) (yh_cmpI rfl rfl rfl rfl) ?_
            refine wd_take (i := 29) [0, 1, 2] rfl rfl rfl rfl rfl (by kernel_rfl) (by kernel_rfl) (fun _ _ _ _ h => h) (yh_cmpB rfl rfl rfl rfl (by kernel_rfl)) ?_
            refine wd_take (i := 30) [0, 1, 2] rfl rfl rfl rfl rfl (by kernel_rfl) (by kernel_rfl) (fun _ _ _ _ h => h) (yh_pickF rfl rfl rfl) ?_
            refine wd_done (by kernel_rfl) ?_
            refine ex_seq ?_
            refine cw_split rfl (fun cc10 => ?_) (fun cc10 => ?_)
            · skip
              replace h := bt cc10 h
              refine cw_seq ?_
              refine cw_region ?_
              refine wl_u rfl (ow_y (yh_build [.int .i64 0, .slice none 0 0] rfl rfl (by kernel_rfl)) rfl rfl (kk_wl ?_))
              refine wl_u rfl (ow_storeA Tb (k := 0) rfl rfl rfl rfl rfl rfl rfl rfl rfl (kk_wl ?_))
              refine wl_u rfl (ow_y (yh_assign rfl rfl) rfl rfl (kk_wl ?_))
              refine wl_nil ?_
              refine ex_seq ?_
              refine cw_ret ?_
              refine ex_then_ret ?_
              refine ex_nilS stepsL rfl ?_
              obtain rfl := Option.some.inj h
              obtain rfl := go_ret hk102
              exact ex_r2 Tb rfl (.cellA 1 rfl rfl rfl rfl rfl) (.tmp rfl) (fun wq hq => ⟨_, rfl, hq.ext, ⟨none, 0, [], rfl, NewC.sel [0] hq rfl⟩⟩)
            · skip
              replace h := bf cc10 h
              refine cw_skip ?_
              obtain rfl := Option.some.inj h
              exact ex_next [2, 1, 0] (hn102 ((), ()) rfl) ⟨rfl, rfl, rfl, trivial⟩ (by kernel_rfl)

def m_impl_FlowChanges_L8 (N : Nat) (list_ : List Change) : Nat → Int → (List Step) → Nat → Option (Ex (Int × List Step × Nat) (Flow × Bool))
  | 0, _, _, _ => none
  | n + 1, s6_c_0, s6_c_1, s19 => (bif ltb ((s19 : Nat) : Int) ((list_.length : Nat) : Int) then (list_[s19]?).bind fun y21 => (m_impl_FlowChange N (Flow.mk s6_c_0 s6_c_1) y21).bind fun x26 => (bif !x26.2 then some (Ex.ret ((Flow.mk 0 []), false))
 else m_impl_FlowChanges_L8 N list_ n x26.1.ver x26.1.steps (s19 + 1))
 else some (Ex.brk (s6_c_0, s6_c_1, s19)))

def m_impl_FlowChanges (N : Nat) (f : Flow) (list_ : List Change) : Option (Flow × Bool) := (m_impl_FlowValid N f).bind fun x12 => (bif !x12 then some ((Flow.mk 0 []), false)
 else (m_impl_Flow_clone N f).bind fun x16 => (m_impl_FlowChanges_L8 N list_ N x16.ver x16.steps 0).bind fun e8 => e8.go (fun r => r) fun b8 => some ((Flow.mk b8.1 b8.2.1), true))

set_option maxHeartbeats 4000000 in
theorem c_impl_FlowChanges (N : Nat) (f : Flow) (list_ : List Change) (res : Flow × Bool) (h : m_impl_FlowChanges N f list_ = some res) (w : World) {a_f_steps a_list_ : Option Addr} {c_f_steps c_list_ : Nat} (h_f_steps : stepsL.rd w [] [.slice a_f_steps f.steps.length c_f_steps] f.steps) (h_list_ : changesL.rd w [] [.slice a_list_ list_.length c_list_] list_) : Ret Tryz.prog 11 [.agg #[.int .i64 f.ver, .slice a_f_steps f.steps.length c_f_steps], .slice a_list_ list_.length c_list_] w [] fun v w' => ∃ a1 c1 F1, v = .tuple #[.agg #[.int .i64 res.1.ver, .slice a1 res.1.steps.length c1], .bool res.2] ∧ NewC w w' [owC stepsL F1 [.slice a1 res.1.steps.length c1] res.1.steps] := by
  have mh_f_steps := rd_max h_f_steps
  have mh_list_ := rd_max h_list_
  unfold m_impl_FlowChanges at h
  refine ret_enter Tryz.func11 rfl Tryz.ntmps11 rfl (Hp.refl w _) ?_
  refine cw_seq ?_
  refine cw_region ?_
  refine wl_u rfl (ow_boxA rfl rfl rfl rfl (fun g2 => kk_wl ?_))
  refine wl_u rfl (ow_allocA Tb rfl rfl rfl rfl (fun g4 => kk_wl ?_))
  refine wl_u rfl (ow_y (yh_assign rfl rfl) rfl rfl (kk_wl ?_))
  refine wl_nil ?_
  refine ex_seq ?_
  refine cw_seq ?_
  refine cw_seq ?_
  refine cw_region ?_
  refine wl_u rfl (ow_y (yh_loadBA Tb (k := 1) rfl rfl rfl rfl rfl rfl) rfl rfl (kk_wl ?_))
  obtain ⟨x12, hx12, h⟩ := bd h
  refine wl_u rfl (ow_cV rfl hb32 rfl (fun w hw => c_impl_FlowValid N _ _ hx12 w (Lay.at_ h_f_steps hw)) rfl rfl (kk_wl ?_))
  refine wl_u rfl (ow_y (yh_not rfl rfl) rfl rfl (kk_wl ?_))
  refine wl_nil ?_
  refine ex_seq ?_
  refine cw_split rfl (fun cc1 => ?_) (fun cc1 => ?_)
  · skip
    replace h := bt cc1 h
    refine cw_seq ?_
    refine cw_region ?_
    refine wl_u rfl (ow_y (yh_build [.int .i64 0, .slice none 0 0] rfl rfl (by kernel_rfl)) rfl rfl (kk_wl ?_))
    refine wl_u rfl (ow_storeA Tb (k := 0) rfl rfl rfl rfl rfl rfl rfl rfl rfl (kk_wl ?_))
    refine wl_u rfl (ow_y (yh_assign rfl rfl) rfl rfl (kk_wl ?_))
    refine wl_nil ?_
    refine ex_seq ?_
    refine cw_ret ?_
    refine ex_then_ret ?_
    refine ex_nilS stepsL rfl ?_
    obtain rfl := Option.some.inj h
    exact ex_r2 Tb rfl (.cellA 1 rfl rfl rfl rfl rfl) (.tmp rfl) (fun wq hq => ⟨_, rfl, hq.ext, ⟨none, 0, [], rfl, NewC.sel [0] hq rfl⟩⟩)
  · skip
    replace h := bf cc1 h
    refine cw_skip ?_
    refine ex_seq ?_
    refine cw_seq ?_
    refine cw_region ?_
    refine wl_u rfl (ow_y (yh_loadBA Tb (k := 1) rfl rfl rfl rfl rfl rfl) rfl rfl (kk_wl ?_))
    obtain ⟨x16, hx16, h⟩ := bd h
    refine wl_u rfl (ow_cN1 rfl hb48 rfl (fun w hw => c_impl_Flow_clone N _ _ hx16 w (Lay.at_ h_f_steps hw)) rfl rfl (fun a16 c16 F16 => kk_wl ?_))
    refine wl_u rfl (ow_allocA Tb rfl rfl rfl rfl (fun g6 => kk_wl ?_))
    refine wl_u rfl (ow_storeA Tb (k := 0) rfl rfl rfl rfl rfl rfl rfl rfl rfl (kk_wl ?_))
    refine wl_nil ?_
    refine ex_seq ?_
    refine cw_seq ?_
    refine cw_seq ?_
    refine cw_region ?_
    refine wl_u rfl (ow_y (yh_move rfl rfl) rfl rfl (kk_wl ?_))
    refine wl_u rfl (ow_y (yh_lenS Tb rfl rfl rfl rfl) rfl rfl (kk_wl ?_))
    refine wl_u rfl (ow_y (yh_move rfl rfl) rfl rfl (kk_wl ?_))
    refine wl_nil ?_
    refine ex_seq ?_
    refine cw_block ?_
    obtain ⟨e8, he8, hk8⟩ := bd h
    clear h
    refine cw_loopG (σ := Nat × Int × (List Step) × Nat × (Option Addr) × Nat × (List Nat)) (fun s => m_impl_FlowChanges_L8 N list_ s.1 s.2.1 s.2.2.1 s.2.2.2.1 = some e8) (fun s => [(4, .pointer (some ⟨g4, 0, none⟩)), (6, .pointer (some ⟨g6, 0, none⟩)), (17, .slice a_list_ list_.length c_list_), (18, .int .i64 ((list_.length : Nat) : Int)), (19, .int .i64 ((s.2.2.2.1 : Nat) : Int))]) (fun s => [blkC g4 25 [.int .i64 0, .slice none 0 0], blkC g6 25 [.int .i64 s.2.1, .slice s.2.2.2.2.1 s.2.2.1.length s.2.2.2.2.2.1], owC stepsL s.2.2.2.2.2.2 [.slice s.2.2.2.2.1 s.2.2.1.length s.2.2.2.2.2.1] s.2.2.1]) (fun s => s.1) (N, x16.ver, x16.steps, 0, a16, c16, F16) [2, 0, 1] he8 ⟨rfl, rfl, rfl, rfl, rfl, trivial⟩ rfl (fun KL s he8 hn8 => ?_)
    obtain ⟨n8, s6_c_0, s6_c_1, s19, as6_c_1, cs6_c_1, Fs6_c_1⟩ := s
    simp only at he8 hn8 ⊢
    rcases n8 with _ | n8
    · exact nosome he8
    have h := he8; rw [m_impl_FlowChanges_L8] at h
    refine cw_seq ?_
    refine cw_region ?_
    refine wl_u rfl (ow_y (yh_cmpI rfl rfl rfl rfl) rfl rfl (kk_wl ?_))
    refine wl_nil ?_
    refine ex_seq ?_
    refine cw_seq ?_
    refine cw_split rfl (fun cc2 => ?_) (fun cc2 => ?_)
    · skip
      replace h := bt cc2 h
      have q1 := ltb_true.1 cc2
      refine cw_skip ?_
      refine ex_seq ?_
      refine cw_seq ?_
      refine cw_block ?_
      refine cw_seq ?_
      refine cw_region ?_
      obtain ⟨y21, hy21, h⟩ := bd h
      obtain ⟨b21, o21, ha21⟩ := sl_addr h_list_ hy21
      subst ha21
      obtain ⟨a21, e21, hc21, hf21⟩ := get_change h_list_ hy21
      have mx21 := rd_max hf21
      refine wl_u rfl (ow_y (yh_idx Tb (k := s19) rfl rfl rfl rfl (get_lt hy21) rfl rfl) rfl rfl (kk_wl ?_))
      refine wl_u rfl (ow_y (yh_loadAN Tb rfl rfl rfl rfl hc21 rfl) rfl rfl (kk_wl ?_))
      refine wl_u rfl (ow_allocA Tb rfl rfl rfl rfl (fun g8 => kk_wl ?_))
      refine wl_u rfl (ow_storeA Tb (k := 0) rfl rfl rfl rfl rfl rfl rfl rfl rfl (kk_wl ?_))
      refine wl_nil ?_
      refine ex_seq ?_
      refine cw_seq ?_
      refine cw_region ?_
      refine wl_u rfl (ow_y (yh_loadBA Tb (k := 2) rfl rfl rfl rfl rfl rfl) rfl rfl (kk_wl ?_))
      refine wl_u rfl (ow_y (yh_loadBA Tb (k := 0) rfl rfl rfl rfl rfl rfl) rfl rfl (kk_wl ?_))
      obtain ⟨x26, hx26, h⟩ := bd h
      refine wl_u rfl (ow_cN1 rfl hb27 rfl (fun w hw => c_impl_FlowChange N _ _ _ hx26 w (rdo (A := stepsL) 3 rfl hw) (Lay.at_ hf21 hw)) rfl rfl (fun a26 c26 F26 => kk_wl ?_))
      refine wl_u rfl (ow_y (yh_move rfl rfl) rfl rfl (kk_wl ?_))
      refine wl_u rfl (ow_y (yh_extract rfl rfl rfl) rfl rfl (kk_wl ?_))
      refine wl_u rfl (ow_y (yh_extract rfl rfl rfl) rfl rfl (kk_wl ?_))
      refine wl_u rfl (ow_allocA Tb rfl rfl rfl rfl (fun g9 => kk_wl ?_))
      refine wl_u rfl (ow_storeA Tb (k := 0) rfl rfl rfl rfl rfl rfl rfl rfl rfl (kk_wl ?_))
      refine wl_u rfl (ow_y (yh_assign rfl rfl) rfl rfl (kk_wl ?_))
      refine wl_nil ?_
      refine ex_seq ?_
      refine cw_seq ?_
      refine cw_seq ?_
      refine cw_region ?_
      refine wl_u rfl (ow_y (yh_move rfl rfl) rfl rfl (kk_wl ?_))
      refine wl_u rfl (ow_y (yh_not rfl rfl) rfl rfl (kk_wl ?_))
      refine wl_nil ?_
      refine ex_seq ?_
      refine cw_split rfl (fun cc3 => ?_) (fun cc3 => ?_)
      · skip
        replace h := bt cc3 h
        refine cw_seq ?_
        refine cw_region ?_
        refine wl_u rfl (ow_y (yh_build [.int .i64 0, .slice none 0 0] rfl rfl (by kernel_rfl)) rfl rfl (kk_wl ?_))
        refine wl_u rfl (ow_storeA Tb (k := 3) rfl rfl rfl rfl rfl rfl rfl rfl rfl (kk_wl ?_))
        refine wl_u rfl (ow_y (yh_assign rfl rfl) rfl rfl (kk_wl ?_))
        refine wl_nil ?_
        refine ex_seq ?_
        refine cw_ret ?_
        refine ex_then_ret ?_
        refine ex_block_ret ?_
        refine ex_then_ret ?_
        refine ex_then_ret ?_
        refine ex_block_ret ?_
        refine ex_then_ret ?_
        refine ex_nilS stepsL rfl ?_
        obtain rfl := Option.some.inj h
        obtain rfl := go_ret hk8
        exact ex_r2 Tb rfl (.cellA 1 rfl rfl rfl rfl rfl) (.tmp rfl) (fun wq hq => ⟨_, rfl, hq.ext, ⟨none, 0, [], rfl, NewC.sel [0] hq rfl⟩⟩)
      · skip
        replace h := bf cc3 h
        refine cw_skip ?_
        refine ex_seq ?_
        refine cw_region ?_
        refine wl_u rfl (ow_y (yh_loadBA Tb (k := 0) rfl rfl rfl rfl rfl rfl) rfl rfl (kk_wl ?_))
        refine wl_u rfl (ow_storeA Tb (k := 4) rfl rfl rfl rfl rfl rfl rfl rfl rfl (kk_wl ?_))
        refine wl_nil ?_
        refine ex_block_normal ?_
        refine ex_seq ?_
        refine cw_region ?_
        refine wl_u rfl (ow_y (yh_arI rfl rfl rfl rfl (by omega)) rfl rfl (kk_wl ?_))
        refine wl_u rfl (ow_y (yh_move rfl rfl) rfl rfl (kk_wl ?_))
        refine wl_nil ?_
        exact ex_next [4, 0, 2] (hn8 (n8, x26.1.ver, x26.1.steps, s19 + 1, a26, c26, F26) (Nat.lt_succ_self _) h) ⟨rfl, rfl, rfl, rfl, rfl, trivial⟩ (by kernel_rfl)
    · skip
      replace h := bf cc2 h
      have q2 := ltb_false.1 cc2
      refine cw_exit ?_
      refine ex_then_exit ?_
      refine ex_then_exit ?_
      obtain rfl := Option.some.inj h
      have h := go_brk hk8
      refine ex_block_exit ?_
      refine ex_seq ?_
      refine cw_seq ?_
      refine cw_region ?_
      refine wl_u rfl (ow_y (yh_loadBA Tb (k := 1) rfl rfl rfl rfl rfl rfl) rfl rfl (kk_wl ?_))
      refine wl_u rfl (ow_storeA Tb (k := 0) rfl rfl rfl rfl rfl rfl rfl rfl rfl (kk_wl ?_))
      refine wl_u rfl (ow_y (yh_assign rfl rfl) rfl rfl (kk_wl ?_))
      refine wl_nil ?_
      refine ex_seq ?_
      refine cw_ret ?_
      obtain rfl := Option.some.inj h
      exact ex_r2 Tb rfl (.cellA 0 rfl rfl rfl rfl rfl) (.tmp rfl) (fun wq hq => ⟨_, rfl, hq.ext, ⟨as6_c_1, cs6_c_1, Fs6_c_1, rfl, NewC.sel [2] hq rfl⟩⟩)

def m_laws_eqStringS_L8 (N : Nat) (a : List Str) (b : List Str) : Nat → Nat → Option (Ex (Nat) (Bool))
  | 0, _ => none
  | n + 1, s5 => (bif ltb ((s5 : Nat) : Int) ((a.length : Nat) : Int) then (a[s5]?).bind fun y19 => (b[s5]?).bind fun y23 => (bif !(seq y19 y23) then some (Ex.ret false)
 else m_laws_eqStringS_L8 N a b n (s5 + 1))
 else some (Ex.brk (s5)))

def m_laws_eqStringS (N : Nat) (a : List Str) (b : List Str) : Option (Bool) := (bif !(eqb ((a.length : Nat) : Int) ((b.length : Nat) : Int)) then some false
 else (m_laws_eqStringS_L8 N a b N 0).bind fun e8 => e8.go (fun r => r) fun b8 => some true)

set_option maxHeartbeats 4000000 in
theorem c_laws_eqStringS (N : Nat) (a : List Str) (b : List Str) (res : Bool) (h : m_laws_eqStringS N a b = some res) (w : World) {a_a a_b : Option Addr} {c_a c_b : Nat} (h_a : strsL.rd w [] [.slice a_a a.length c_a] a) (h_b : strsL.rd w [] [.slice a_b b.length c_b] b) : Ret Tryz.prog 119 [.slice a_a a.length c_a, .slice a_b b.length c_b] w [] fun v w' => v = .bool res := by
  have mh_a := rd_max h_a
  have mh_b := rd_max h_b
  unfold m_laws_eqStringS at h
  refine ret_enter Tryz.func119 rfl Tryz.ntmps119 rfl (Hp.refl w _) ?_
  refine cw_seq ?_
  refine cw_region ?_
  refine wl_u rfl (ow_y (yh_assign rfl rfl) rfl rfl (kk_wl ?_))
  refine wl_nil ?_
  refine ex_seq ?_
  refine cw_seq ?_
  refine cw_seq ?_
  refine cw_region ?_
  refine wl_u rfl (ow_y (yh_move rfl rfl) rfl rfl (kk_wl ?_))
  refine wl_u rfl (ow_y (yh_lenS Tb rfl rfl rfl rfl) rfl rfl (kk_wl ?_))
  refine wl_u rfl (ow_y (yh_move rfl rfl) rfl rfl (kk_wl ?_))
  refine wl_u rfl (ow_y (yh_lenS Tb rfl rfl rfl rfl) rfl rfl (kk_wl ?_))
  refine wl_u rfl (ow_y (yh_cmpI rfl rfl rfl rfl) rfl rfl (kk_wl ?_))
  refine wl_nil ?_
  refine ex_seq ?_
  refine cw_split rfl (fun cc1 => ?_) (fun cc1 => ?_)
  · skip
    replace h := bt cc1 h
    have q1 := eqb_false.1 (nt cc1)
    refine cw_seq ?_
    refine cw_region ?_
    refine wl_u rfl (ow_y (yh_assign rfl rfl) rfl rfl (kk_wl ?_))
    refine wl_nil ?_
    refine ex_seq ?_
    refine cw_ret ?_
    refine ex_then_ret ?_
    obtain rfl := Option.some.inj h
    exact ex_r1 Tb rfl (.tmp rfl) (fun wq hq => ⟨_, rfl, hq.ext, rfl⟩)
  · skip
    replace h := bf cc1 h
    have q2 := eqb_true.1 (nf cc1)
    refine cw_skip ?_
    refine ex_seq ?_
    refine cw_seq ?_
    refine cw_seq ?_
    refine cw_region ?_
    refine wl_u rfl (ow_y (yh_assign rfl rfl) rfl rfl (kk_wl ?_))
    refine wl_nil ?_
    refine ex_seq ?_
    refine cw_block ?_
    obtain ⟨e8, he8, hk8⟩ := bd h
    clear h
    refine cw_loopG (σ := Nat × Nat) (fun s => m_laws_eqStringS_L8 N a b s.1 s.2 = some e8) (fun s => [(0, .slice a_a a.length c_a), (1, .slice a_b b.length c_b), (5, .int .i64 ((s.2 : Nat) : Int))]) (fun s => []) (fun s => s.1) (N, 0) [] he8 ⟨rfl, rfl, rfl, trivial⟩ rfl (fun KL s he8 hn8 => ?_)
    obtain ⟨n8, s5⟩ := s
    simp only at he8 hn8 ⊢
    rcases n8 with _ | n8
    · exact nosome he8
    have h := he8; rw [m_laws_eqStringS_L8] at h
    refine cw_seq ?_
    refine cw_seq ?_
    refine cw_region ?_
    refine wl_u rfl (ow_y (yh_move rfl rfl) rfl rfl (kk_wl ?_))
    refine wl_u rfl (ow_y (yh_move rfl rfl) rfl rfl (kk_wl ?_))
    refine wl_u rfl (ow_y (yh_lenS Tb rfl rfl rfl rfl) rfl rfl (kk_wl ?_))
    refine wl_u rfl (ow_y (yh_cmpI rfl rfl rfl rfl) rfl rfl (kk_wl ?_))
    refine wl_nil ?_
    refine ex_seq ?_
    refine cw_split rfl (fun cc2 => ?_) (fun cc2 => ?_)
    · skip
      replace h := bt cc2 h
      have q3 := ltb_true.1 cc2
      refine cw_skip ?_
      refine ex_seq ?_
      refine cw_seq ?_
      refine cw_block ?_
      refine cw_seq ?_
      refine cw_dr [0, 1, 2, 3, 4, 5, 6, 7, 8] [] [] (by kernel_rfl) ?_
      refine wd_take (i := 0) [] rfl rfl rfl rfl rfl (by kernel_rfl) (by kernel_rfl) (fun _ _ _ _ h => h) (yh_move rfl rfl) ?_
      refine wd_take (i := 1) [] rfl rfl rfl rfl rfl (by kernel_rfl) (by kernel_rfl) (fun _ _ _ _ h => h) (yh_move rfl rfl) ?_
      obtain ⟨y19, hy19, h⟩ := bd h
      obtain ⟨b19, o19, ha19⟩ := sl_addr h_a hy19
      subst ha19
      have hc19 := get_str h_a hy19
      refine wd_take (i := 2) [] rfl rfl rfl rfl rfl (by kernel_rfl) (by kernel_rfl) (fun _ _ _ _ h => h) (yh_idx Tb (k := s5) rfl rfl rfl rfl (get_lt hy19) rfl rfl) ?_
      refine wd_take (i := 3) [] rfl rfl rfl rfl rfl (by kernel_rfl) (by kernel_rfl) (fun _ _ _ _ h => h) (yh_loadA0 Tb rfl rfl rfl hc19 rfl) ?_
      refine wd_take (i := 4) [] rfl rfl rfl rfl rfl (by kernel_rfl) (by kernel_rfl) (fun _ _ _ _ h => h) (yh_move rfl rfl) ?_
      refine wd_take (i := 5) [] rfl rfl rfl rfl rfl (by kernel_rfl) (by kernel_rfl) (fun _ _ _ _ h => h) (yh_move rfl rfl) ?_
      obtain ⟨y23, hy23, h⟩ := bd h
      obtain ⟨b23, o23, ha23⟩ := sl_addr h_b hy23
      subst ha23
      have hc23 := get_str h_b hy23
      refine wd_take (i := 6) [] rfl rfl rfl rfl rfl (by kernel_rfl) (by kernel_rfl) (fun _ _ _ _ h => h) (yh_idx Tb (k := s5) rfl rfl rfl rfl (get_lt hy23) rfl rfl) ?_
      refine wd_take (i := 7) [] rfl rfl rfl rfl rfl (by kernel_rfl) (by kernel_rfl) (fun _ _ _ _ h => h) (yh_loadA0 Tb rfl rfl rfl hc23 rfl) ?_
      refine wd_take (i := 8) [] rfl rfl rfl rfl rfl (by kernel_rfl) (by kernel_rfl) (fun _ _ _ _ h => h) (yh_cmpS rfl rfl rfl rfl) ?_
      refine wd_done (by kernel_rfl) ?_
      refine ex_seq ?_
      refine cw_split rfl (fun cc3 => ?_) (fun cc3 => ?_)
      · skip
        replace h := bt cc3 h
        refine cw_seq ?_
        refine cw_region ?_
        refine wl_u rfl (ow_y (yh_assign rfl rfl) rfl rfl (kk_wl ?_))
        refine wl_nil ?_
        refine ex_seq ?_
        refine cw_ret ?_
        refine ex_block_ret ?_
        refine ex_then_ret ?_
        refine ex_then_ret ?_
        refine ex_block_ret ?_
        refine ex_then_ret ?_
        obtain rfl := Option.some.inj h
        obtain rfl := go_ret hk8
        exact ex_r1 Tb rfl (.tmp rfl) (fun wq hq => ⟨_, rfl, hq.ext, rfl⟩)
      · skip
        replace h := bf cc3 h
        refine cw_skip ?_
        refine ex_block_normal ?_
        refine ex_seq ?_
        refine cw_region ?_
        refine wl_u rfl (ow_y (yh_move rfl rfl) rfl rfl (kk_wl ?_))
        refine wl_u rfl (ow_y (yh_arI rfl rfl rfl rfl (by omega)) rfl rfl (kk_wl ?_))
        refine wl_u rfl (ow_y (yh_assign rfl rfl) rfl rfl (kk_wl ?_))
        refine wl_nil ?_
        exact ex_next [] (hn8 (n8, s5 + 1) (Nat.lt_succ_self _) h) ⟨rfl, rfl, rfl, trivial⟩ (by kernel_rfl)
    · skip
      replace h := bf cc2 h
      have q4 := ltb_false.1 cc2
      refine cw_exit ?_
      refine ex_then_exit ?_
      refine ex_then_exit ?_
      obtain rfl := Option.some.inj h
      have h := go_brk hk8
      refine ex_block_exit ?_
      refine ex_seq ?_
      refine cw_seq ?_
      refine cw_region ?_
      refine wl_u rfl (ow_y (yh_assign rfl rfl) rfl rfl (kk_wl ?_))
      refine wl_nil ?_
      refine ex_seq ?_
      refine cw_ret ?_
      obtain rfl := Option.some.inj h
      exact ex_r1 Tb rfl (.tmp rfl) (fun wq hq => ⟨_, rfl, hq.ext, rfl⟩)

def m_laws_eqStep (N : Nat) (a : Step) (b : Step) : Option (Bool) := (bif !(seq a.name b.name) then some false
 else (m_laws_eqStringS N a.after b.after).bind fun x14 => (bif !x14 then some false
 else (bif a.undo != b.undo then some false
 else some true)))

set_option maxHeartbeats 4000000 in
theorem c_laws_eqStep (N : Nat) (a : Step) (b : Step) (res : Bool) (h : m_laws_eqStep N a b = some res) (w : World) {a_a_after a_b_after : Option Addr} {c_a_after c_b_after : Nat} (h_a_after : strsL.rd w [] [.slice a_a_after a.after.length c_a_after] a.after) (h_b_after : strsL.rd w [] [.slice a_b_after b.after.length c_b_after] b.after) : Ret Tryz.prog 93 [.agg #[.string a.name, .slice a_a_after a.after.length c_a_after, .bool a.undo], .agg #[.string b.name, .slice a_b_after b.after.length c_b_after, .bool b.undo]] w [] fun v w' => v = .bool res := by
  have mh_a_after := rd_max h_a_after
  have mh_b_after := rd_max h_b_after
  unfold m_laws_eqStep at h
  refine ret_enter Tryz.func93 rfl Tryz.ntmps93 rfl (Hp.refl w _) ?_
  refine cw_seq ?_
  refine cw_region ?_
  refine wl_u rfl (ow_boxA rfl rfl rfl rfl (fun g2 => kk_wl ?_))
  refine wl_u rfl (ow_boxA rfl rfl rfl rfl (fun g3 => kk_wl ?_))
  refine wl_u rfl (ow_y (yh_assign rfl rfl) rfl rfl (kk_wl ?_))
  refine wl_nil ?_
  refine ex_seq ?_
  refine cw_seq ?_
  refine cw_seq ?_
  refine cw_region ?_
  refine wl_u rfl (ow_y (yh_field Tb rfl rfl rfl) rfl rfl (kk_wl ?_))
  refine wl_u rfl (ow_y (yh_loadB Tb (k := 1) rfl rfl rfl rfl rfl) rfl rfl (kk_wl ?_))
  refine wl_u rfl (ow_y (yh_field Tb rfl rfl rfl) rfl rfl (kk_wl ?_))
  refine wl_u rfl (ow_y (yh_loadB Tb (k := 0) rfl rfl rfl rfl rfl) rfl rfl (kk_wl ?_))
  refine wl_u rfl (ow_y (yh_cmpS rfl rfl rfl rfl) rfl rfl (kk_wl ?_))
  refine wl_nil ?_
  refine ex_seq ?_
  refine cw_split rfl (fun cc1 => ?_) (fun cc1 => ?_)
  · skip
    replace h := bt cc1 h
    refine cw_seq ?_
    refine cw_region ?_
    refine wl_u rfl (ow_y (yh_assign rfl rfl) rfl rfl (kk_wl ?_))
    refine wl_nil ?_
    refine ex_seq ?_
    refine cw_ret ?_
    refine ex_then_ret ?_
    obtain rfl := Option.some.inj h
    exact ex_r1 Tb rfl (.tmp rfl) (fun wq hq => ⟨_, rfl, hq.ext, rfl⟩)
  · skip
    replace h := bf cc1 h
    refine cw_skip ?_
    refine ex_seq ?_
    refine cw_seq ?_
    refine cw_seq ?_
    refine cw_region ?_
    refine wl_u rfl (ow_y (yh_field Tb rfl rfl rfl) rfl rfl (kk_wl ?_))
    refine wl_u rfl (ow_y (yh_loadB Tb (k := 1) rfl rfl rfl rfl rfl) rfl rfl (kk_wl ?_))
    refine wl_u rfl (ow_y (yh_field Tb rfl rfl rfl) rfl rfl (kk_wl ?_))
    refine wl_u rfl (ow_y (yh_loadB Tb (k := 0) rfl rfl rfl rfl rfl) rfl rfl (kk_wl ?_))
    obtain ⟨x14, hx14, h⟩ := bd h
    refine wl_u rfl (ow_cV rfl hb119 rfl (fun w hw => c_laws_eqStringS N _ _ _ hx14 w (Lay.at_ h_a_after hw) (Lay.at_ h_b_after hw)) rfl rfl (kk_wl ?_))
    refine wl_u rfl (ow_y (yh_not rfl rfl) rfl rfl (kk_wl ?_))
    refine wl_nil ?_
    refine ex_seq ?_
    refine cw_split rfl (fun cc2 => ?_) (fun cc2 => ?_)
    · skip
      replace h := bt cc2 h
      refine cw_seq ?_
      refine cw_region ?_
      refine wl_u rfl (ow_y (yh_assign rfl rfl) rfl rfl (kk_wl ?_))
      refine wl_nil ?_
      refine ex_seq ?_
      refine cw_ret ?_
      refine ex_then_ret ?_
      obtain rfl := Option.some.inj h
      exact ex_r1 Tb rfl (.tmp rfl) (fun wq hq => ⟨_, rfl, hq.ext, rfl⟩)
    · skip
      replace h := bf cc2 h
      refine cw_skip ?_
      refine ex_seq ?_
      refine cw_seq ?_
      refine cw_seq ?_
      refine cw_region ?_
      refine wl_u rfl (ow_y (yh_field Tb rfl rfl rfl) rfl rfl (kk_wl ?_))
      refine wl_u rfl (ow_y (yh_loadB Tb (k := 1) rfl rfl rfl rfl rfl) rfl rfl (kk_wl ?_))
      refine wl_u rfl (ow_y (yh_field Tb rfl rfl rfl) rfl rfl (kk_wl ?_))
      refine wl_u rfl (ow_y (yh_loadB Tb (k := 0) rfl rfl rfl rfl rfl) rfl rfl (kk_wl ?_))
      refine wl_u rfl (ow_y (yh_cmpB rfl rfl rfl rfl (by kernel_rfl)) rfl rfl (kk_wl ?_))
      refine wl_nil ?_
      refine ex_seq ?_
      refine cw_split rfl (fun cc3 => ?_) (fun cc3 => ?_)
      · skip
        replace h := bt cc3 h
        refine cw_seq ?_
        refine cw_region ?_
        refine wl_u rfl (ow_y (yh_assign rfl rfl) rfl rfl (kk_wl ?_))
        refine wl_nil ?_
        refine ex_seq ?_
        refine cw_ret ?_
        refine ex_then_ret ?_
        obtain rfl := Option.some.inj h
        exact ex_r1 Tb rfl (.tmp rfl) (fun wq hq => ⟨_, rfl, hq.ext, rfl⟩)
      · skip
        replace h := bf cc3 h
        refine cw_skip ?_
        refine ex_seq ?_
        refine cw_seq ?_
        refine cw_region ?_
        refine wl_u rfl (ow_y (yh_assign rfl rfl) rfl rfl (kk_wl ?_))
        refine wl_nil ?_
        refine ex_seq ?_
        refine cw_ret ?_
        obtain rfl := Option.some.inj h
        exact ex_r1 Tb rfl (.tmp rfl) (fun wq hq => ⟨_, rfl, hq.ext, rfl⟩)

def m_laws_eqStepS_L8 (N : Nat) (a : List Step) (b : List Step) : Nat → Nat → Option (Ex (Nat) (Bool))
  | 0, _ => none
  | n + 1, s5 => (bif ltb ((s5 : Nat) : Int) ((a.length : Nat) : Int) then (a[s5]?).bind fun y19 => (b[s5]?).bind fun y23 => (m_laws_eqStep N y19 y23).bind fun x25 => (bif !x25 then some (Ex.ret false)
 else m_laws_eqStepS_L8 N a b n (s5 + 1))
 else some (Ex.brk (s5)))

def m_laws_eqStepS (N : Nat) (a : List Step) (b : List Step) : Option (Bool) := (bif !(eqb ((a.length : Nat) : Int) ((b.length : Nat) : Int)) then some false
 else (m_laws_eqStepS_L8 N a b N 0).bind fun e8 => e8.go (fun r => r) fun b8 => some true)

set_option maxHeartbeats 4000000 in
theorem c_laws_eqStepS (N : Nat) (a : List Step) (b : List Step) (res : Bool) (h : m_laws_eqStepS N a b = some res) (w : World) {a_a a_b : Option Addr} {c_a c_b : Nat} (h_a : stepsL.rd w [] [.slice a_a a.length c_a] a) (h_b : stepsL.rd w [] [.slice a_b b.length c_b] b) : Ret Tryz.prog 57 [.slice a_a a.length c_a, .slice a_b b.length c_b] w [] fun v w' => v = .bool res := by
  have mh_a := rd_max h_a
  have mh_b := rd_max h_b
  unfold m_laws_eqStepS at h
  refine ret_enter Tryz.func57 rfl Tryz.ntmps57 rfl (Hp.refl w _) ?_
  refine cw_seq ?_
  refine cw_region ?_
  refine wl_u rfl (ow_y (yh_assign rfl rfl) rfl rfl (kk_wl ?_))
  refine wl_nil ?_
  refine ex_seq ?_
  refine cw_seq ?_
  refine cw_seq ?_
  refine cw_region ?_
  refine wl_u rfl (ow_y (yh_move rfl rfl) rfl rfl (kk_wl ?_))
  refine wl_u rfl (ow_y (yh_lenS Tb rfl rfl rfl rfl) rfl rfl (kk_wl ?_))
  refine wl_u rfl (ow_y (yh_move rfl rfl) rfl rfl (kk_wl ?_))
  refine wl_u rfl (ow_y (yh_lenS Tb rfl rfl rfl rfl) rfl rfl (kk_wl ?_))
  refine wl_u rfl (ow_y (yh_cmpI rfl rfl rfl rfl) rfl rfl (kk_wl ?_))
  refine wl_nil ?_
  refine ex_seq ?_
  refine cw_split rfl (fun cc1 => ?_) (fun cc1 => ?_)
  · skip
    replace h := bt cc1 h
    have q1 := eqb_false.1 (nt cc1)
    refine cw_seq ?_
    refine cw_region ?_
    refine wl_u rfl (ow_y (yh_assign rfl rfl) rfl rfl (kk_wl ?_))
    refine wl_nil ?_
    refine ex_seq ?_
    refine cw_ret ?_
    refine ex_then_ret ?_
    obtain rfl := Option.some.inj h
    exact ex_r1 Tb rfl (.tmp rfl) (fun wq hq => ⟨_, rfl, hq.ext, rfl⟩)
  · skip
    replace h := bf cc1 h
    have q2 := eqb_true.1 (nf cc1)
    refine cw_skip ?_
    refine ex_seq ?_
    refine cw_seq ?_
    refine cw_seq ?_
    refine cw_region ?_
    refine wl_u rfl (ow_y (yh_assign rfl rfl) rfl rfl (kk_wl ?_))
    refine wl_nil ?_
    refine ex_seq ?_
    refine cw_block ?_
    obtain ⟨e8, he8, hk8⟩ := bd h
    clear h
    refine cw_loopG (σ := Nat × Nat) (fun s => m_laws_eqStepS_L8 N a b s.1 s.2 = some e8) (fun s => [(0, .slice a_a a.length c_a), (1, .slice a_b b.length c_b), (5, .int .i64 ((s.2 : Nat) : Int))]) (fun s => []) (fun s => s.1) (N, 0) [] he8 ⟨rfl, rfl, rfl, trivial⟩ rfl (fun KL s he8 hn8 => ?_)
    obtain ⟨n8, s5⟩ := s
    simp only at he8 hn8 ⊢
    rcases n8 with _ | n8
    · exact nosome he8
    have h := he8; rw [m_laws_eqStepS_L8] at h
    refine cw_seq ?_
    refine cw_seq ?_
    refine cw_region ?_
    refine wl_u rfl (ow_y (yh_move rfl rfl) rfl rfl (kk_wl ?_))
    refine wl_u rfl (ow_y (yh_move rfl rfl) rfl rfl (kk_wl ?_))
    refine wl_u rfl (ow_y (yh_lenS Tb rfl rfl rfl rfl) rfl rfl (kk_wl ?_))
    refine wl_u rfl (ow_y (yh_cmpI rfl rfl rfl rfl) rfl rfl (kk_wl ?_))
    refine wl_nil ?_
    refine ex_seq ?_
    refine cw_split rfl (fun cc2 => ?_) (fun cc2 => ?_)
    · skip
      replace h := bt cc2 h
      have q3 := ltb_true.1 cc2
      refine cw_skip ?_
      refine ex_seq ?_
      refine cw_seq ?_
      refine cw_block ?_
      refine cw_seq ?_
      refine cw_dr [0, 1, 2, 3, 4, 5, 6, 7, 9] [] [] (by kernel_rfl) ?_
      refine wd_take (i := 0) [] rfl rfl rfl rfl rfl (by kernel_rfl) (by kernel_rfl) (fun _ _ _ _ h => h) (yh_move rfl rfl) ?_
      refine wd_take (i := 1) [] rfl rfl rfl rfl rfl (by kernel_rfl) (by kernel_rfl) (fun _ _ _ _ h => h) (yh_move rfl rfl) ?_
      obtain ⟨y19, hy19, h⟩ := bd h
      obtain ⟨b19, o19, ha19⟩ := sl_addr h_a hy19
      subst ha19
      obtain ⟨a19, e19, hc19, hf19⟩ := get_step h_a hy19
      have mx19 := rd_max hf19
      refine wd_take (i := 2) [] rfl rfl rfl rfl rfl (by kernel_rfl) (by kernel_rfl) (fun _ _ _ _ h => h) (yh_idx Tb (k := s5) rfl rfl rfl rfl (get_lt hy19) rfl rfl) ?_
      refine wd_take (i := 3) [] rfl rfl rfl rfl rfl (by kernel_rfl) (by kernel_rfl) (fun _ _ _ _ h => h) (yh_loadAN Tb rfl rfl rfl rfl hc19 rfl) ?_
      refine wd_take (i := 4) [] rfl rfl rfl rfl rfl (by kernel_rfl) (by kernel_rfl) (fun _ _ _ _ h => h) (yh_move rfl rfl) ?_
      refine wd_take (i := 5) [] rfl rfl rfl rfl rfl (by kernel_rfl) (by kernel_rfl) (fun _ _ _ _ h => h) (yh_move rfl rfl) ?_
      obtain ⟨y23, hy23, h⟩ := bd h
      obtain ⟨b23, o23, ha23⟩ := sl_addr h_b hy23
      subst ha23
      obtain ⟨a23, e23, hc23, hf23⟩ := get_step h_b hy23
      have mx23 := rd_max hf23
      refine wd_take (i := 6) [] rfl rfl rfl rfl rfl (by kernel_rfl) (by kernel_rfl) (fun _ _ _ _ h => h) (yh_idx Tb (k := s5) rfl rfl rfl rfl (get_lt hy23) rfl rfl) ?_
      refine wd_take (i := 7) [] rfl rfl rfl rfl rfl (by kernel_rfl) (by kernel_rfl) (fun _ _ _ _ h => h) (yh_loadAN Tb rfl rfl rfl rfl hc23 rfl) ?_
      obtain ⟨x25, hx25, h⟩ := bd h
      refine wd_one 8 rfl rfl (by kernel_rfl) (ow_cV rfl hb93 rfl (fun w hw => c_laws_eqStep N _ _ _ hx25 w (Lay.at_ hf19 hw) (Lay.at_ hf23 hw)) rfl rfl (kk_wd [] (by kernel_rfl) ?_))
      refine wd_take (i := 9) [] rfl rfl rfl rfl rfl (by kernel_rfl) (by kernel_rfl) (fun _ _ _ _ h => h) (yh_not rfl rfl) ?_
      refine wd_done (by kernel_rfl) ?_
      refine ex_seq ?_
      refine cw_split rfl (fun cc3 => ?_) (fun cc3 => ?_)
      · skip
        replace h := bt cc3 h
        refine cw_seq ?_
        refine cw_region ?_
        refine wl_u rfl (ow_y (yh_assign rfl rfl) rfl rfl (kk_wl ?_))
        refine wl_nil ?_
        refine ex_seq ?_
        refine cw_ret ?_
        refine ex_block_ret ?_
        refine ex_then_ret ?_
        refine ex_then_ret ?_
        refine ex_block_ret ?_
        refine ex_then_ret ?_
        obtain rfl := Option.some.inj h
        obtain rfl := go_ret hk8
        exact ex_r1 Tb rfl (.tmp rfl) (fun wq hq => ⟨_, rfl, hq.ext, rfl⟩)
      · skip
        replace h := bf cc3 h
        refine cw_skip ?_
        refine ex_block_normal ?_
        refine ex_seq ?_
        refine cw_region ?_
        refine wl_u rfl (ow_y (yh_move rfl rfl) rfl rfl (kk_wl ?_))
        refine wl_u rfl (ow_y (yh_arI rfl rfl rfl rfl (by omega)) rfl rfl (kk_wl ?_))
        refine wl_u rfl (ow_y (yh_assign rfl rfl) rfl rfl (kk_wl ?_))
        refine wl_nil ?_
        exact ex_next [] (hn8 (n8, s5 + 1) (Nat.lt_succ_self _) h) ⟨rfl, rfl, rfl, trivial⟩ (by kernel_rfl)
    · skip
      replace h := bf cc2 h
      have q4 := ltb_false.1 cc2
      refine cw_exit ?_
      refine ex_then_exit ?_
      refine ex_then_exit ?_
      obtain rfl := Option.some.inj h
      have h := go_brk hk8
      refine ex_block_exit ?_
      refine ex_seq ?_
      refine cw_seq ?_
      refine cw_region ?_
      refine wl_u rfl (ow_y (yh_assign rfl rfl) rfl rfl (kk_wl ?_))
      refine wl_nil ?_
      refine ex_seq ?_
      refine cw_ret ?_
      obtain rfl := Option.some.inj h
      exact ex_r1 Tb rfl (.tmp rfl) (fun wq hq => ⟨_, rfl, hq.ext, rfl⟩)

def m_laws_eqFlow (N : Nat) (a : Flow) (b : Flow) : Option (Bool) := (bif !(eqb a.ver b.ver) then some false
 else (m_laws_eqStepS N a.steps b.steps).bind fun x14 => (bif !x14 then some false
 else some true))

set_option maxHeartbeats 4000000 in
theorem c_laws_eqFlow (N : Nat) (a : Flow) (b : Flow) (res : Bool) (h : m_laws_eqFlow N a b = some res) (w : World) {a_a_steps a_b_steps : Option Addr} {c_a_steps c_b_steps : Nat} (h_a_steps : stepsL.rd w [] [.slice a_a_steps a.steps.length c_a_steps] a.steps) (h_b_steps : stepsL.rd w [] [.slice a_b_steps b.steps.length c_b_steps] b.steps) : Ret Tryz.prog 18 [.agg #[.int .i64 a.ver, .slice a_a_steps a.steps.length c_a_steps], .agg #[.int .i64 b.ver, .slice a_b_steps b.steps.length c_b_steps]] w [] fun v w' => v = .bool res := by
  have mh_a_steps := rd_max h_a_steps
  have mh_b_steps := rd_max h_b_steps
  unfold m_laws_eqFlow at h
  refine ret_enter Tryz.func18 rfl Tryz.ntmps18 rfl (Hp.refl w _) ?_
  refine cw_seq ?_
  refine cw_region ?_
  refine wl_u rfl (ow_boxA rfl rfl rfl rfl (fun g2 => kk_wl ?_))
  refine wl_u rfl (ow_boxA rfl rfl rfl rfl (fun g3 => kk_wl ?_))
  refine wl_u rfl (ow_y (yh_assign rfl rfl) rfl rfl (kk_wl ?_))
  refine wl_nil ?_
  refine ex_seq ?_
  refine cw_seq ?_
  refine cw_seq ?_
  refine cw_region ?_
  refine wl_u rfl (ow_y (yh_field Tb rfl rfl rfl) rfl rfl (kk_wl ?_))
  refine wl_u rfl (ow_y (yh_loadB Tb (k := 1) rfl rfl rfl rfl rfl) rfl rfl (kk_wl ?_))
  refine wl_u rfl (ow_y (yh_field Tb rfl rfl rfl) rfl rfl (kk_wl ?_))
  refine wl_u rfl (ow_y (yh_loadB Tb (k := 0) rfl rfl rfl rfl rfl) rfl rfl (kk_wl ?_))
  refine wl_u rfl (ow_y (yh_cmpI rfl rfl rfl rfl) rfl rfl (kk_wl ?_))
  refine wl_nil ?_
  refine ex_seq ?_
  refine cw_split rfl (fun cc1 => ?_) (fun cc1 => ?_)
  · skip
    replace h := bt cc1 h
    have q1 := eqb_false.1 (nt cc1)
    refine cw_seq ?_
    refine cw_region ?_
    refine wl_u rfl (ow_y (yh_assign rfl rfl) rfl rfl (kk_wl ?_))
    refine wl_nil ?_
    refine ex_seq ?_
    refine cw_ret ?_
    refine ex_then_ret ?_
    obtain rfl := Option.some.inj h
    exact ex_r1 Tb rfl (.tmp rfl) (fun wq hq => ⟨_, rfl, hq.ext, rfl⟩)
  · skip
    replace h := bf cc1 h
    have q2 := eqb_true.1 (nf cc1)
    refine cw_skip ?_
    refine ex_seq ?_
    refine cw_seq ?_
    refine cw_seq ?_
    refine cw_region ?_
    refine wl_u rfl (ow_y (yh_field Tb rfl rfl rfl) rfl rfl (kk_wl ?_))
    refine wl_u rfl (ow_y (yh_loadB Tb (k := 1) rfl rfl rfl rfl rfl) rfl rfl (kk_wl ?_))
    refine wl_u rfl (ow_y (yh_field Tb rfl rfl rfl) rfl rfl (kk_wl ?_))
    refine wl_u rfl (ow_y (yh_loadB Tb (k := 0) rfl rfl rfl rfl rfl) rfl rfl (kk_wl ?_))
    obtain ⟨x14, hx14, h⟩ := bd h
    refine wl_u rfl (ow_cV rfl hb57 rfl (fun w hw => c_laws_eqStepS N _ _ _ hx14 w (Lay.at_ h_a_steps hw) (Lay.at_ h_b_steps hw)) rfl rfl (kk_wl ?_))
    refine wl_u rfl (ow_y (yh_not rfl rfl) rfl rfl (kk_wl ?_))
    refine wl_nil ?_
    refine ex_seq ?_
    refine cw_split rfl (fun cc2 => ?_) (fun cc2 => ?_)
    · skip
      replace h := bt cc2 h
      refine cw_seq ?_
      refine cw_region ?_
      refine wl_u rfl (ow_y (yh_assign rfl rfl) rfl rfl (kk_wl ?_))
      refine wl_nil ?_
      refine ex_seq ?_
      refine cw_ret ?_
      refine ex_then_ret ?_
      obtain rfl := Option.some.inj h
      exact ex_r1 Tb rfl (.tmp rfl) (fun wq hq => ⟨_, rfl, hq.ext, rfl⟩)
    · skip
      replace h := bf cc2 h
      refine cw_skip ?_
      refine ex_seq ?_
      refine cw_seq ?_
      refine cw_region ?_
      refine wl_u rfl (ow_y (yh_assign rfl rfl) rfl rfl (kk_wl ?_))
      refine wl_nil ?_
      refine ex_seq ?_
      refine cw_ret ?_
      obtain rfl := Option.some.inj h
      exact ex_r1 Tb rfl (.tmp rfl) (fun wq hq => ⟨_, rfl, hq.ext, rfl⟩)

def m_laws_eqChange (N : Nat) (a : Change) (b : Change) : Option (Bool) := (bif !(eqb a.kind b.kind) then some false
 else (m_laws_eqStep N a.step b.step).bind fun x14 => (bif !x14 then some false
 else some true))

set_option maxHeartbeats 4000000 in
theorem c_laws_eqChange (N : Nat) (a : Change) (b : Change) (res : Bool) (h : m_laws_eqChange N a b = some res) (w : World) {a_a_step_after a_b_step_after : Option Addr} {c_a_step_after c_b_step_after : Nat} (h_a_step_after : strsL.rd w [] [.slice a_a_step_after a.step.after.length c_a_step_after] a.step.after) (h_b_step_after : strsL.rd w [] [.slice a_b_step_after b.step.after.length c_b_step_after] b.step.after) : Ret Tryz.prog 58 [.agg #[.int .i64 a.kind, .string a.step.name, .slice a_a_step_after a.step.after.length c_a_step_after, .bool a.step.undo], .agg #[.int .i64 b.kind, .string b.step.name, .slice a_b_step_after b.step.after.length c_b_step_after, .bool b.step.undo]] w [] fun v w' => v = .bool res := by
  have mh_a_step_after := rd_max h_a_step_after
  have mh_b_step_after := rd_max h_b_step_after
  unfold m_laws_eqChange at h
  refine ret_enter Tryz.func58 rfl Tryz.ntmps58 rfl (Hp.refl w _) ?_
  refine cw_seq ?_
  refine cw_region ?_
  refine wl_u rfl (ow_boxA rfl rfl rfl rfl (fun g2 => kk_wl ?_))
  refine wl_u rfl (ow_boxA rfl rfl rfl rfl (fun g3 => kk_wl ?_))
  refine wl_u rfl (ow_y (yh_assign rfl rfl) rfl rfl (kk_wl ?_))
  refine wl_nil ?_
  refine ex_seq ?_
  refine cw_seq ?_
  refine cw_seq ?_
  refine cw_region ?_
  refine wl_u rfl (ow_y (yh_field Tb rfl rfl rfl) rfl rfl (kk_wl ?_))
  refine wl_u rfl (ow_y (yh_loadB Tb (k := 1) rfl rfl rfl rfl rfl) rfl rfl (kk_wl ?_))
  refine wl_u rfl (ow_y (yh_field Tb rfl rfl rfl) rfl rfl (kk_wl ?_))
  refine wl_u rfl (ow_y (yh_loadB Tb (k := 0) rfl rfl rfl rfl rfl) rfl rfl (kk_wl ?_))
  refine wl_u rfl (ow_y (yh_cmpI rfl rfl rfl rfl) rfl rfl (kk_wl ?_))
  refine wl_nil ?_
  refine ex_seq ?_
  refine cw_split rfl (fun cc1 => ?_) (fun cc1 => ?_)
  · skip
    replace h := bt cc1 h
    have q1 := eqb_false.1 (nt cc1)
    refine cw_seq ?_
    refine cw_region ?_
    refine wl_u rfl (ow_y (yh_assign rfl rfl) rfl rfl (kk_wl ?_))
    refine wl_nil ?_
    refine ex_seq ?_
    refine cw_ret ?_
    refine ex_then_ret ?_
    obtain rfl := Option.some.inj h
    exact ex_r1 Tb rfl (.tmp rfl) (fun wq hq => ⟨_, rfl, hq.ext, rfl⟩)
  · skip
    replace h := bf cc1 h
    have q2 := eqb_true.1 (nf cc1)
    refine cw_skip ?_
    refine ex_seq ?_
    refine cw_seq ?_
    refine cw_seq ?_
    refine cw_region ?_
    refine wl_u rfl (ow_y (yh_field Tb rfl rfl rfl) rfl rfl (kk_wl ?_))
    refine wl_u rfl (ow_y (yh_loadBN Tb (k := 1) rfl rfl rfl rfl rfl rfl rfl) rfl rfl (kk_wl ?_))
    refine wl_u rfl (ow_y (yh_field Tb rfl rfl rfl) rfl rfl (kk_wl ?_))
    refine wl_u rfl (ow_y (yh_loadBN Tb (k := 0) rfl rfl rfl rfl rfl rfl rfl) rfl rfl (kk_wl ?_))
    obtain ⟨x14, hx14, h⟩ := bd h
    refine wl_u rfl (ow_cV rfl hb93 rfl (fun w hw => c_laws_eqStep N _ _ _ hx14 w (Lay.at_ h_a_step_after hw) (Lay.at_ h_b_step_after hw)) rfl rfl (kk_wl ?_))
    refine wl_u rfl (ow_y (yh_not rfl rfl) rfl rfl (kk_wl ?_))
    refine wl_nil ?_
    refine ex_seq ?_
    refine cw_split rfl (fun cc2 => ?_) (fun cc2 => ?_)
    · skip
      replace h := bt cc2 h
      refine cw_seq ?_
      refine cw_region ?_
      refine wl_u rfl (ow_y (yh_assign rfl rfl) rfl rfl (kk_wl ?_))
      refine wl_nil ?_
      refine ex_seq ?_
      refine cw_ret ?_
      refine ex_then_ret ?_
      obtain rfl := Option.some.inj h
      exact ex_r1 Tb rfl (.tmp rfl) (fun wq hq => ⟨_, rfl, hq.ext, rfl⟩)
    · skip
      replace h := bf cc2 h
      refine cw_skip ?_
      refine ex_seq ?_
      refine cw_seq ?_
      refine cw_region ?_
      refine wl_u rfl (ow_y (yh_assign rfl rfl) rfl rfl (kk_wl ?_))
      refine wl_nil ?_
      refine ex_seq ?_
      refine cw_ret ?_
      obtain rfl := Option.some.inj h
      exact ex_r1 Tb rfl (.tmp rfl) (fun wq hq => ⟨_, rfl, hq.ext, rfl⟩)

end Go.Proofs.YtmnhnldnnniglaaGreat
