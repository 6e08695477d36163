/- Mirrors and contracts, printed by a program: what each function computes as a plain term, and that it does. -/
import Derived.Test.YtlcckcifnpjbpaaR
import Derived.Test.YtlcckcifnpjbpaaC
import Derived.Test.YtlcckcifnpjbpaaWB0
set_option linter.all false
set_option maxRecDepth 100000
namespace Go.Proofs.Ytlcckcifnpjbpaa
open Go.RowKit

def m_impl_cloneFlows_L5 (N : Nat) (list_ : List Flow) : Nat → (List Flow) → Nat → Option (Ex (List Flow × Nat) (List Flow))
  | 0, _, _ => none
  | n + 1, s3, s8 => (bif ltb ((s8 : Nat) : Int) ((list_.length : Nat) : Int) then (list_[s8]?).bind fun y10 => (m_impl_Flow_clone N y10).bind fun x14 => (appd s3 [x14]).bind fun l16 => m_impl_cloneFlows_L5 N list_ n (s3 ++ [x14]) (s8 + 1)
 else some (Ex.brk (s3, s8)))

def m_impl_cloneFlows (N : Nat) (list_ : List Flow) : Option (List Flow) := (m_impl_cloneFlows_L5 N list_ N ([] : List Flow) 0).bind fun e5 => e5.go (fun r => r) fun b5 => some b5.1

set_option maxHeartbeats 4000000 in
theorem c_impl_cloneFlows (N : Nat) (list_ : List Flow) (res : List Flow) (h : m_impl_cloneFlows N list_ = some res) (w : World) {a_list_ : Option Addr} {c_list_ : Nat} (h_list_ : flowsL.rd w [] [.slice a_list_ list_.length c_list_] list_) : Ret Try.prog 64 [.slice a_list_ list_.length c_list_] w [] fun v w' => ∃ a1 c1 F1, v = .slice a1 res.length c1 ∧ NewC w w' [owC flowsL F1 [.slice a1 res.length c1] res] := by
  have mh_list_ := rd_max h_list_
  unfold m_impl_cloneFlows at h
  refine ret_enter Try.func64 rfl Try.ntmps64 rfl (Hp.refl w _) ?_
  refine cw_seq ?_
  refine cw_region ?_
  refine wl_u rfl (ow_y (yh_assign rfl rfl) rfl rfl (kk_wl ?_))
  refine wl_nil ?_
  refine ex_seq ?_
  refine cw_seq ?_
  refine cw_region ?_
  refine wl_u rfl (ow_y (yh_assign rfl rfl) rfl rfl (kk_wl ?_))
  refine wl_nil ?_
  refine ex_seq ?_
  refine cw_seq ?_
  refine cw_seq ?_
  refine cw_region ?_
  refine wl_u rfl (ow_y (yh_move rfl rfl) rfl rfl (kk_wl ?_))
  refine wl_u rfl (ow_y (yh_lenS Tb rfl rfl rfl rfl) rfl rfl (kk_wl ?_))
  refine wl_u rfl (ow_y (yh_move rfl rfl) rfl rfl (kk_wl ?_))
  refine wl_nil ?_
  refine ex_seq ?_
  refine cw_block ?_
  obtain ⟨e5, he5, hk5⟩ := bd h
  clear h
  refine cw_nilS flowsL rfl ?_
  refine cw_loopG (σ := Nat × (List Flow) × Nat × (Option Addr) × Nat × (List Nat)) (fun s => m_impl_cloneFlows_L5 N list_ s.1 s.2.1 s.2.2.1 = some e5) (fun s => [(3, .slice s.2.2.2.1 s.2.1.length s.2.2.2.2.1), (6, .slice a_list_ list_.length c_list_), (7, .int .i64 ((list_.length : Nat) : Int)), (8, .int .i64 ((s.2.2.1 : Nat) : Int))]) (fun s => [owC flowsL s.2.2.2.2.2 [.slice s.2.2.2.1 s.2.1.length s.2.2.2.2.1] s.2.1]) (fun s => s.1) (N, ([] : List Flow), 0, none, 0, []) [0] he5 ⟨rfl, rfl, rfl, rfl, trivial⟩ rfl (fun KL s he5 hn5 => ?_)
  obtain ⟨n5, s3, s8, as3, cs3, Fs3⟩ := s
  simp only at he5 hn5 ⊢
  rcases n5 with _ | n5
  · exact nosome he5
  have h := he5; rw [m_impl_cloneFlows_L5] at h
  refine cw_seq ?_
  refine cw_region ?_
  refine wl_u rfl (ow_y (yh_cmpI rfl rfl rfl rfl) rfl rfl (kk_wl ?_))
  refine wl_nil ?_
  refine ex_seq ?_
  refine cw_seq ?_
  refine cw_split rfl (fun c1 => ?_) (fun c1 => ?_)
  · skip
    replace h := bt c1 h
    have q1 := ltb_true.1 c1
    refine cw_skip ?_
    refine ex_seq ?_
    refine cw_seq ?_
    refine cw_block ?_
    refine cw_seq ?_
    refine cw_region ?_
    obtain ⟨y10, hy10, h⟩ := bd h
    obtain ⟨b10, o10, ha10⟩ := sl_addr h_list_ hy10
    subst ha10
    obtain ⟨a10, e10, hc10, hf10⟩ := get_flow h_list_ hy10
    have mx10 := rd_max hf10
    refine wl_u rfl (ow_y (yh_idx Tb (k := s8) rfl rfl rfl rfl (get_lt hy10) rfl rfl) rfl rfl (kk_wl ?_))
    refine wl_u rfl (ow_y (yh_loadAN Tb rfl rfl rfl rfl hc10 rfl) rfl rfl (kk_wl ?_))
    refine wl_u rfl (ow_allocA Tb rfl rfl rfl rfl (fun g5 => kk_wl ?_))
    refine wl_u rfl (ow_storeA Tb (k := 0) rfl rfl rfl rfl rfl rfl rfl rfl rfl (kk_wl ?_))
    refine wl_nil ?_
    refine ex_seq ?_
    refine cw_region ?_
    refine wl_u rfl (ow_y (yh_move rfl rfl) rfl rfl (kk_wl ?_))
    refine wl_u rfl (ow_y (yh_loadBA Tb (k := 0) rfl rfl rfl rfl rfl rfl) rfl rfl (kk_wl ?_))
    obtain ⟨x14, hx14, h⟩ := bd h
    refine wl_u rfl (ow_cN1 rfl hb63 rfl (fun w hw => c_impl_Flow_clone N _ _ hx14 w (Lay.at_ hf10 hw)) rfl rfl (fun a14 c14 F14 => kk_wl ?_))
    refine wl_u rfl (ow_litA Tb rfl rfl rfl rfl rfl rfl (by decide) rfl rfl (fun g15 => kk_wl ?_))
    obtain ⟨hll16, h⟩ := bd_appd h
    refine wl_u rfl (ow_chg (c' := owC flowL F14 [.int .i64 x14.ver, .slice a14 x14.steps.length c14] x14) 1 rfl (fun w hA => flowL_mk x14 hA) rfl (ow_appE Tb (i := 3) (j := 0) (k := 1) rfl rfl rfl rfl rfl rfl rfl rfl rfl rfl rfl (app1 hll16) (by decide) rfl rfl (fun a16 c16 F16 => kk_wl ?_)))
    refine wl_u rfl (ow_y (yh_assign rfl rfl) rfl rfl (kk_wl ?_))
    refine wl_nil ?_
    refine ex_block_normal ?_
    refine ex_seq ?_
    refine cw_region ?_
    refine wl_u rfl (ow_y (yh_arI rfl rfl rfl rfl (by omega)) rfl rfl (kk_wl ?_))
    refine wl_u rfl (ow_y (yh_move rfl rfl) rfl rfl (kk_wl ?_))
    refine wl_nil ?_
    exact ex_next [0] (hn5 (n5, (s3 ++ [x14]), s8 + 1, a16, c16, F16) (Nat.lt_succ_self _) h) ⟨rfl, rfl, rfl, rfl, trivial⟩ rfl
  · skip
    replace h := bf c1 h
    have q2 := ltb_false.1 c1
    refine cw_exit ?_
    refine ex_then_exit ?_
    refine ex_then_exit ?_
    obtain rfl := Option.some.inj h
    have h := go_brk hk5
    refine ex_block_exit ?_
    refine ex_seq ?_
    refine cw_seq ?_
    refine cw_region ?_
    refine wl_u rfl (ow_y (yh_move rfl rfl) rfl rfl (kk_wl ?_))
    refine wl_u rfl (ow_y (yh_assign rfl rfl) rfl rfl (kk_wl ?_))
    refine wl_nil ?_
    refine ex_seq ?_
    refine cw_ret ?_
    obtain rfl := Option.some.inj h
    exact ex_r1 Tb rfl (.tmp rfl) (fun wq hq => ⟨_, rfl, hq.ext, ⟨as3, cs3, Fs3, rfl, NewC.sel [0] hq rfl⟩⟩)

def m_impl_RegistryPut (N : Nat) (list_ : List Flow) (f : Flow) : Option (List Flow × Bool) := (m_impl_RegistryValid N list_).bind fun x9 => (bif !x9 then some (([] : List Flow), false)
 else (m_impl_FlowValid N f).bind fun x13 => (bif !x13 then some (([] : List Flow), false)
 else (m_impl_Flow_clone N f).bind fun x17 => ((bif ltb 0 ((list_.length : Nat) : Int) then (geti list_ (((list_.length : Nat) : Int) - 1)).bind fun y26 => some (w64 (y26.ver + 1))
 else some 1) : Option (Int)).bind fun j108 => (m_impl_cloneFlows N list_).bind fun x32 => (appd x32 [(Flow.mk j108 x17.steps)]).bind fun l35 => (m_impl_RegistryValid N (x32 ++ [(Flow.mk j108 x17.steps)])).bind fun x37 => (bif !x37 then some (([] : List Flow), false)
 else some ((x32 ++ [(Flow.mk j108 x17.steps)]), true))))

set_option maxHeartbeats 4000000 in
theorem c_impl_RegistryPut (N : Nat) (list_ : List Flow) (f : Flow) (res : List Flow × Bool) (h : m_impl_RegistryPut N list_ f = some res) (w : World) {a_f_steps a_list_ : Option Addr} {c_f_steps c_list_ : Nat} (h_list_ : flowsL.rd w [] [.slice a_list_ list_.length c_list_] list_) (h_f_steps : stepsL.rd w [] [.slice a_f_steps f.steps.length c_f_steps] f.steps) : Ret Try.prog 16 [.slice a_list_ list_.length c_list_, .agg #[.int .i64 f.ver, .slice a_f_steps f.steps.length c_f_steps]] w [] fun v w' => ∃ a1 c1 F1, v = .tuple #[.slice a1 res.1.length c1, .bool res.2] ∧ NewC w w' [owC flowsL F1 [.slice a1 res.1.length c1] res.1] := by
  have mh_list_ := rd_max h_list_
  have mh_f_steps := rd_max h_f_steps
  unfold m_impl_RegistryPut at h
  refine ret_enter Try.func16 rfl Try.ntmps16 rfl (Hp.refl w _) ?_
  refine cw_seq ?_
  refine cw_region ?_
  refine wl_u rfl (ow_boxA rfl rfl rfl rfl (fun g3 => kk_wl ?_))
  refine wl_u rfl (ow_y (yh_assign rfl rfl) rfl rfl (kk_wl ?_))
  refine wl_u rfl (ow_y (yh_assign rfl rfl) rfl rfl (kk_wl ?_))
  refine wl_nil ?_
  refine ex_seq ?_
  refine cw_seq ?_
  refine cw_seq ?_
  refine cw_region ?_
  refine wl_u rfl (ow_y (yh_move rfl rfl) rfl rfl (kk_wl ?_))
  obtain ⟨x9, hx9, h⟩ := bd h
  refine wl_u rfl (ow_cV rfl hb19 rfl (fun w hw => c_impl_RegistryValid N _ _ hx9 w (Lay.at_ h_list_ hw)) rfl rfl (kk_wl ?_))
  refine wl_u rfl (ow_y (yh_not rfl rfl) rfl rfl (kk_wl ?_))
  refine wl_u rfl (ow_y (yh_move rfl rfl) rfl rfl (kk_wl ?_))
  refine wl_s rfl rfl (fun c1 => ?_) (fun c1 => ?_)
  · skip
    replace h := bt c1 h
    refine wl_n rfl rfl rfl rfl ?_
    refine wl_n rfl rfl rfl rfl ?_
    refine wl_n rfl rfl rfl rfl ?_
    refine wl_u rfl (ow_y (yh_pickT rfl rfl rfl) rfl rfl (kk_wl ?_))
    refine wl_nil ?_
    refine ex_seq ?_
    refine cw_true rfl ?_
    refine cw_seq ?_
    refine cw_region ?_
    refine wl_u rfl (ow_y (yh_assign rfl rfl) rfl rfl (kk_wl ?_))
    refine wl_u rfl (ow_y (yh_assign rfl rfl) rfl rfl (kk_wl ?_))
    refine wl_nil ?_
    refine ex_seq ?_
    refine cw_ret ?_
    refine ex_then_ret ?_
    refine ex_nilS flowsL rfl ?_
    obtain rfl := Option.some.inj h
    exact ex_r2 Tb rfl (.tmp rfl) (.tmp rfl) (fun wq hq => ⟨_, rfl, hq.ext, ⟨none, 0, [], rfl, NewC.sel [0] hq rfl⟩⟩)
  · skip
    replace h := bf c1 h
    refine wl_g rfl rfl (ow_y (yh_loadBA Tb (k := 0) rfl rfl rfl rfl rfl rfl) rfl rfl (kk_wl ?_))
    obtain ⟨x13, hx13, h⟩ := bd h
    refine wl_g rfl rfl (ow_cV rfl hb62 rfl (fun w hw => c_impl_FlowValid N _ _ hx13 w (Lay.at_ h_f_steps hw)) rfl rfl (kk_wl ?_))
    refine wl_g rfl rfl (ow_y (yh_not rfl rfl) rfl rfl (kk_wl ?_))
    refine wl_u rfl (ow_y (yh_pickF rfl rfl rfl) rfl rfl (kk_wl ?_))
    refine wl_nil ?_
    refine ex_seq ?_
    refine cw_split rfl (fun c2 => ?_) (fun c2 => ?_)
    · skip
      replace h := bt c2 h
      refine cw_seq ?_
      refine cw_region ?_
      refine wl_u rfl (ow_y (yh_assign rfl rfl) rfl rfl (kk_wl ?_))
      refine wl_u rfl (ow_y (yh_assign rfl rfl) rfl rfl (kk_wl ?_))
      refine wl_nil ?_
      refine ex_seq ?_
      refine cw_ret ?_
      refine ex_then_ret ?_
      refine ex_nilS flowsL rfl ?_
      obtain rfl := Option.some.inj h
      exact ex_r2 Tb rfl (.tmp rfl) (.tmp rfl) (fun wq hq => ⟨_, rfl, hq.ext, ⟨none, 0, [], rfl, NewC.sel [0] hq rfl⟩⟩)
    · skip
      replace h := bf c2 h
      refine cw_skip ?_
      refine ex_seq ?_
      refine cw_seq ?_
      refine cw_region ?_
      refine wl_u rfl (ow_y (yh_loadBA Tb (k := 0) rfl rfl rfl rfl rfl rfl) rfl rfl (kk_wl ?_))
      obtain ⟨x17, hx17, h⟩ := bd h
      refine wl_u rfl (ow_cN1 rfl hb63 rfl (fun w hw => c_impl_Flow_clone N _ _ hx17 w (Lay.at_ h_f_steps hw)) rfl rfl (fun a17 c17 F17 => kk_wl ?_))
      refine wl_u rfl (ow_allocA Tb rfl rfl rfl rfl (fun g6 => kk_wl ?_))
      refine wl_u rfl (ow_storeA Tb (k := 0) rfl rfl rfl rfl rfl rfl rfl rfl rfl (kk_wl ?_))
      refine wl_nil ?_
      refine ex_seq ?_
      refine cw_seq ?_
      refine cw_region ?_
      refine wl_u rfl (ow_y (yh_field Tb rfl rfl rfl) rfl rfl (kk_wl ?_))
      refine wl_u rfl (ow_store1 Tb (k := 0) rfl rfl rfl rfl rfl rfl rfl rfl rfl (kk_wl ?_))
      refine wl_nil ?_
      refine ex_seq ?_
      obtain ⟨j108, he108, hk108⟩ := bd h
      clear h
      refine cw_cut (σ := Unit) (fun s => True) (fun s => [(0, .slice a_list_ list_.length c_list_), (6, .pointer (some ⟨g6, 0, none⟩))]) (fun s => [blkC g6 26 [.int .i64 j108, .slice a17 x17.steps.length c17], owC stepsL F17 [.slice a17 x17.steps.length c17] x17.steps]) (fun s hI => ?_) (fun KL hn108 => ?_)
      · skip
        have h := hk108
        refine cw_seq ?_
        refine cw_dr [0, 2] [4, 5] [blkC g6 26 [.int .i64 j108, .slice a17 x17.steps.length c17], owC stepsL F17 [.slice a17 x17.steps.length c17] x17.steps] (by kernel_rfl) ?_
        refine wd_take (i := 0) [0, 1] rfl rfl rfl rfl rfl (by kernel_rfl) rfl (fun _ _ _ _ h => h) (yh_move rfl rfl) ?_
        refine wd_take (i := 2) [0, 1] rfl rfl rfl rfl rfl (by kernel_rfl) rfl (fun _ _ _ _ h => h) (yh_loadBA Tb (k := 0) rfl rfl rfl rfl rfl rfl) ?_
        refine wd_all [1, 3] (by kernel_rfl) (by simp) (fun i hi => ?_)
        simp only [List.mem_cons, List.not_mem_nil, or_false] at hi
        rcases hi with rfl | rfl
        · refine ⟨_, rfl, rfl, ?_⟩
          obtain ⟨x32, hx32, h⟩ := bd h
          refine (ow_cN1 rfl hb64 rfl (fun w hw => c_impl_cloneFlows N _ _ hx32 w (Lay.at_ h_list_ hw)) rfl rfl (fun a32 c32 F32 => kk_wd [1, 2] rfl ?_))
          refine wd_one 3 rfl rfl (by kernel_rfl) (ow_litA Tb rfl rfl rfl rfl rfl rfl (by decide) rfl rfl (fun g34 => kk_wd [2, 3] rfl ?_))
          obtain ⟨hll35, h⟩ := bd_appd h
          refine wd_one 4 rfl rfl (by kernel_rfl) (ow_chg (c' := owC flowL F17 [.int .i64 j108, .slice a17 x17.steps.length c17] (Flow.mk j108 x17.steps)) 3 rfl (fun w hA => flowL_mk (Flow.mk j108 x17.steps) hA) rfl (ow_appE Tb (i := 2) (j := 0) (k := 1) rfl rfl rfl rfl rfl rfl rfl rfl rfl rfl rfl (app1 hll35) (by decide) rfl rfl (fun a35 c35 F35 => kk_wdT rfl ?_)))
          refine wd_one 5 rfl rfl (by kernel_rfl) (ow_y (yh_assign rfl rfl) rfl rfl (kk_wdT rfl ?_))
          refine wd_done (by kernel_rfl) ?_
          refine ex_seq ?_
          refine cw_seq ?_
          refine cw_seq ?_
          refine cw_region ?_
          refine wl_u rfl (ow_y (yh_move rfl rfl) rfl rfl (kk_wl ?_))
          obtain ⟨x37, hx37, h⟩ := bd h
          refine wl_u rfl (ow_cV rfl hb19 rfl (fun w hw => c_impl_RegistryValid N _ _ hx37 w (rdo (A := flowsL) 0 rfl hw)) rfl rfl (kk_wl ?_))
          refine wl_u rfl (ow_y (yh_not rfl rfl) rfl rfl (kk_wl ?_))
          refine wl_nil ?_
          refine ex_seq ?_
          refine cw_split rfl (fun c3 => ?_) (fun c3 => ?_)
          · skip
            replace h := bt c3 h
            refine cw_seq ?_
            refine cw_region ?_
            refine wl_u rfl (ow_y (yh_assign rfl rfl) rfl rfl (kk_wl ?_))
            refine wl_u rfl (ow_y (yh_assign rfl rfl) rfl rfl (kk_wl ?_))
            refine wl_nil ?_
            refine ex_seq ?_
            refine cw_ret ?_
            refine ex_then_ret ?_
            refine ex_nilS flowsL rfl ?_
            obtain rfl := Option.some.inj h
            exact ex_r2 Tb rfl (.tmp rfl) (.tmp rfl) (fun wq hq => ⟨_, rfl, hq.ext, ⟨none, 0, [], rfl, NewC.sel [0] hq rfl⟩⟩)
          · skip
            replace h := bf c3 h
            refine cw_skip ?_
            refine ex_seq ?_
            refine cw_seq ?_
            refine cw_region ?_
            refine wl_u rfl (ow_y (yh_move rfl rfl) rfl rfl (kk_wl ?_))
            refine wl_u rfl (ow_y (yh_assign rfl rfl) rfl rfl (kk_wl ?_))
            refine wl_u rfl (ow_y (yh_assign rfl rfl) rfl rfl (kk_wl ?_))
            refine wl_nil ?_
            refine ex_seq ?_
            refine cw_ret ?_
            obtain rfl := Option.some.inj h
            exact ex_r2 Tb rfl (.tmp rfl) (.tmp rfl) (fun wq hq => ⟨_, rfl, hq.ext, ⟨a35, c35, F35, rfl, NewC.sel [0] hq rfl⟩⟩)
        · refine ⟨_, rfl, rfl, ?_⟩
          refine (ow_litA Tb rfl rfl rfl rfl rfl rfl (by decide) rfl rfl (fun g34 => kk_wd [1, 2] rfl ?_))
          obtain ⟨x32, hx32, h⟩ := bd h
          refine wd_one 1 rfl rfl (by kernel_rfl) (ow_cN1 rfl hb64 rfl (fun w hw => c_impl_cloneFlows N _ _ hx32 w (Lay.at_ h_list_ hw)) rfl rfl (fun a32 c32 F32 => kk_wd [2, 3] rfl ?_))
          obtain ⟨hll35, h⟩ := bd_appd h
          refine wd_one 4 rfl rfl (by kernel_rfl) (ow_chg (c' := owC flowL F17 [.int .i64 j108, .slice a17 x17.steps.length c17] (Flow.mk j108 x17.steps)) 3 rfl (fun w hA => flowL_mk (Flow.mk j108 x17.steps) hA) rfl (ow_appE Tb (i := 1) (j := 0) (k := 2) rfl rfl rfl rfl rfl rfl rfl rfl rfl rfl rfl (app1 hll35) (by decide) rfl rfl (fun a35 c35 F35 => kk_wdT rfl ?_)))
          refine wd_one 5 rfl rfl (by kernel_rfl) (ow_y (yh_assign rfl rfl) rfl rfl (kk_wdT rfl ?_))
          refine wd_done (by kernel_rfl) ?_
          refine ex_seq ?_
          refine cw_seq ?_
          refine cw_seq ?_
          refine cw_region ?_
          refine wl_u rfl (ow_y (yh_move rfl rfl) rfl rfl (kk_wl ?_))
          obtain ⟨x37, hx37, h⟩ := bd h
          refine wl_u rfl (ow_cV rfl hb19 rfl (fun w hw => c_impl_RegistryValid N _ _ hx37 w (rdo (A := flowsL) 0 rfl hw)) rfl rfl (kk_wl ?_))
          refine wl_u rfl (ow_y (yh_not rfl rfl) rfl rfl (kk_wl ?_))
          refine wl_nil ?_
          refine ex_seq ?_
          refine cw_split rfl (fun c4 => ?_) (fun c4 => ?_)
          · skip
            replace h := bt c4 h
            refine cw_seq ?_
            refine cw_region ?_
            refine wl_u rfl (ow_y (yh_assign rfl rfl) rfl rfl (kk_wl ?_))
            refine wl_u rfl (ow_y (yh_assign rfl rfl) rfl rfl (kk_wl ?_))
            refine wl_nil ?_
            refine ex_seq ?_
            refine cw_ret ?_
            refine ex_then_ret ?_
            refine ex_nilS flowsL rfl ?_
            obtain rfl := Option.some.inj h
            exact ex_r2 Tb rfl (.tmp rfl) (.tmp rfl) (fun wq hq => ⟨_, rfl, hq.ext, ⟨none, 0, [], rfl, NewC.sel [0] hq rfl⟩⟩)
          · skip
            replace h := bf c4 h
            refine cw_skip ?_
            refine ex_seq ?_
            refine cw_seq ?_
            refine cw_region ?_
            refine wl_u rfl (ow_y (yh_move rfl rfl) rfl rfl (kk_wl ?_))
            refine wl_u rfl (ow_y (yh_assign rfl rfl) rfl rfl (kk_wl ?_))
            refine wl_u rfl (ow_y (yh_assign rfl rfl) rfl rfl (kk_wl ?_))
            refine wl_nil ?_
            refine ex_seq ?_
            refine cw_ret ?_
            obtain rfl := Option.some.inj h
            exact ex_r2 Tb rfl (.tmp rfl) (.tmp rfl) (fun wq hq => ⟨_, rfl, hq.ext, ⟨a35, c35, F35, rfl, NewC.sel [0] hq rfl⟩⟩)
      · skip
        have h := he108
        refine cw_seq ?_
        refine cw_region ?_
        refine wl_u rfl (ow_y (yh_move rfl rfl) rfl rfl (kk_wl ?_))
        refine wl_u rfl (ow_y (yh_lenS Tb rfl rfl rfl rfl) rfl rfl (kk_wl ?_))
        refine wl_u rfl (ow_y (yh_cmpI rfl rfl rfl rfl) rfl rfl (kk_wl ?_))
        refine wl_nil ?_
        refine ex_seq ?_
        refine cw_split rfl (fun c5 => ?_) (fun c5 => ?_)
        · skip
          replace h := bt c5 h
          have q1 := ltb_true.1 c5
          refine cw_region ?_
          refine wl_u rfl (ow_y (yh_move rfl rfl) rfl rfl (kk_wl ?_))
          refine wl_u rfl (ow_y (yh_move rfl rfl) rfl rfl (kk_wl ?_))
          refine wl_u rfl (ow_y (yh_lenS Tb rfl rfl rfl rfl) rfl rfl (kk_wl ?_))
          refine wl_u rfl (ow_y (yh_arI rfl rfl rfl rfl (by omega)) rfl rfl (kk_wl ?_))
          obtain ⟨y26, zy26, h⟩ := bd h
          obtain ⟨iy26, hy26⟩ := geti_some zy26
          obtain ⟨b26, o26, ha26⟩ := sl_addr h_list_ hy26
          subst ha26
          obtain ⟨a26, e26, hc26, hf26⟩ := get_flow h_list_ hy26
          have mx26 := rd_max hf26
          refine wl_u rfl (ow_y (yh_idx Tb (k := (((list_.length : Nat) : Int) - 1).toNat) rfl rfl rfl iy26 (get_lt hy26) rfl rfl) rfl rfl (kk_wl ?_))
          refine wl_u rfl (ow_y (yh_field Tb rfl rfl rfl) rfl rfl (kk_wl ?_))
          refine wl_u rfl (ow_y (yh_loadAF Tb (j := 0) rfl rfl rfl hc26 rfl) rfl rfl (kk_wl ?_))
          refine wl_u rfl (ow_y (yh_arW rfl rfl rfl rfl) rfl rfl (kk_wl ?_))
          refine wl_u rfl (ow_y (yh_field Tb rfl rfl rfl) rfl rfl (kk_wl ?_))
          refine wl_u rfl (ow_store1 Tb (k := 0) rfl rfl rfl rfl rfl rfl rfl rfl rfl (kk_wl ?_))
          refine wl_nil ?_
          obtain rfl := Option.some.inj h
          exact ex_next [0, 1] (hn108 () trivial) ⟨rfl, rfl, trivial⟩ rfl
        · skip
          replace h := bf c5 h
          have q2 := ltb_false.1 c5
          refine cw_skip ?_
          obtain rfl := Option.some.inj h
          exact ex_next [0, 1] (hn108 () trivial) ⟨rfl, rfl, trivial⟩ rfl

def m_spec_RegistryValid_L5 (N : Nat) (list_ : List Flow) : Nat → Nat → Option (Ex (Nat) (Bool))
  | 0, _ => none
  | n + 1, s3 => (bif ltb ((s3 : Nat) : Int) ((list_.length : Nat) : Int) then (list_[s3]?).bind fun y12 => (m_spec_FlowValid N y12).bind fun x14 => (bif !x14 then some (Ex.ret false)
 else (bif ltb 0 ((s3 : Nat) : Int) then (geti list_ (((s3 : Nat) : Int) - 1)).bind fun y23 => (bif leb y12.ver y23.ver then some (Ex.ret false)
 else m_spec_RegistryValid_L5 N list_ n (s3 + 1))
 else m_spec_RegistryValid_L5 N list_ n (s3 + 1)))
 else some (Ex.brk (s3)))

def m_spec_RegistryValid (N : Nat) (list_ : List Flow) : Option (Bool) := (m_spec_RegistryValid_L5 N list_ N 0).bind fun e5 => e5.go (fun r => r) fun b5 => some (leb ((list_.length : Nat) : Int) 4)

set_option maxHeartbeats 4000000 in
theorem c_spec_RegistryValid (N : Nat) (list_ : List Flow) (res : Bool) (h : m_spec_RegistryValid N list_ = some res) (w : World) {a_list_ : Option Addr} {c_list_ : Nat} (h_list_ : flowsL.rd w [] [.slice a_list_ list_.length c_list_] list_) : Ret Try.prog 65 [.slice a_list_ list_.length c_list_] w [] fun v w' => v = .bool res := by
  have mh_list_ := rd_max h_list_
  unfold m_spec_RegistryValid at h
  refine ret_enter Try.func65 rfl Try.ntmps65 rfl (Hp.refl w _) ?_
  refine cw_seq ?_
  refine cw_region ?_
  refine wl_u rfl (ow_y (yh_assign rfl rfl) rfl rfl (kk_wl ?_))
  refine wl_nil ?_
  refine ex_seq ?_
  refine cw_seq ?_
  refine cw_seq ?_
  refine cw_region ?_
  refine wl_u rfl (ow_y (yh_assign rfl rfl) rfl rfl (kk_wl ?_))
  refine wl_nil ?_
  refine ex_seq ?_
  refine cw_block ?_
  obtain ⟨e5, he5, hk5⟩ := bd h
  clear h
  refine cw_loopG (σ := Nat × Nat) (fun s => m_spec_RegistryValid_L5 N list_ s.1 s.2 = some e5) (fun s => [(0, .slice a_list_ list_.length c_list_), (3, .int .i64 ((s.2 : Nat) : Int))]) (fun s => []) (fun s => s.1) (N, 0) [] he5 ⟨rfl, rfl, trivial⟩ rfl (fun KL s he5 hn5 => ?_)
  obtain ⟨n5, s3⟩ := s
  simp only at he5 hn5 ⊢
  rcases n5 with _ | n5
  · exact nosome he5
  have h := he5; rw [m_spec_RegistryValid_L5] at h
  refine cw_seq ?_
  refine cw_seq ?_
  refine cw_region ?_
  refine wl_u rfl (ow_y (yh_move rfl rfl) rfl rfl (kk_wl ?_))
  refine wl_u rfl (ow_y (yh_move rfl rfl) rfl rfl (kk_wl ?_))
  refine wl_u rfl (ow_y (yh_lenS Tb rfl rfl rfl rfl) rfl rfl (kk_wl ?_))
  refine wl_u rfl (ow_y (yh_cmpI rfl rfl rfl rfl) rfl rfl (kk_wl ?_))
  refine wl_nil ?_
  refine ex_seq ?_
  refine cw_split rfl (fun c1 => ?_) (fun c1 => ?_)
  · skip
    replace h := bt c1 h
    have q1 := ltb_true.1 c1
    refine cw_skip ?_
    refine ex_seq ?_
    refine cw_seq ?_
    refine cw_block ?_
    refine cw_seq ?_
    refine cw_dr [0, 1, 2, 3, 5, 6, 7, 8, 9, 10, 11, 12, 13, 14, 15, 16, 17, 18, 19, 20, 21, 22, 23] [] [] (by kernel_rfl) ?_
    refine wd_take (i := 0) [] rfl rfl rfl rfl rfl (by kernel_rfl) rfl (fun _ _ _ _ h => h) (yh_move rfl rfl) ?_
    refine wd_take (i := 1) [] rfl rfl rfl rfl rfl (by kernel_rfl) rfl (fun _ _ _ _ h => h) (yh_move rfl rfl) ?_
    obtain ⟨y12, hy12, h⟩ := bd h
    obtain ⟨b12, o12, ha12⟩ := sl_addr h_list_ hy12
    subst ha12
    obtain ⟨a12, e12, hc12, hf12⟩ := get_flow h_list_ hy12
    have mx12 := rd_max hf12
    refine wd_take (i := 2) [] rfl rfl rfl rfl rfl (by kernel_rfl) rfl (fun _ _ _ _ h => h) (yh_idx Tb (k := s3) rfl rfl rfl rfl (get_lt hy12) rfl rfl) ?_
    refine wd_take (i := 3) [] rfl rfl rfl rfl rfl (by kernel_rfl) rfl (fun _ _ _ _ h => h) (yh_loadAN Tb rfl rfl rfl rfl hc12 rfl) ?_
    obtain ⟨x14, hx14, h⟩ := bd h
    refine wd_one 4 rfl rfl (by kernel_rfl) (ow_cV rfl hb28 rfl (fun w hw => c_spec_FlowValid N _ _ hx14 w (Lay.at_ hf12 hw)) rfl rfl (kk_wd [] rfl ?_))
    refine wd_take (i := 5) [] rfl rfl rfl rfl rfl (by kernel_rfl) rfl (fun _ _ _ _ h => h) (yh_not rfl rfl) ?_
    refine wd_take (i := 6) [] rfl rfl rfl rfl rfl (by kernel_rfl) rfl (fun _ _ _ _ h => h) (yh_move rfl rfl) ?_
    refine wd_split 7 rfl rfl rfl (fun c2 => ?_) (fun c2 => ?_)
    · skip
      replace h := bt c2 h
      refine wd_skip (i := 7) [] rfl rfl rfl rfl (by kernel_rfl) rfl (fun _ _ _ h => h) ?_
      refine wd_skip (i := 8) [] rfl rfl rfl rfl (by kernel_rfl) rfl (fun _ _ _ h => h) ?_
      refine wd_skip (i := 9) [] rfl rfl rfl rfl (by kernel_rfl) rfl (fun _ _ _ h => h) ?_
      refine wd_skip (i := 10) [] rfl rfl rfl rfl (by kernel_rfl) rfl (fun _ _ _ h => h) ?_
      refine wd_skip (i := 11) [] rfl rfl rfl rfl (by kernel_rfl) rfl (fun _ _ _ h => h) ?_
      refine wd_skip (i := 12) [] rfl rfl rfl rfl (by kernel_rfl) rfl (fun _ _ _ h => h) ?_
      refine wd_skip (i := 13) [] rfl rfl rfl rfl (by kernel_rfl) rfl (fun _ _ _ h => h) ?_
      refine wd_skip (i := 14) [] rfl rfl rfl rfl (by kernel_rfl) rfl (fun _ _ _ h => h) ?_
      refine wd_skip (i := 15) [] rfl rfl rfl rfl (by kernel_rfl) rfl (fun _ _ _ h => h) ?_
      refine wd_skip (i := 16) [] rfl rfl rfl rfl (by kernel_rfl) rfl (fun _ _ _ h => h) ?_
      refine wd_skip (i := 17) [] rfl rfl rfl rfl (by kernel_rfl) rfl (fun _ _ _ h => h) ?_
      refine wd_skip (i := 18) [] rfl rfl rfl rfl (by kernel_rfl) rfl (fun _ _ _ h => h) ?_
      refine wd_skip (i := 19) [] rfl rfl rfl rfl (by kernel_rfl) rfl (fun _ _ _ h => h) ?_
      refine wd_skip (i := 20) [] rfl rfl rfl rfl (by kernel_rfl) rfl (fun _ _ _ h => h) ?_
      refine wd_skip (i := 21) [] rfl rfl rfl rfl (by kernel_rfl) rfl (fun _ _ _ h => h) ?_
      refine wd_skip (i := 22) [] rfl rfl rfl rfl (by kernel_rfl) rfl (fun _ _ _ h => h) ?_
      refine wd_take (i := 23) [] rfl rfl rfl rfl rfl (by kernel_rfl) rfl (fun _ _ _ _ h => h) (yh_pickT rfl rfl rfl) ?_
      refine wd_done (by kernel_rfl) ?_
      refine ex_seq ?_
      refine cw_true rfl ?_
      refine cw_seq ?_
      refine cw_region ?_
      refine wl_u rfl (ow_y (yh_assign rfl rfl) rfl rfl (kk_wl ?_))
      refine wl_nil ?_
      refine ex_seq ?_
      refine cw_ret ?_
      refine ex_block_ret ?_
      refine ex_then_ret ?_
      refine ex_then_ret ?_
      refine ex_block_ret ?_
      refine ex_then_ret ?_
      obtain rfl := Option.some.inj h
      obtain rfl := go_ret hk5
      exact ex_r1 Tb rfl (.tmp rfl) (fun wq hq => ⟨_, rfl, hq.ext, rfl⟩)
    · skip
      replace h := bf c2 h
      refine wd_take (i := 7) [] rfl rfl rfl rfl rfl (by kernel_rfl) rfl (fun _ _ _ _ h => h) (yh_move rfl rfl) ?_
      refine wd_take (i := 8) [] rfl rfl rfl rfl rfl (by kernel_rfl) rfl (fun _ _ _ _ h => h) (yh_cmpI rfl rfl rfl rfl) ?_
      refine wd_take (i := 9) [] rfl rfl rfl rfl rfl (by kernel_rfl) rfl (fun _ _ _ _ h => h) (yh_move rfl rfl) ?_
      refine wd_split 10 rfl rfl rfl (fun c3 => ?_) (fun c3 => ?_)
      · skip
        replace h := bt c3 h
        have q2 := ltb_true.1 c3
        refine wd_take (i := 10) [] rfl rfl rfl rfl rfl (by kernel_rfl) rfl (fun _ _ _ _ h => h) (yh_move rfl rfl) ?_
        refine wd_take (i := 11) [] rfl rfl rfl rfl rfl (by kernel_rfl) rfl (fun _ _ _ _ h => h) (yh_move rfl rfl) ?_
        refine wd_take (i := 12) [] rfl rfl rfl rfl rfl (by kernel_rfl) rfl (fun _ _ _ _ h => h) (yh_arI rfl rfl rfl rfl (by omega)) ?_
        obtain ⟨y23, zy23, h⟩ := bd h
        obtain ⟨iy23, hy23⟩ := geti_some zy23
        obtain ⟨a23, e23, hc23, hf23⟩ := get_flow h_list_ hy23
        have mx23 := rd_max hf23
        refine wd_take (i := 13) [] rfl rfl rfl rfl rfl (by kernel_rfl) rfl (fun _ _ _ _ h => h) (yh_idx Tb (k := (((s3 : Nat) : Int) - 1).toNat) rfl rfl rfl iy23 (get_lt hy23) rfl rfl) ?_
        refine wd_take (i := 14) [] rfl rfl rfl rfl rfl (by kernel_rfl) rfl (fun _ _ _ _ h => h) (yh_field Tb rfl rfl rfl) ?_
        refine wd_take (i := 15) [] rfl rfl rfl rfl rfl (by kernel_rfl) rfl (fun _ _ _ _ h => h) (yh_loadAF Tb (j := 0) rfl rfl rfl hc23 rfl) ?_
        refine wd_take (i := 16) [] rfl rfl rfl rfl rfl (by kernel_rfl) rfl (fun _ _ _ _ h => h) (yh_move rfl rfl) ?_
        refine wd_take (i := 17) [] rfl rfl rfl rfl rfl (by kernel_rfl) rfl (fun _ _ _ _ h => h) (yh_move rfl rfl) ?_
        refine wd_take (i := 18) [] rfl rfl rfl rfl rfl (by kernel_rfl) rfl (fun _ _ _ _ h => h) (yh_idx Tb (k := s3) rfl rfl rfl rfl (get_lt hy12) rfl rfl) ?_
        refine wd_take (i := 19) [] rfl rfl rfl rfl rfl (by kernel_rfl) rfl (fun _ _ _ _ h => h) (yh_field Tb rfl rfl rfl) ?_
        refine wd_take (i := 20) [] rfl rfl rfl rfl rfl (by kernel_rfl) rfl (fun _ _ _ _ h => h) (yh_loadAF Tb (j := 0) rfl rfl rfl hc12 rfl) ?_
        refine wd_take (i := 21) [] rfl rfl rfl rfl rfl (by kernel_rfl) rfl (fun _ _ _ _ h => h) (yh_cmpI rfl rfl rfl rfl) ?_
        refine wd_take (i := 22) [] rfl rfl rfl rfl rfl (by kernel_rfl) rfl (fun _ _ _ _ h => h) (yh_pickT rfl rfl rfl) ?_
        refine wd_take (i := 23) [] rfl rfl rfl rfl rfl (by kernel_rfl) rfl (fun _ _ _ _ h => h) (yh_pickF rfl rfl rfl) ?_
        refine wd_done (by kernel_rfl) ?_
        refine ex_seq ?_
        refine cw_split rfl (fun c4 => ?_) (fun c4 => ?_)
        · skip
          replace h := bt c4 h
          have q3 := leb_true.1 c4
          refine cw_seq ?_
          refine cw_region ?_
          refine wl_u rfl (ow_y (yh_assign rfl rfl) rfl rfl (kk_wl ?_))
          refine wl_nil ?_
          refine ex_seq ?_
          refine cw_ret ?_
          refine ex_block_ret ?_
          refine ex_then_ret ?_
          refine ex_then_ret ?_
          refine ex_block_ret ?_
          refine ex_then_ret ?_
          obtain rfl := Option.some.inj h
          obtain rfl := go_ret hk5
          exact ex_r1 Tb rfl (.tmp rfl) (fun wq hq => ⟨_, rfl, hq.ext, rfl⟩)
        · skip
          replace h := bf c4 h
          have q4 := leb_false.1 c4
          refine cw_skip ?_
          refine ex_block_normal ?_
          refine ex_seq ?_
          refine cw_region ?_
          refine wl_u rfl (ow_y (yh_move rfl rfl) rfl rfl (kk_wl ?_))
          refine wl_u rfl (ow_y (yh_arI rfl rfl rfl rfl (by omega)) rfl rfl (kk_wl ?_))
          refine wl_u rfl (ow_y (yh_assign rfl rfl) rfl rfl (kk_wl ?_))
          refine wl_nil ?_
          exact ex_next [] (hn5 (n5, s3 + 1) (Nat.lt_succ_self _) h) ⟨rfl, rfl, trivial⟩ rfl
      · skip
        replace h := bf c3 h
        have q5 := ltb_false.1 c3
        refine wd_skip (i := 10) [] rfl rfl rfl rfl (by kernel_rfl) rfl (fun _ _ _ h => h) ?_
        refine wd_skip (i := 11) [] rfl rfl rfl rfl (by kernel_rfl) rfl (fun _ _ _ h => h) ?_
        refine wd_skip (i := 12) [] rfl rfl rfl rfl (by kernel_rfl) rfl (fun _ _ _ h => h) ?_
        refine wd_skip (i := 13) [] rfl rfl rfl rfl (by kernel_rfl) rfl (fun _ _ _ h => h) ?_
        refine wd_skip (i := 14) [] rfl rfl rfl rfl (by kernel_rfl) rfl (fun _ _ _ h => h) ?_
        refine wd_skip (i := 15) [] rfl rfl rfl rfl (by kernel_rfl) rfl (fun _ _ _ h => h) ?_
        refine wd_skip (i := 16) [] rfl rfl rfl rfl (by kernel_rfl) rfl (fun _ _ _ h => h) ?_
        refine wd_skip (i := 17) [] rfl rfl rfl rfl (by kernel_rfl) rfl (fun _ _ _ h => h) ?_
        refine wd_skip (i := 18) [] rfl rfl rfl rfl (by kernel_rfl) rfl (fun _ _ _ h => h) ?_
        refine wd_skip (i := 19) [] rfl rfl rfl rfl (by kernel_rfl) rfl (fun _ _ _ h => h) ?_
        refine wd_skip (i := 20) [] rfl rfl rfl rfl (by kernel_rfl) rfl (fun _ _ _ h => h) ?_
        refine wd_skip (i := 21) [] rfl rfl rfl rfl (by kernel_rfl) rfl (fun _ _ _ h => h) ?_
        refine wd_take (i := 22) [] rfl rfl rfl rfl rfl (by kernel_rfl) rfl (fun _ _ _ _ h => h) (yh_pickF rfl rfl rfl) ?_
        refine wd_take (i := 23) [] rfl rfl rfl rfl rfl (by kernel_rfl) rfl (fun _ _ _ _ h => h) (yh_pickF rfl rfl rfl) ?_
        refine wd_done (by kernel_rfl) ?_
        refine ex_seq ?_
        refine cw_false rfl ?_
        refine cw_skip ?_
        refine ex_block_normal ?_
        refine ex_seq ?_
        refine cw_region ?_
        refine wl_u rfl (ow_y (yh_move rfl rfl) rfl rfl (kk_wl ?_))
        refine wl_u rfl (ow_y (yh_arI rfl rfl rfl rfl (by omega)) rfl rfl (kk_wl ?_))
        refine wl_u rfl (ow_y (yh_assign rfl rfl) rfl rfl (kk_wl ?_))
        refine wl_nil ?_
        exact ex_next [] (hn5 (n5, s3 + 1) (Nat.lt_succ_self _) h) ⟨rfl, rfl, trivial⟩ rfl
  · skip
    replace h := bf c1 h
    have q6 := ltb_false.1 c1
    refine cw_exit ?_
    refine ex_then_exit ?_
    refine ex_then_exit ?_
    obtain rfl := Option.some.inj h
    have h := go_brk hk5
    refine ex_block_exit ?_
    refine ex_seq ?_
    refine cw_seq ?_
    refine cw_region ?_
    refine wl_u rfl (ow_y (yh_move rfl rfl) rfl rfl (kk_wl ?_))
    refine wl_u rfl (ow_y (yh_lenS Tb rfl rfl rfl rfl) rfl rfl (kk_wl ?_))
    refine wl_u rfl (ow_y (yh_cmpI rfl rfl rfl rfl) rfl rfl (kk_wl ?_))
    refine wl_u rfl (ow_y (yh_assign rfl rfl) rfl rfl (kk_wl ?_))
    refine wl_nil ?_
    refine ex_seq ?_
    refine cw_ret ?_
    obtain rfl := Option.some.inj h
    exact ex_r1 Tb rfl (.tmp rfl) (fun wq hq => ⟨_, rfl, hq.ext, rfl⟩)

def m_spec_l2Step (N : Nat) (s_ : Step) : Option (Step) := (appd ([] : List Str) s_.after).bind fun l6 => some (Step.mk s_.name (([] : List Str) ++ s_.after) s_.undo)

set_option maxHeartbeats 4000000 in
theorem c_spec_l2Step (N : Nat) (s_ : Step) (res : Step) (h : m_spec_l2Step N s_ = some res) (w : World) {a_s__after : Option Addr} {c_s__after : Nat} (h_s__after : strsL.rd w [] [.slice a_s__after s_.after.length c_s__after] s_.after) : Ret Try.prog 110 [.agg #[.string s_.name, .slice a_s__after s_.after.length c_s__after, .bool s_.undo]] w [] fun v w' => ∃ a1 c1 F1, v = .agg #[.string res.name, .slice a1 res.after.length c1, .bool res.undo] ∧ NewC w w' [owC strsL F1 [.slice a1 res.after.length c1] res.after] := by
  have mh_s__after := rd_max h_s__after
  unfold m_spec_l2Step at h
  refine ret_enter Try.func110 rfl Try.ntmps110 rfl (Hp.refl w _) ?_
  refine cw_seq ?_
  refine cw_region ?_
  refine wl_u rfl (ow_boxA rfl rfl rfl rfl (fun g1 => kk_wl ?_))
  refine wl_u rfl (ow_allocA Tb rfl rfl rfl rfl (fun g2 => kk_wl ?_))
  refine wl_nil ?_
  refine ex_seq ?_
  refine cw_seq ?_
  refine cw_region ?_
  refine wl_u rfl (ow_lit0 Tb rfl rfl rfl rfl rfl rfl (fun g3 => kk_chg (c' := owC strsL [g3] [.slice (some ⟨g3, 0, none⟩) 0 0] ([] : List Str)) 0 rfl (fun w hA => own_strsL ([] : List Str) hA rfl (by simp [maxLen])) rfl (kk_wl ?_)))
  refine wl_u rfl (ow_y (yh_field Tb rfl rfl rfl) rfl rfl (kk_wl ?_))
  refine wl_u rfl (ow_y (yh_loadB Tb (k := 2) rfl rfl rfl rfl rfl) rfl rfl (kk_wl ?_))
  obtain ⟨hll6, h⟩ := bd_appd h
  refine wl_u rfl (ow_appP Tb (i := 0) rfl rfl rfl rfl rfl (fun w hw => Lay.at_ h_s__after hw) rfl rfl rfl rfl hll6 (by decide) rfl rfl (fun a6 c6 F6 => kk_wl ?_))
  refine wl_u rfl (ow_y (yh_field Tb rfl rfl rfl) rfl rfl (kk_wl ?_))
  refine wl_u rfl (ow_store1 Tb (k := 2) rfl rfl rfl rfl rfl rfl rfl rfl rfl (kk_wl ?_))
  refine wl_nil ?_
  refine ex_seq ?_
  refine cw_seq ?_
  refine cw_region ?_
  refine wl_u rfl (ow_y (yh_loadBA Tb (k := 0) rfl rfl rfl rfl rfl rfl) rfl rfl (kk_wl ?_))
  refine wl_u rfl (ow_storeA Tb (k := 2) rfl rfl rfl rfl rfl rfl rfl rfl rfl (kk_wl ?_))
  refine wl_nil ?_
  refine ex_seq ?_
  refine cw_ret ?_
  obtain rfl := Option.some.inj h
  exact ex_r1 Tb rfl (.cellA 0 rfl rfl rfl rfl rfl) (fun wq hq => ⟨_, rfl, hq.ext, ⟨a6, c6, F6, rfl, NewC.sel [2] hq rfl⟩⟩)

def m_spec_l2Copy_L6 (N : Nat) (f : Flow) : Nat → (List Step) → Nat → Option (Ex (List Step × Nat) (Flow))
  | 0, _, _ => none
  | n + 1, s3_c_1, s4 => (bif ltb ((s4 : Nat) : Int) ((f.steps.length : Nat) : Int) then (f.steps[s4]?).bind fun y21 => (m_spec_l2Step N y21).bind fun x23 => (appd s3_c_1 [x23]).bind fun l25 => m_spec_l2Copy_L6 N f n (s3_c_1 ++ [x23]) (s4 + 1)
 else some (Ex.brk (s3_c_1, s4)))

def m_spec_l2Copy (N : Nat) (f : Flow) : Option (Flow) := (m_spec_l2Copy_L6 N f N ([] : List Step) 0).bind fun e6 => e6.go (fun r => r) fun b6 => some (Flow.mk f.ver b6.1)

set_option maxHeartbeats 4000000 in
theorem c_spec_l2Copy (N : Nat) (f : Flow) (res : Flow) (h : m_spec_l2Copy N f = some res) (w : World) {a_f_steps : Option Addr} {c_f_steps : Nat} (h_f_steps : stepsL.rd w [] [.slice a_f_steps f.steps.length c_f_steps] f.steps) : Ret Try.prog 66 [.agg #[.int .i64 f.ver, .slice a_f_steps f.steps.length c_f_steps]] w [] fun v w' => ∃ a1 c1 F1, v = .agg #[.int .i64 res.ver, .slice a1 res.steps.length c1] ∧ NewC w w' [owC stepsL F1 [.slice a1 res.steps.length c1] res.steps] := by
  have mh_f_steps := rd_max h_f_steps
  unfold m_spec_l2Copy at h
  refine ret_enter Try.func66 rfl Try.ntmps66 rfl (Hp.refl w _) ?_
  refine cw_seq ?_
  refine cw_region ?_
  refine wl_u rfl (ow_boxA rfl rfl rfl rfl (fun g1 => kk_wl ?_))
  refine wl_u rfl (ow_allocA Tb rfl rfl rfl rfl (fun g2 => kk_wl ?_))
  refine wl_nil ?_
  refine ex_seq ?_
  refine cw_seq ?_
  refine cw_region ?_
  refine wl_u rfl (ow_y (yh_field Tb rfl rfl rfl) rfl rfl (kk_wl ?_))
  refine wl_u rfl (ow_y (yh_loadB Tb (k := 1) rfl rfl rfl rfl rfl) rfl rfl (kk_wl ?_))
  refine wl_u rfl (ow_lit0 Tb rfl rfl rfl rfl rfl rfl (fun g7 => kk_chg (c' := owC stepsL [g7] [.slice (some ⟨g7, 0, none⟩) 0 0] ([] : List Step)) 0 rfl (fun w hA => own_stepsL ([] : List Step) hA rfl (by simp [maxLen])) rfl (kk_wl ?_)))
  refine wl_u rfl (ow_y (yh_buildA rfl rfl (by kernel_rfl)) rfl rfl (kk_wl ?_))
  refine wl_u rfl (ow_allocA Tb rfl rfl rfl rfl (fun g3 => kk_wl ?_))
  refine wl_u rfl (ow_storeA Tb (k := 0) rfl rfl rfl rfl rfl rfl rfl rfl rfl (kk_wl ?_))
  refine wl_nil ?_
  refine ex_seq ?_
  refine cw_seq ?_
  refine cw_seq ?_
  refine cw_region ?_
  refine wl_u rfl (ow_y (yh_assign rfl rfl) rfl rfl (kk_wl ?_))
  refine wl_nil ?_
  refine ex_seq ?_
  refine cw_block ?_
  obtain ⟨e6, he6, hk6⟩ := bd h
  clear h
  refine cw_loopG (σ := Nat × (List Step) × Nat × (Option Addr) × Nat × (List Nat)) (fun s => m_spec_l2Copy_L6 N f s.1 s.2.1 s.2.2.1 = some e6) (fun s => [(1, .pointer (some ⟨g1, 0, none⟩)), (2, .pointer (some ⟨g2, 0, none⟩)), (3, .pointer (some ⟨g3, 0, none⟩)), (4, .int .i64 ((s.2.2.1 : Nat) : Int))]) (fun s => [blkC g1 26 [.int .i64 f.ver, .slice a_f_steps f.steps.length c_f_steps], blkC g2 26 [.int .i64 0, .slice none 0 0], blkC g3 26 [.int .i64 f.ver, .slice s.2.2.2.1 s.2.1.length s.2.2.2.2.1], owC stepsL s.2.2.2.2.2 [.slice s.2.2.2.1 s.2.1.length s.2.2.2.2.1] s.2.1]) (fun s => s.1) (N, ([] : List Step), 0, (some ⟨g7, 0, none⟩), 0, [g7]) [3, 2, 0, 1] he6 ⟨rfl, rfl, rfl, rfl, trivial⟩ rfl (fun KL s he6 hn6 => ?_)
  obtain ⟨n6, s3_c_1, s4, as3_c_1, cs3_c_1, Fs3_c_1⟩ := s
  simp only at he6 hn6 ⊢
  rcases n6 with _ | n6
  · exact nosome he6
  have h := he6; rw [m_spec_l2Copy_L6] at h
  refine cw_seq ?_
  refine cw_seq ?_
  refine cw_region ?_
  refine wl_u rfl (ow_y (yh_move rfl rfl) rfl rfl (kk_wl ?_))
  refine wl_u rfl (ow_y (yh_field Tb rfl rfl rfl) rfl rfl (kk_wl ?_))
  refine wl_u rfl (ow_y (yh_loadB Tb (k := 0) rfl rfl rfl rfl rfl) rfl rfl (kk_wl ?_))
  refine wl_u rfl (ow_y (yh_lenS Tb rfl rfl rfl rfl) rfl rfl (kk_wl ?_))
  refine wl_u rfl (ow_y (yh_cmpI rfl rfl rfl rfl) rfl rfl (kk_wl ?_))
  refine wl_nil ?_
  refine ex_seq ?_
  refine cw_split rfl (fun c1 => ?_) (fun c1 => ?_)
  · skip
    replace h := bt c1 h
    have q1 := ltb_true.1 c1
    refine cw_skip ?_
    refine ex_seq ?_
    refine cw_seq ?_
    refine cw_block ?_
    refine cw_dr [0, 1, 2, 3, 4, 5, 6] [9, 10, 11] [blkC g1 26 [.int .i64 f.ver, .slice a_f_steps f.steps.length c_f_steps], blkC g2 26 [.int .i64 0, .slice none 0 0], blkC g3 26 [.int .i64 f.ver, .slice as3_c_1 s3_c_1.length cs3_c_1], owC stepsL Fs3_c_1 [.slice as3_c_1 s3_c_1.length cs3_c_1] s3_c_1] (by kernel_rfl) ?_
    refine wd_take (i := 0) [0, 1, 2, 3] rfl rfl rfl rfl rfl (by kernel_rfl) rfl (fun _ _ _ _ h => h) (yh_field Tb rfl rfl rfl) ?_
    refine wd_take (i := 1) [0, 1, 2, 3] rfl rfl rfl rfl rfl (by kernel_rfl) rfl (fun _ _ _ _ h => h) (yh_loadB Tb (k := 2) rfl rfl rfl rfl rfl) ?_
    refine wd_take (i := 2) [0, 1, 2, 3] rfl rfl rfl rfl rfl (by kernel_rfl) rfl (fun _ _ _ _ h => h) (yh_field Tb rfl rfl rfl) ?_
    refine wd_take (i := 3) [0, 1, 2, 3] rfl rfl rfl rfl rfl (by kernel_rfl) rfl (fun _ _ _ _ h => h) (yh_loadB Tb (k := 0) rfl rfl rfl rfl rfl) ?_
    refine wd_take (i := 4) [0, 1, 2, 3] rfl rfl rfl rfl rfl (by kernel_rfl) rfl (fun _ _ _ _ h => h) (yh_move rfl rfl) ?_
    obtain ⟨y21, hy21, h⟩ := bd h
    obtain ⟨b21, o21, ha21⟩ := sl_addr h_f_steps hy21
    subst ha21
    obtain ⟨a21, e21, hc21, hf21⟩ := get_step h_f_steps hy21
    have mx21 := rd_max hf21
    refine wd_take (i := 5) [0, 1, 2, 3] rfl rfl rfl rfl rfl (by kernel_rfl) rfl (fun _ _ _ _ h => h) (yh_idx Tb (k := s4) rfl rfl rfl rfl (get_lt hy21) rfl rfl) ?_
    refine wd_take (i := 6) [0, 1, 2, 3] rfl rfl rfl rfl rfl (by kernel_rfl) rfl (fun _ _ _ _ h => h) (yh_loadAN Tb rfl rfl rfl rfl hc21 rfl) ?_
    obtain ⟨x23, hx23, h⟩ := bd h
    refine wd_one 7 rfl rfl (by kernel_rfl) (ow_cN1 rfl hb110 rfl (fun w hw => c_spec_l2Step N _ _ hx23 w (Lay.at_ hf21 hw)) rfl rfl (fun a23 c23 F23 => kk_wd [1, 2, 3, 4] rfl ?_))
    refine wd_one 8 rfl rfl (by kernel_rfl) (ow_litA Tb rfl rfl rfl rfl rfl rfl (by decide) rfl rfl (fun g24 => kk_wd [2, 3, 4, 5] rfl ?_))
    obtain ⟨hll25, h⟩ := bd_appd h
    refine wd_one 9 rfl rfl (by kernel_rfl) (ow_chg (c' := owC stepL F23 [.string x23.name, .slice a23 x23.after.length c23, .bool x23.undo] x23) 1 rfl (fun w hA => stepL_mk x23 hA) rfl (ow_appE Tb (i := 5) (j := 0) (k := 1) rfl rfl rfl rfl rfl rfl rfl rfl rfl rfl rfl (app1 hll25) (by decide) rfl rfl (fun a25 c25 F25 => kk_wdT rfl ?_)))
    refine wd_one 10 rfl rfl (by kernel_rfl) (ow_y (yh_field Tb rfl rfl rfl) rfl rfl (kk_wdT rfl ?_))
    refine wd_one 11 rfl rfl (by kernel_rfl) (ow_store1 Tb (k := 4) rfl rfl rfl rfl rfl rfl rfl rfl rfl (kk_wdT rfl ?_))
    refine wd_done (by kernel_rfl) ?_
    refine ex_block_normal ?_
    refine ex_seq ?_
    refine cw_region ?_
    refine wl_u rfl (ow_y (yh_move rfl rfl) rfl rfl (kk_wl ?_))
    refine wl_u rfl (ow_y (yh_arI rfl rfl rfl rfl (by omega)) rfl rfl (kk_wl ?_))
    refine wl_u rfl (ow_y (yh_assign rfl rfl) rfl rfl (kk_wl ?_))
    refine wl_nil ?_
    exact ex_next [3, 4, 0, 1] (hn6 (n6, (s3_c_1 ++ [x23]), s4 + 1, a25, c25, F25) (Nat.lt_succ_self _) h) ⟨rfl, rfl, rfl, rfl, trivial⟩ rfl
  · skip
    replace h := bf c1 h
    have q2 := ltb_false.1 c1
    refine cw_exit ?_
    refine ex_then_exit ?_
    refine ex_then_exit ?_
    obtain rfl := Option.some.inj h
    have h := go_brk hk6
    refine ex_block_exit ?_
    refine ex_seq ?_
    refine cw_seq ?_
    refine cw_region ?_
    refine wl_u rfl (ow_y (yh_loadBA Tb (k := 2) rfl rfl rfl rfl rfl rfl) rfl rfl (kk_wl ?_))
    refine wl_u rfl (ow_storeA Tb (k := 1) rfl rfl rfl rfl rfl rfl rfl rfl rfl (kk_wl ?_))
    refine wl_nil ?_
    refine ex_seq ?_
    refine cw_ret ?_
    obtain rfl := Option.some.inj h
    exact ex_r1 Tb rfl (.cellA 0 rfl rfl rfl rfl rfl) (fun wq hq => ⟨_, rfl, hq.ext, ⟨as3_c_1, cs3_c_1, Fs3_c_1, rfl, NewC.sel [3] hq rfl⟩⟩)

def m_spec_l14Copy_L5 (N : Nat) (list_ : List Flow) : Nat → (List Flow) → Nat → Option (Ex (List Flow × Nat) (List Flow))
  | 0, _, _ => none
  | n + 1, s3, s4 => (bif ltb ((s4 : Nat) : Int) ((list_.length : Nat) : Int) then (list_[s4]?).bind fun y15 => (m_spec_l2Copy N y15).bind fun x17 => (appd s3 [x17]).bind fun l19 => m_spec_l14Copy_L5 N list_ n (s3 ++ [x17]) (s4 + 1)
 else some (Ex.brk (s3, s4)))

def m_spec_l14Copy (N : Nat) (list_ : List Flow) : Option (List Flow) := (m_spec_l14Copy_L5 N list_ N ([] : List Flow) 0).bind fun e5 => e5.go (fun r => r) fun b5 => some b5.1

set_option maxHeartbeats 4000000 in
theorem c_spec_l14Copy (N : Nat) (list_ : List Flow) (res : List Flow) (h : m_spec_l14Copy N list_ = some res) (w : World) {a_list_ : Option Addr} {c_list_ : Nat} (h_list_ : flowsL.rd w [] [.slice a_list_ list_.length c_list_] list_) : Ret Try.prog 67 [.slice a_list_ list_.length c_list_] w [] fun v w' => ∃ a1 c1 F1, v = .slice a1 res.length c1 ∧ NewC w w' [owC flowsL F1 [.slice a1 res.length c1] res] := by
  have mh_list_ := rd_max h_list_
  unfold m_spec_l14Copy at h
  refine ret_enter Try.func67 rfl Try.ntmps67 rfl (Hp.refl w _) ?_
  refine cw_seq ?_
  refine cw_region ?_
  refine wl_u rfl (ow_y (yh_assign rfl rfl) rfl rfl (kk_wl ?_))
  refine wl_nil ?_
  refine ex_seq ?_
  refine cw_seq ?_
  refine cw_region ?_
  refine wl_u rfl (ow_lit0 Tb rfl rfl rfl rfl rfl rfl (fun g5 => kk_chg (c' := owC flowsL [g5] [.slice (some ⟨g5, 0, none⟩) 0 0] ([] : List Flow)) 0 rfl (fun w hA => own_flowsL ([] : List Flow) hA rfl (by simp [maxLen])) rfl (kk_wl ?_)))
  refine wl_u rfl (ow_y (yh_assign rfl rfl) rfl rfl (kk_wl ?_))
  refine wl_nil ?_
  refine ex_seq ?_
  refine cw_seq ?_
  refine cw_seq ?_
  refine cw_region ?_
  refine wl_u rfl (ow_y (yh_assign rfl rfl) rfl rfl (kk_wl ?_))
  refine wl_nil ?_
  refine ex_seq ?_
  refine cw_block ?_
  obtain ⟨e5, he5, hk5⟩ := bd h
  clear h
  refine cw_loopG (σ := Nat × (List Flow) × Nat × (Option Addr) × Nat × (List Nat)) (fun s => m_spec_l14Copy_L5 N list_ s.1 s.2.1 s.2.2.1 = some e5) (fun s => [(0, .slice a_list_ list_.length c_list_), (3, .slice s.2.2.2.1 s.2.1.length s.2.2.2.2.1), (4, .int .i64 ((s.2.2.1 : Nat) : Int))]) (fun s => [owC flowsL s.2.2.2.2.2 [.slice s.2.2.2.1 s.2.1.length s.2.2.2.2.1] s.2.1]) (fun s => s.1) (N, ([] : List Flow), 0, (some ⟨g5, 0, none⟩), 0, [g5]) [0] he5 ⟨rfl, rfl, rfl, trivial⟩ rfl (fun KL s he5 hn5 => ?_)
  obtain ⟨n5, s3, s4, as3, cs3, Fs3⟩ := s
  simp only at he5 hn5 ⊢
  rcases n5 with _ | n5
  · exact nosome he5
  have h := he5; rw [m_spec_l14Copy_L5] at h
  refine cw_seq ?_
  refine cw_seq ?_
  refine cw_region ?_
  refine wl_u rfl (ow_y (yh_move rfl rfl) rfl rfl (kk_wl ?_))
  refine wl_u rfl (ow_y (yh_move rfl rfl) rfl rfl (kk_wl ?_))
  refine wl_u rfl (ow_y (yh_lenS Tb rfl rfl rfl rfl) rfl rfl (kk_wl ?_))
  refine wl_u rfl (ow_y (yh_cmpI rfl rfl rfl rfl) rfl rfl (kk_wl ?_))
  refine wl_nil ?_
  refine ex_seq ?_
  refine cw_split rfl (fun c1 => ?_) (fun c1 => ?_)
  · skip
    replace h := bt c1 h
    have q1 := ltb_true.1 c1
    refine cw_skip ?_
    refine ex_seq ?_
    refine cw_seq ?_
    refine cw_block ?_
    refine cw_region ?_
    refine wl_u rfl (ow_y (yh_move rfl rfl) rfl rfl (kk_wl ?_))
    refine wl_u rfl (ow_y (yh_move rfl rfl) rfl rfl (kk_wl ?_))
    refine wl_u rfl (ow_y (yh_move rfl rfl) rfl rfl (kk_wl ?_))
    obtain ⟨y15, hy15, h⟩ := bd h
    obtain ⟨b15, o15, ha15⟩ := sl_addr h_list_ hy15
    subst ha15
    obtain ⟨a15, e15, hc15, hf15⟩ := get_flow h_list_ hy15
    have mx15 := rd_max hf15
    refine wl_u rfl (ow_y (yh_idx Tb (k := s4) rfl rfl rfl rfl (get_lt hy15) rfl rfl) rfl rfl (kk_wl ?_))
    refine wl_u rfl (ow_y (yh_loadAN Tb rfl rfl rfl rfl hc15 rfl) rfl rfl (kk_wl ?_))
    obtain ⟨x17, hx17, h⟩ := bd h
    refine wl_u rfl (ow_cN1 rfl hb66 rfl (fun w hw => c_spec_l2Copy N _ _ hx17 w (Lay.at_ hf15 hw)) rfl rfl (fun a17 c17 F17 => kk_wl ?_))
    refine wl_u rfl (ow_litA Tb rfl rfl rfl rfl rfl rfl (by decide) rfl rfl (fun g18 => kk_wl ?_))
    obtain ⟨hll19, h⟩ := bd_appd h
    refine wl_u rfl (ow_chg (c' := owC flowL F17 [.int .i64 x17.ver, .slice a17 x17.steps.length c17] x17) 1 rfl (fun w hA => flowL_mk x17 hA) rfl (ow_appE Tb (i := 2) (j := 0) (k := 1) rfl rfl rfl rfl rfl rfl rfl rfl rfl rfl rfl (app1 hll19) (by decide) rfl rfl (fun a19 c19 F19 => kk_wl ?_)))
    refine wl_u rfl (ow_y (yh_assign rfl rfl) rfl rfl (kk_wl ?_))
    refine wl_nil ?_
    refine ex_block_normal ?_
    refine ex_seq ?_
    refine cw_region ?_
    refine wl_u rfl (ow_y (yh_move rfl rfl) rfl rfl (kk_wl ?_))
    refine wl_u rfl (ow_y (yh_arI rfl rfl rfl rfl (by omega)) rfl rfl (kk_wl ?_))
    refine wl_u rfl (ow_y (yh_assign rfl rfl) rfl rfl (kk_wl ?_))
    refine wl_nil ?_
    exact ex_next [0] (hn5 (n5, (s3 ++ [x17]), s4 + 1, a19, c19, F19) (Nat.lt_succ_self _) h) ⟨rfl, rfl, rfl, trivial⟩ rfl
  · skip
    replace h := bf c1 h
    have q2 := ltb_false.1 c1
    refine cw_exit ?_
    refine ex_then_exit ?_
    refine ex_then_exit ?_
    obtain rfl := Option.some.inj h
    have h := go_brk hk5
    refine ex_block_exit ?_
    refine ex_seq ?_
    refine cw_seq ?_
    refine cw_region ?_
    refine wl_u rfl (ow_y (yh_move rfl rfl) rfl rfl (kk_wl ?_))
    refine wl_u rfl (ow_y (yh_assign rfl rfl) rfl rfl (kk_wl ?_))
    refine wl_nil ?_
    refine ex_seq ?_
    refine cw_ret ?_
    obtain rfl := Option.some.inj h
    exact ex_r1 Tb rfl (.tmp rfl) (fun wq hq => ⟨_, rfl, hq.ext, ⟨as3, cs3, Fs3, rfl, NewC.sel [0] hq rfl⟩⟩)

def m_spec_RegistryPut (N : Nat) (list_ : List Flow) (f : Flow) : Option (List Flow × Bool) := (m_spec_RegistryValid N list_).bind fun x9 => (bif !x9 then some (([] : List Flow), false)
 else (m_spec_FlowValid N f).bind fun x13 => (bif !x13 then some (([] : List Flow), false)
 else (m_spec_l2Copy N f).bind fun x18 => ((bif ltb 0 ((list_.length : Nat) : Int) then (geti list_ (((list_.length : Nat) : Int) - 1)).bind fun y27 => some (w64 (y27.ver + 1))
 else some 1) : Option (Int)).bind fun j108 => (m_spec_l14Copy N list_).bind fun x33 => (appd x33 [(Flow.mk j108 x18.steps)]).bind fun l36 => (m_spec_RegistryValid N (x33 ++ [(Flow.mk j108 x18.steps)])).bind fun x38 => (bif !x38 then some (([] : List Flow), false)
 else some ((x33 ++ [(Flow.mk j108 x18.steps)]), true))))

set_option maxHeartbeats 4000000 in
theorem c_spec_RegistryPut (N : Nat) (list_ : List Flow) (f : Flow) (res : List Flow × Bool) (h : m_spec_RegistryPut N list_ f = some res) (w : World) {a_f_steps a_list_ : Option Addr} {c_f_steps c_list_ : Nat} (h_list_ : flowsL.rd w [] [.slice a_list_ list_.length c_list_] list_) (h_f_steps : stepsL.rd w [] [.slice a_f_steps f.steps.length c_f_steps] f.steps) : Ret Try.prog 17 [.slice a_list_ list_.length c_list_, .agg #[.int .i64 f.ver, .slice a_f_steps f.steps.length c_f_steps]] w [] fun v w' => ∃ a1 c1 F1, v = .tuple #[.slice a1 res.1.length c1, .bool res.2] ∧ NewC w w' [owC flowsL F1 [.slice a1 res.1.length c1] res.1] := by
  have mh_list_ := rd_max h_list_
  have mh_f_steps := rd_max h_f_steps
  unfold m_spec_RegistryPut at h
  refine ret_enter Try.func17 rfl Try.ntmps17 rfl (Hp.refl w _) ?_
  refine cw_seq ?_
  refine cw_region ?_
  refine wl_u rfl (ow_boxA rfl rfl rfl rfl (fun g3 => kk_wl ?_))
  refine wl_u rfl (ow_y (yh_assign rfl rfl) rfl rfl (kk_wl ?_))
  refine wl_u rfl (ow_y (yh_assign rfl rfl) rfl rfl (kk_wl ?_))
  refine wl_nil ?_
  refine ex_seq ?_
  refine cw_seq ?_
  refine cw_seq ?_
  refine cw_region ?_
  refine wl_u rfl (ow_y (yh_move rfl rfl) rfl rfl (kk_wl ?_))
  obtain ⟨x9, hx9, h⟩ := bd h
  refine wl_u rfl (ow_cV rfl hb65 rfl (fun w hw => c_spec_RegistryValid N _ _ hx9 w (Lay.at_ h_list_ hw)) rfl rfl (kk_wl ?_))
  refine wl_u rfl (ow_y (yh_not rfl rfl) rfl rfl (kk_wl ?_))
  refine wl_u rfl (ow_y (yh_move rfl rfl) rfl rfl (kk_wl ?_))
  refine wl_s rfl rfl (fun c1 => ?_) (fun c1 => ?_)
  · skip
    replace h := bt c1 h
    refine wl_n rfl rfl rfl rfl ?_
    refine wl_n rfl rfl rfl rfl ?_
    refine wl_n rfl rfl rfl rfl ?_
    refine wl_u rfl (ow_y (yh_pickT rfl rfl rfl) rfl rfl (kk_wl ?_))
    refine wl_nil ?_
    refine ex_seq ?_
    refine cw_true rfl ?_
    refine cw_seq ?_
    refine cw_region ?_
    refine wl_u rfl (ow_lit0 Tb rfl rfl rfl rfl rfl rfl (fun g16 => kk_chg (c' := owC flowsL [g16] [.slice (some ⟨g16, 0, none⟩) 0 0] ([] : List Flow)) 0 rfl (fun w hA => own_flowsL ([] : List Flow) hA rfl (by simp [maxLen])) rfl (kk_wl ?_)))
    refine wl_u rfl (ow_y (yh_assign rfl rfl) rfl rfl (kk_wl ?_))
    refine wl_u rfl (ow_y (yh_assign rfl rfl) rfl rfl (kk_wl ?_))
    refine wl_nil ?_
    refine ex_seq ?_
    refine cw_ret ?_
    refine ex_then_ret ?_
    obtain rfl := Option.some.inj h
    exact ex_r2 Tb rfl (.tmp rfl) (.tmp rfl) (fun wq hq => ⟨_, rfl, hq.ext, ⟨(some ⟨g16, 0, none⟩), 0, [g16], rfl, NewC.sel [0] hq rfl⟩⟩)
  · skip
    replace h := bf c1 h
    refine wl_g rfl rfl (ow_y (yh_loadBA Tb (k := 0) rfl rfl rfl rfl rfl rfl) rfl rfl (kk_wl ?_))
    obtain ⟨x13, hx13, h⟩ := bd h
    refine wl_g rfl rfl (ow_cV rfl hb28 rfl (fun w hw => c_spec_FlowValid N _ _ hx13 w (Lay.at_ h_f_steps hw)) rfl rfl (kk_wl ?_))
    refine wl_g rfl rfl (ow_y (yh_not rfl rfl) rfl rfl (kk_wl ?_))
    refine wl_u rfl (ow_y (yh_pickF rfl rfl rfl) rfl rfl (kk_wl ?_))
    refine wl_nil ?_
    refine ex_seq ?_
    refine cw_split rfl (fun c2 => ?_) (fun c2 => ?_)
    · skip
      replace h := bt c2 h
      refine cw_seq ?_
      refine cw_region ?_
      refine wl_u rfl (ow_lit0 Tb rfl rfl rfl rfl rfl rfl (fun g16 => kk_chg (c' := owC flowsL [g16] [.slice (some ⟨g16, 0, none⟩) 0 0] ([] : List Flow)) 0 rfl (fun w hA => own_flowsL ([] : List Flow) hA rfl (by simp [maxLen])) rfl (kk_wl ?_)))
      refine wl_u rfl (ow_y (yh_assign rfl rfl) rfl rfl (kk_wl ?_))
      refine wl_u rfl (ow_y (yh_assign rfl rfl) rfl rfl (kk_wl ?_))
      refine wl_nil ?_
      refine ex_seq ?_
      refine cw_ret ?_
      refine ex_then_ret ?_
      obtain rfl := Option.some.inj h
      exact ex_r2 Tb rfl (.tmp rfl) (.tmp rfl) (fun wq hq => ⟨_, rfl, hq.ext, ⟨(some ⟨g16, 0, none⟩), 0, [g16], rfl, NewC.sel [0] hq rfl⟩⟩)
    · skip
      replace h := bf c2 h
      refine cw_skip ?_
      refine ex_seq ?_
      refine cw_seq ?_
      refine cw_region ?_
      refine wl_u rfl (ow_y (yh_loadBA Tb (k := 0) rfl rfl rfl rfl rfl rfl) rfl rfl (kk_wl ?_))
      obtain ⟨x18, hx18, h⟩ := bd h
      refine wl_u rfl (ow_cN1 rfl hb66 rfl (fun w hw => c_spec_l2Copy N _ _ hx18 w (Lay.at_ h_f_steps hw)) rfl rfl (fun a18 c18 F18 => kk_wl ?_))
      refine wl_u rfl (ow_allocA Tb rfl rfl rfl rfl (fun g6 => kk_wl ?_))
      refine wl_u rfl (ow_storeA Tb (k := 0) rfl rfl rfl rfl rfl rfl rfl rfl rfl (kk_wl ?_))
      refine wl_nil ?_
      refine ex_seq ?_
      refine cw_seq ?_
      refine cw_region ?_
      refine wl_u rfl (ow_y (yh_field Tb rfl rfl rfl) rfl rfl (kk_wl ?_))
      refine wl_u rfl (ow_store1 Tb (k := 0) rfl rfl rfl rfl rfl rfl rfl rfl rfl (kk_wl ?_))
      refine wl_nil ?_
      refine ex_seq ?_
      obtain ⟨j108, he108, hk108⟩ := bd h
      clear h
      refine cw_cut (σ := Unit) (fun s => True) (fun s => [(0, .slice a_list_ list_.length c_list_), (6, .pointer (some ⟨g6, 0, none⟩))]) (fun s => [blkC g6 26 [.int .i64 j108, .slice a18 x18.steps.length c18], owC stepsL F18 [.slice a18 x18.steps.length c18] x18.steps]) (fun s hI => ?_) (fun KL hn108 => ?_)
      · skip
        have h := hk108
        refine cw_seq ?_
        refine cw_dr [0, 2] [4, 5] [blkC g6 26 [.int .i64 j108, .slice a18 x18.steps.length c18], owC stepsL F18 [.slice a18 x18.steps.length c18] x18.steps] (by kernel_rfl) ?_
        refine wd_take (i := 0) [0, 1] rfl rfl rfl rfl rfl (by kernel_rfl) rfl (fun _ _ _ _ h => h) (yh_move rfl rfl) ?_
        refine wd_take (i := 2) [0, 1] rfl rfl rfl rfl rfl (by kernel_rfl) rfl (fun _ _ _ _ h => h) (yh_loadBA Tb (k := 0) rfl rfl rfl rfl rfl rfl) ?_
        refine wd_all [1, 3] (by kernel_rfl) (by simp) (fun i hi => ?_)
        simp only [List.mem_cons, List.not_mem_nil, or_false] at hi
        rcases hi with rfl | rfl
        · refine ⟨_, rfl, rfl, ?_⟩
          obtain ⟨x33, hx33, h⟩ := bd h
          refine (ow_cN1 rfl hb67 rfl (fun w hw => c_spec_l14Copy N _ _ hx33 w (Lay.at_ h_list_ hw)) rfl rfl (fun a33 c33 F33 => kk_wd [1, 2] rfl ?_))
          refine wd_one 3 rfl rfl (by kernel_rfl) (ow_litA Tb rfl rfl rfl rfl rfl rfl (by decide) rfl rfl (fun g35 => kk_wd [2, 3] rfl ?_))
          obtain ⟨hll36, h⟩ := bd_appd h
          refine wd_one 4 rfl rfl (by kernel_rfl) (ow_chg (c' := owC flowL F18 [.int .i64 j108, .slice a18 x18.steps.length c18] (Flow.mk j108 x18.steps)) 3 rfl (fun w hA => flowL_mk (Flow.mk j108 x18.steps) hA) rfl (ow_appE Tb (i := 2) (j := 0) (k := 1) rfl rfl rfl rfl rfl rfl rfl rfl rfl rfl rfl (app1 hll36) (by decide) rfl rfl (fun a36 c36 F36 => kk_wdT rfl ?_)))
          refine wd_one 5 rfl rfl (by kernel_rfl) (ow_y (yh_assign rfl rfl) rfl rfl (kk_wdT rfl ?_))
          refine wd_done (by kernel_rfl) ?_
          refine ex_seq ?_
          refine cw_seq ?_
          refine cw_seq ?_
          refine cw_region ?_
          refine wl_u rfl (ow_y (yh_move rfl rfl) rfl rfl (kk_wl ?_))
          obtain ⟨x38, hx38, h⟩ := bd h
          refine wl_u rfl (ow_cV rfl hb65 rfl (fun w hw => c_spec_RegistryValid N _ _ hx38 w (rdo (A := flowsL) 0 rfl hw)) rfl rfl (kk_wl ?_))
          refine wl_u rfl (ow_y (yh_not rfl rfl) rfl rfl (kk_wl ?_))
          refine wl_nil ?_
          refine ex_seq ?_
          refine cw_split rfl (fun c3 => ?_) (fun c3 => ?_)
          · skip
            replace h := bt c3 h
            refine cw_seq ?_
            refine cw_region ?_
            refine wl_u rfl (ow_lit0 Tb rfl rfl rfl rfl rfl rfl (fun g40 => kk_chg (c' := owC flowsL [g40] [.slice (some ⟨g40, 0, none⟩) 0 0] ([] : List Flow)) 0 rfl (fun w hA => own_flowsL ([] : List Flow) hA rfl (by simp [maxLen])) rfl (kk_wl ?_)))
            refine wl_u rfl (ow_y (yh_assign rfl rfl) rfl rfl (kk_wl ?_))
            refine wl_u rfl (ow_y (yh_assign rfl rfl) rfl rfl (kk_wl ?_))
            refine wl_nil ?_
            refine ex_seq ?_
            refine cw_ret ?_
            refine ex_then_ret ?_
            obtain rfl := Option.some.inj h
            exact ex_r2 Tb rfl (.tmp rfl) (.tmp rfl) (fun wq hq => ⟨_, rfl, hq.ext, ⟨(some ⟨g40, 0, none⟩), 0, [g40], rfl, NewC.sel [0] hq rfl⟩⟩)
          · skip
            replace h := bf c3 h
            refine cw_skip ?_
            refine ex_seq ?_
            refine cw_seq ?_
            refine cw_region ?_
            refine wl_u rfl (ow_y (yh_move rfl rfl) rfl rfl (kk_wl ?_))
            refine wl_u rfl (ow_y (yh_assign rfl rfl) rfl rfl (kk_wl ?_))
            refine wl_u rfl (ow_y (yh_assign rfl rfl) rfl rfl (kk_wl ?_))
            refine wl_nil ?_
            refine ex_seq ?_
            refine cw_ret ?_
            obtain rfl := Option.some.inj h
            exact ex_r2 Tb rfl (.tmp rfl) (.tmp rfl) (fun wq hq => ⟨_, rfl, hq.ext, ⟨a36, c36, F36, rfl, NewC.sel [0] hq rfl⟩⟩)
        · refine ⟨_, rfl, rfl, ?_⟩
          refine (ow_litA Tb rfl rfl rfl rfl rfl rfl (by decide) rfl rfl (fun g35 => kk_wd [1, 2] rfl ?_))
          obtain ⟨x33, hx33, h⟩ := bd h
          refine wd_one 1 rfl rfl (by kernel_rfl) (ow_cN1 rfl hb67 rfl (fun w hw => c_spec_l14Copy N _ _ hx33 w (Lay.at_ h_list_ hw)) rfl rfl (fun a33 c33 F33 => kk_wd [2, 3] rfl ?_))
          obtain ⟨hll36, h⟩ := bd_appd h
          refine wd_one 4 rfl rfl (by kernel_rfl) (ow_chg (c' := owC flowL F18 [.int .i64 j108, .slice a18 x18.steps.length c18] (Flow.mk j108 x18.steps)) 3 rfl (fun w hA => flowL_mk (Flow.mk j108 x18.steps) hA) rfl (ow_appE Tb (i := 1) (j := 0) (k := 2) rfl rfl rfl rfl rfl rfl rfl rfl rfl rfl rfl (app1 hll36) (by decide) rfl rfl (fun a36 c36 F36 => kk_wdT rfl ?_)))
          refine wd_one 5 rfl rfl (by kernel_rfl) (ow_y (yh_assign rfl rfl) rfl rfl (kk_wdT rfl ?_))
          refine wd_done (by kernel_rfl) ?_
          refine ex_seq ?_
          refine cw_seq ?_
          refine cw_seq ?_
          refine cw_region ?_
          refine wl_u rfl (ow_y (yh_move rfl rfl) rfl rfl (kk_wl ?_))
          obtain ⟨x38, hx38, h⟩ := bd h
          refine wl_u rfl (ow_cV rfl hb65 rfl (fun w hw => c_spec_RegistryValid N _ _ hx38 w (rdo (A := flowsL) 0 rfl hw)) rfl rfl (kk_wl ?_))
          refine wl_u rfl (ow_y (yh_not rfl rfl) rfl rfl (kk_wl ?_))
          refine wl_nil ?_
          refine ex_seq ?_
          refine cw_split rfl (fun c4 => ?_) (fun c4 => ?_)
          · skip
            replace h := bt c4 h
            refine cw_seq ?_
            refine cw_region ?_
            refine wl_u rfl (ow_lit0 Tb rfl rfl rfl rfl rfl rfl (fun g40 => kk_chg (c' := owC flowsL [g40] [.slice (some ⟨g40, 0, none⟩) 0 0] ([] : List Flow)) 0 rfl (fun w hA => own_flowsL ([] : List Flow) hA rfl (by simp [maxLen])) rfl (kk_wl ?_)))
            refine wl_u rfl (ow_y (yh_assign rfl rfl) rfl rfl (kk_wl ?_))
            refine wl_u rfl (ow_y (yh_assign rfl rfl) rfl rfl (kk_wl ?_))
            refine wl_nil ?_
            refine ex_seq ?_
            refine cw_ret ?_
            refine ex_then_ret ?_
            obtain rfl := Option.some.inj h
            exact ex_r2 Tb rfl (.tmp rfl) (.tmp rfl) (fun wq hq => ⟨_, rfl, hq.ext, ⟨(some ⟨g40, 0, none⟩), 0, [g40], rfl, NewC.sel [0] hq rfl⟩⟩)
          · skip
            replace h := bf c4 h
            refine cw_skip ?_
            refine ex_seq ?_
            refine cw_seq ?_
            refine cw_region ?_
            refine wl_u rfl (ow_y (yh_move rfl rfl) rfl rfl (kk_wl ?_))
            refine wl_u rfl (ow_y (yh_assign rfl rfl) rfl rfl (kk_wl ?_))
            refine wl_u rfl (ow_y (yh_assign rfl rfl) rfl rfl (kk_wl ?_))
            refine wl_nil ?_
            refine ex_seq ?_
            refine cw_ret ?_
            obtain rfl := Option.some.inj h
            exact ex_r2 Tb rfl (.tmp rfl) (.tmp rfl) (fun wq hq => ⟨_, rfl, hq.ext, ⟨a36, c36, F36, rfl, NewC.sel [0] hq rfl⟩⟩)
      · skip
        have h := he108
        refine cw_seq ?_
        refine cw_region ?_
        refine wl_u rfl (ow_y (yh_move rfl rfl) rfl rfl (kk_wl ?_))
        refine wl_u rfl (ow_y (yh_lenS Tb rfl rfl rfl rfl) rfl rfl (kk_wl ?_))
        refine wl_u rfl (ow_y (yh_cmpI rfl rfl rfl rfl) rfl rfl (kk_wl ?_))
        refine wl_nil ?_
        refine ex_seq ?_
        refine cw_split rfl (fun c5 => ?_) (fun c5 => ?_)
        · skip
          replace h := bt c5 h
          have q1 := ltb_true.1 c5
          refine cw_region ?_
          refine wl_u rfl (ow_y (yh_move rfl rfl) rfl rfl (kk_wl ?_))
          refine wl_u rfl (ow_y (yh_move rfl rfl) rfl rfl (kk_wl ?_))
          refine wl_u rfl (ow_y (yh_lenS Tb rfl rfl rfl rfl) rfl rfl (kk_wl ?_))
          refine wl_u rfl (ow_y (yh_arI rfl rfl rfl rfl (by omega)) rfl rfl (kk_wl ?_))
          obtain ⟨y27, zy27, h⟩ := bd h
          obtain ⟨iy27, hy27⟩ := geti_some zy27
          obtain ⟨b27, o27, ha27⟩ := sl_addr h_list_ hy27
          subst ha27
          obtain ⟨a27, e27, hc27, hf27⟩ := get_flow h_list_ hy27
          have mx27 := rd_max hf27
          refine wl_u rfl (ow_y (yh_idx Tb (k := (((list_.length : Nat) : Int) - 1).toNat) rfl rfl rfl iy27 (get_lt hy27) rfl rfl) rfl rfl (kk_wl ?_))
          refine wl_u rfl (ow_y (yh_field Tb rfl rfl rfl) rfl rfl (kk_wl ?_))
          refine wl_u rfl (ow_y (yh_loadAF Tb (j := 0) rfl rfl rfl hc27 rfl) rfl rfl (kk_wl ?_))
          refine wl_u rfl (ow_y (yh_arW rfl rfl rfl rfl) rfl rfl (kk_wl ?_))
          refine wl_u rfl (ow_y (yh_field Tb rfl rfl rfl) rfl rfl (kk_wl ?_))
          refine wl_u rfl (ow_store1 Tb (k := 0) rfl rfl rfl rfl rfl rfl rfl rfl rfl (kk_wl ?_))
          refine wl_nil ?_
          obtain rfl := Option.some.inj h
          exact ex_next [0, 1] (hn108 () trivial) ⟨rfl, rfl, trivial⟩ rfl
        · skip
          replace h := bf c5 h
          have q2 := ltb_false.1 c5
          refine cw_skip ?_
          obtain rfl := Option.some.inj h
          exact ex_next [0, 1] (hn108 () trivial) ⟨rfl, rfl, trivial⟩ rfl

def m_laws_sameTexts_L8 (N : Nat) (a : List Str) (b : List Str) : Nat → Nat → Option (Ex (Nat) (Bool))
  | 0, _ => none
  | n + 1, s5 => (bif ltb ((s5 : Nat) : Int) ((a.length : Nat) : Int) then (a[s5]?).bind fun y19 => (b[s5]?).bind fun y23 => (bif !(seq y19 y23) then some (Ex.ret false)
 else m_laws_sameTexts_L8 N a b n (s5 + 1))
 else some (Ex.brk (s5)))

def m_laws_sameTexts (N : Nat) (a : List Str) (b : List Str) : Option (Bool) := (bif !(eqb ((a.length : Nat) : Int) ((b.length : Nat) : Int)) then some false
 else (m_laws_sameTexts_L8 N a b N 0).bind fun e8 => e8.go (fun r => r) fun b8 => some true)

set_option maxHeartbeats 4000000 in
theorem c_laws_sameTexts (N : Nat) (a : List Str) (b : List Str) (res : Bool) (h : m_laws_sameTexts N a b = some res) (w : World) {a_a a_b : Option Addr} {c_a c_b : Nat} (h_a : strsL.rd w [] [.slice a_a a.length c_a] a) (h_b : strsL.rd w [] [.slice a_b b.length c_b] b) : Ret Try.prog 50 [.slice a_a a.length c_a, .slice a_b b.length c_b] w [] fun v w' => v = .bool res := by
  have mh_a := rd_max h_a
  have mh_b := rd_max h_b
  unfold m_laws_sameTexts at h
  refine ret_enter Try.func50 rfl Try.ntmps50 rfl (Hp.refl w _) ?_
  refine cw_seq ?_
  refine cw_region ?_
  refine wl_u rfl (ow_y (yh_assign rfl rfl) rfl rfl (kk_wl ?_))
  refine wl_nil ?_
  refine ex_seq ?_
  refine cw_seq ?_
  refine cw_seq ?_
  refine cw_region ?_
  refine wl_u rfl (ow_y (yh_move rfl rfl) rfl rfl (kk_wl ?_))
  refine wl_u rfl (ow_y (yh_lenS Tb rfl rfl rfl rfl) rfl rfl (kk_wl ?_))
  refine wl_u rfl (ow_y (yh_move rfl rfl) rfl rfl (kk_wl ?_))
  refine wl_u rfl (ow_y (yh_lenS Tb rfl rfl rfl rfl) rfl rfl (kk_wl ?_))
  refine wl_u rfl (ow_y (yh_cmpI rfl rfl rfl rfl) rfl rfl (kk_wl ?_))
  refine wl_nil ?_
  refine ex_seq ?_
  refine cw_split rfl (fun c1 => ?_) (fun c1 => ?_)
  · skip
    replace h := bt c1 h
    have q1 := eqb_false.1 (nt c1)
    refine cw_seq ?_
    refine cw_region ?_
    refine wl_u rfl (ow_y (yh_assign rfl rfl) rfl rfl (kk_wl ?_))
    refine wl_nil ?_
    refine ex_seq ?_
    refine cw_ret ?_
    refine ex_then_ret ?_
    obtain rfl := Option.some.inj h
    exact ex_r1 Tb rfl (.tmp rfl) (fun wq hq => ⟨_, rfl, hq.ext, rfl⟩)
  · skip
    replace h := bf c1 h
    have q2 := eqb_true.1 (nf c1)
    refine cw_skip ?_
    refine ex_seq ?_
    refine cw_seq ?_
    refine cw_seq ?_
    refine cw_region ?_
    refine wl_u rfl (ow_y (yh_assign rfl rfl) rfl rfl (kk_wl ?_))
    refine wl_nil ?_
    refine ex_seq ?_
    refine cw_block ?_
    obtain ⟨e8, he8, hk8⟩ := bd h
    clear h
    refine cw_loopG (σ := Nat × Nat) (fun s => m_laws_sameTexts_L8 N a b s.1 s.2 = some e8) (fun s => [(0, .slice a_a a.length c_a), (1, .slice a_b b.length c_b), (5, .int .i64 ((s.2 : Nat) : Int))]) (fun s => []) (fun s => s.1) (N, 0) [] he8 ⟨rfl, rfl, rfl, trivial⟩ rfl (fun KL s he8 hn8 => ?_)
    obtain ⟨n8, s5⟩ := s
    simp only at he8 hn8 ⊢
    rcases n8 with _ | n8
    · exact nosome he8
    have h := he8; rw [m_laws_sameTexts_L8] at h
    refine cw_seq ?_
    refine cw_seq ?_
    refine cw_region ?_
    refine wl_u rfl (ow_y (yh_move rfl rfl) rfl rfl (kk_wl ?_))
    refine wl_u rfl (ow_y (yh_move rfl rfl) rfl rfl (kk_wl ?_))
    refine wl_u rfl (ow_y (yh_lenS Tb rfl rfl rfl rfl) rfl rfl (kk_wl ?_))
    refine wl_u rfl (ow_y (yh_cmpI rfl rfl rfl rfl) rfl rfl (kk_wl ?_))
    refine wl_nil ?_
    refine ex_seq ?_
    refine cw_split rfl (fun c2 => ?_) (fun c2 => ?_)
    · skip
      replace h := bt c2 h
      have q3 := ltb_true.1 c2
      refine cw_skip ?_
      refine ex_seq ?_
      refine cw_seq ?_
      refine cw_block ?_
      refine cw_seq ?_
      refine cw_dr [0, 1, 2, 3, 4, 5, 6, 7, 8] [] [] (by kernel_rfl) ?_
      refine wd_take (i := 0) [] rfl rfl rfl rfl rfl (by kernel_rfl) rfl (fun _ _ _ _ h => h) (yh_move rfl rfl) ?_
      refine wd_take (i := 1) [] rfl rfl rfl rfl rfl (by kernel_rfl) rfl (fun _ _ _ _ h => h) (yh_move rfl rfl) ?_
      obtain ⟨y19, hy19, h⟩ := bd h
      obtain ⟨b19, o19, ha19⟩ := sl_addr h_a hy19
      subst ha19
      have hc19 := get_str h_a hy19
      refine wd_take (i := 2) [] rfl rfl rfl rfl rfl (by kernel_rfl) rfl (fun _ _ _ _ h => h) (yh_idx Tb (k := s5) rfl rfl rfl rfl (get_lt hy19) rfl rfl) ?_
      refine wd_take (i := 3) [] rfl rfl rfl rfl rfl (by kernel_rfl) rfl (fun _ _ _ _ h => h) (yh_loadA0 Tb rfl rfl rfl hc19 rfl) ?_
      refine wd_take (i := 4) [] rfl rfl rfl rfl rfl (by kernel_rfl) rfl (fun _ _ _ _ h => h) (yh_move rfl rfl) ?_
      refine wd_take (i := 5) [] rfl rfl rfl rfl rfl (by kernel_rfl) rfl (fun _ _ _ _ h => h) (yh_move rfl rfl) ?_
      obtain ⟨y23, hy23, h⟩ := bd h
      obtain ⟨b23, o23, ha23⟩ := sl_addr h_b hy23
      subst ha23
      have hc23 := get_str h_b hy23
      refine wd_take (i := 6) [] rfl rfl rfl rfl rfl (by kernel_rfl) rfl (fun _ _ _ _ h => h) (yh_idx Tb (k := s5) rfl rfl rfl rfl (get_lt hy23) rfl rfl) ?_
      refine wd_take (i := 7) [] rfl rfl rfl rfl rfl (by kernel_rfl) rfl (fun _ _ _ _ h => h) (yh_loadA0 Tb rfl rfl rfl hc23 rfl) ?_
      refine wd_take (i := 8) [] rfl rfl rfl rfl rfl (by kernel_rfl) rfl (fun _ _ _ _ h => h) (yh_cmpS rfl rfl rfl rfl) ?_
      refine wd_done (by kernel_rfl) ?_
      refine ex_seq ?_
      refine cw_split rfl (fun c3 => ?_) (fun c3 => ?_)
      · skip
        replace h := bt c3 h
        refine cw_seq ?_
        refine cw_region ?_
        refine wl_u rfl (ow_y (yh_assign rfl rfl) rfl rfl (kk_wl ?_))
        refine wl_nil ?_
        refine ex_seq ?_
        refine cw_ret ?_
        refine ex_block_ret ?_
        refine ex_then_ret ?_
        refine ex_then_ret ?_
        refine ex_block_ret ?_
        refine ex_then_ret ?_
        obtain rfl := Option.some.inj h
        obtain rfl := go_ret hk8
        exact ex_r1 Tb rfl (.tmp rfl) (fun wq hq => ⟨_, rfl, hq.ext, rfl⟩)
      · skip
        replace h := bf c3 h
        refine cw_skip ?_
        refine ex_block_normal ?_
        refine ex_seq ?_
        refine cw_region ?_
        refine wl_u rfl (ow_y (yh_move rfl rfl) rfl rfl (kk_wl ?_))
        refine wl_u rfl (ow_y (yh_arI rfl rfl rfl rfl (by omega)) rfl rfl (kk_wl ?_))
        refine wl_u rfl (ow_y (yh_assign rfl rfl) rfl rfl (kk_wl ?_))
        refine wl_nil ?_
        exact ex_next [] (hn8 (n8, s5 + 1) (Nat.lt_succ_self _) h) ⟨rfl, rfl, rfl, trivial⟩ rfl
    · skip
      replace h := bf c2 h
      have q4 := ltb_false.1 c2
      refine cw_exit ?_
      refine ex_then_exit ?_
      refine ex_then_exit ?_
      obtain rfl := Option.some.inj h
      have h := go_brk hk8
      refine ex_block_exit ?_
      refine ex_seq ?_
      refine cw_seq ?_
      refine cw_region ?_
      refine wl_u rfl (ow_y (yh_assign rfl rfl) rfl rfl (kk_wl ?_))
      refine wl_nil ?_
      refine ex_seq ?_
      refine cw_ret ?_
      obtain rfl := Option.some.inj h
      exact ex_r1 Tb rfl (.tmp rfl) (fun wq hq => ⟨_, rfl, hq.ext, rfl⟩)

def m_laws_sameStep (N : Nat) (a : Step) (b : Step) : Option (Bool) := (bif seq a.name b.name then (bif a.undo == b.undo then (m_laws_sameTexts N a.after b.after).bind fun x22 => some x22
 else some false)
 else some false)

set_option maxHeartbeats 4000000 in
theorem c_laws_sameStep (N : Nat) (a : Step) (b : Step) (res : Bool) (h : m_laws_sameStep N a b = some res) (w : World) {a_a_after a_b_after : Option Addr} {c_a_after c_b_after : Nat} (h_a_after : strsL.rd w [] [.slice a_a_after a.after.length c_a_after] a.after) (h_b_after : strsL.rd w [] [.slice a_b_after b.after.length c_b_after] b.after) : Ret Try.prog 115 [.agg #[.string a.name, .slice a_a_after a.after.length c_a_after, .bool a.undo], .agg #[.string b.name, .slice a_b_after b.after.length c_b_after, .bool b.undo]] w [] fun v w' => v = .bool res := by
  have mh_a_after := rd_max h_a_after
  have mh_b_after := rd_max h_b_after
  unfold m_laws_sameStep at h
  refine ret_enter Try.func115 rfl Try.ntmps115 rfl (Hp.refl w _) ?_
  refine cw_seq ?_
  refine cw_region ?_
  refine wl_u rfl (ow_boxA rfl rfl rfl rfl (fun g2 => kk_wl ?_))
  refine wl_u rfl (ow_boxA rfl rfl rfl rfl (fun g3 => kk_wl ?_))
  refine wl_u rfl (ow_y (yh_assign rfl rfl) rfl rfl (kk_wl ?_))
  refine wl_nil ?_
  refine ex_seq ?_
  refine cw_seq ?_
  refine cw_region ?_
  refine wl_u rfl (ow_y (yh_field Tb rfl rfl rfl) rfl rfl (kk_wl ?_))
  refine wl_u rfl (ow_y (yh_loadB Tb (k := 1) rfl rfl rfl rfl rfl) rfl rfl (kk_wl ?_))
  refine wl_u rfl (ow_y (yh_field Tb rfl rfl rfl) rfl rfl (kk_wl ?_))
  refine wl_u rfl (ow_y (yh_loadB Tb (k := 0) rfl rfl rfl rfl rfl) rfl rfl (kk_wl ?_))
  refine wl_u rfl (ow_y (yh_cmpS rfl rfl rfl rfl) rfl rfl (kk_wl ?_))
  refine wl_u rfl (ow_y (yh_move rfl rfl) rfl rfl (kk_wl ?_))
  refine wl_s rfl rfl (fun c1 => ?_) (fun c1 => ?_)
  · skip
    replace h := bt c1 h
    refine wl_g rfl rfl (ow_y (yh_field Tb rfl rfl rfl) rfl rfl (kk_wl ?_))
    refine wl_g rfl rfl (ow_y (yh_loadB Tb (k := 1) rfl rfl rfl rfl rfl) rfl rfl (kk_wl ?_))
    refine wl_g rfl rfl (ow_y (yh_field Tb rfl rfl rfl) rfl rfl (kk_wl ?_))
    refine wl_g rfl rfl (ow_y (yh_loadB Tb (k := 0) rfl rfl rfl rfl rfl) rfl rfl (kk_wl ?_))
    refine wl_g rfl rfl (ow_y (yh_cmpB rfl rfl rfl rfl (by kernel_rfl)) rfl rfl (kk_wl ?_))
    refine wl_u rfl (ow_y (yh_pickT rfl rfl rfl) rfl rfl (kk_wl ?_))
    refine wl_u rfl (ow_y (yh_move rfl rfl) rfl rfl (kk_wl ?_))
    refine wl_s rfl rfl (fun c2 => ?_) (fun c2 => ?_)
    · skip
      replace h := bt c2 h
      refine wl_g rfl rfl (ow_y (yh_field Tb rfl rfl rfl) rfl rfl (kk_wl ?_))
      refine wl_g rfl rfl (ow_y (yh_loadB Tb (k := 1) rfl rfl rfl rfl rfl) rfl rfl (kk_wl ?_))
      refine wl_g rfl rfl (ow_y (yh_field Tb rfl rfl rfl) rfl rfl (kk_wl ?_))
      refine wl_g rfl rfl (ow_y (yh_loadB Tb (k := 0) rfl rfl rfl rfl rfl) rfl rfl (kk_wl ?_))
      obtain ⟨x22, hx22, h⟩ := bd h
      refine wl_g rfl rfl (ow_cV rfl hb50 rfl (fun w hw => c_laws_sameTexts N _ _ _ hx22 w (Lay.at_ h_a_after hw) (Lay.at_ h_b_after hw)) rfl rfl (kk_wl ?_))
      refine wl_u rfl (ow_y (yh_pickT rfl rfl rfl) rfl rfl (kk_wl ?_))
      refine wl_u rfl (ow_y (yh_assign rfl rfl) rfl rfl (kk_wl ?_))
      refine wl_nil ?_
      refine ex_seq ?_
      refine cw_ret ?_
      obtain rfl := Option.some.inj h
      exact ex_r1 Tb rfl (.tmp rfl) (fun wq hq => ⟨_, rfl, hq.ext, rfl⟩)
    · skip
      replace h := bf c2 h
      refine wl_n rfl rfl rfl rfl ?_
      refine wl_n rfl rfl rfl rfl ?_
      refine wl_n rfl rfl rfl rfl ?_
      refine wl_n rfl rfl rfl rfl ?_
      refine wl_n rfl rfl rfl rfl ?_
      refine wl_u rfl (ow_y (yh_pickF rfl rfl rfl) rfl rfl (kk_wl ?_))
      refine wl_u rfl (ow_y (yh_assign rfl rfl) rfl rfl (kk_wl ?_))
      refine wl_nil ?_
      refine ex_seq ?_
      refine cw_ret ?_
      obtain rfl := Option.some.inj h
      exact ex_r1 Tb rfl (.tmp rfl) (fun wq hq => ⟨_, rfl, hq.ext, rfl⟩)
  · skip
    replace h := bf c1 h
    refine wl_n rfl rfl rfl rfl ?_
    refine wl_n rfl rfl rfl rfl ?_
    refine wl_n rfl rfl rfl rfl ?_
    refine wl_n rfl rfl rfl rfl ?_
    refine wl_n rfl rfl rfl rfl ?_
    refine wl_u rfl (ow_y (yh_pickF rfl rfl rfl) rfl rfl (kk_wl ?_))
    refine wl_u rfl (ow_y (yh_move rfl rfl) rfl rfl (kk_wl ?_))
    refine wl_s rfl rfl nofun (fun _ => ?_)
    refine wl_n rfl rfl rfl rfl ?_
    refine wl_n rfl rfl rfl rfl ?_
    refine wl_n rfl rfl rfl rfl ?_
    refine wl_n rfl rfl rfl rfl ?_
    refine wl_n rfl rfl rfl rfl ?_
    refine wl_u rfl (ow_y (yh_pickF rfl rfl rfl) rfl rfl (kk_wl ?_))
    refine wl_u rfl (ow_y (yh_assign rfl rfl) rfl rfl (kk_wl ?_))
    refine wl_nil ?_
    refine ex_seq ?_
    refine cw_ret ?_
    obtain rfl := Option.some.inj h
    exact ex_r1 Tb rfl (.tmp rfl) (fun wq hq => ⟨_, rfl, hq.ext, rfl⟩)

def m_laws_sameSteps_L8 (N : Nat) (a : List Step) (b : List Step) : Nat → Nat → Option (Ex (Nat) (Bool))
  | 0, _ => none
  | n + 1, s5 => (bif ltb ((s5 : Nat) : Int) ((a.length : Nat) : Int) then (a[s5]?).bind fun y19 => (b[s5]?).bind fun y23 => (m_laws_sameStep N y19 y23).bind fun x25 => (bif !x25 then some (Ex.ret false)
 else m_laws_sameSteps_L8 N a b n (s5 + 1))
 else some (Ex.brk (s5)))

def m_laws_sameSteps (N : Nat) (a : List Step) (b : List Step) : Option (Bool) := (bif !(eqb ((a.length : Nat) : Int) ((b.length : Nat) : Int)) then some false
 else (m_laws_sameSteps_L8 N a b N 0).bind fun e8 => e8.go (fun r => r) fun b8 => some true)

set_option maxHeartbeats 4000000 in
theorem c_laws_sameSteps (N : Nat) (a : List Step) (b : List Step) (res : Bool) (h : m_laws_sameSteps N a b = some res) (w : World) {a_a a_b : Option Addr} {c_a c_b : Nat} (h_a : stepsL.rd w [] [.slice a_a a.length c_a] a) (h_b : stepsL.rd w [] [.slice a_b b.length c_b] b) : Ret Try.prog 76 [.slice a_a a.length c_a, .slice a_b b.length c_b] w [] fun v w' => v = .bool res := by
  have mh_a := rd_max h_a
  have mh_b := rd_max h_b
  unfold m_laws_sameSteps at h
  refine ret_enter Try.func76 rfl Try.ntmps76 rfl (Hp.refl w _) ?_
  refine cw_seq ?_
  refine cw_region ?_
  refine wl_u rfl (ow_y (yh_assign rfl rfl) rfl rfl (kk_wl ?_))
  refine wl_nil ?_
  refine ex_seq ?_
  refine cw_seq ?_
  refine cw_seq ?_
  refine cw_region ?_
  refine wl_u rfl (ow_y (yh_move rfl rfl) rfl rfl (kk_wl ?_))
  refine wl_u rfl (ow_y (yh_lenS Tb rfl rfl rfl rfl) rfl rfl (kk_wl ?_))
  refine wl_u rfl (ow_y (yh_move rfl rfl) rfl rfl (kk_wl ?_))
  refine wl_u rfl (ow_y (yh_lenS Tb rfl rfl rfl rfl) rfl rfl (kk_wl ?_))
  refine wl_u rfl (ow_y (yh_cmpI rfl rfl rfl rfl) rfl rfl (kk_wl ?_))
  refine wl_nil ?_
  refine ex_seq ?_
  refine cw_split rfl (fun c1 => ?_) (fun c1 => ?_)
  · skip
    replace h := bt c1 h
    have q1 := eqb_false.1 (nt c1)
    refine cw_seq ?_
    refine cw_region ?_
    refine wl_u rfl (ow_y (yh_assign rfl rfl) rfl rfl (kk_wl ?_))
    refine wl_nil ?_
    refine ex_seq ?_
    refine cw_ret ?_
    refine ex_then_ret ?_
    obtain rfl := Option.some.inj h
    exact ex_r1 Tb rfl (.tmp rfl) (fun wq hq => ⟨_, rfl, hq.ext, rfl⟩)
  · skip
    replace h := bf c1 h
    have q2 := eqb_true.1 (nf c1)
    refine cw_skip ?_
    refine ex_seq ?_
    refine cw_seq ?_
    refine cw_seq ?_
    refine cw_region ?_
    refine wl_u rfl (ow_y (yh_assign rfl rfl) rfl rfl (kk_wl ?_))
    refine wl_nil ?_
    refine ex_seq ?_
    refine cw_block ?_
    obtain ⟨e8, he8, hk8⟩ := bd h
    clear h
    refine cw_loopG (σ := Nat × Nat) (fun s => m_laws_sameSteps_L8 N a b s.1 s.2 = some e8) (fun s => [(0, .slice a_a a.length c_a), (1, .slice a_b b.length c_b), (5, .int .i64 ((s.2 : Nat) : Int))]) (fun s => []) (fun s => s.1) (N, 0) [] he8 ⟨rfl, rfl, rfl, trivial⟩ rfl (fun KL s he8 hn8 => ?_)
    obtain ⟨n8, s5⟩ := s
    simp only at he8 hn8 ⊢
    rcases n8 with _ | n8
    · exact nosome he8
    have h := he8; rw [m_laws_sameSteps_L8] at h
    refine cw_seq ?_
    refine cw_seq ?_
    refine cw_region ?_
    refine wl_u rfl (ow_y (yh_move rfl rfl) rfl rfl (kk_wl ?_))
    refine wl_u rfl (ow_y (yh_move rfl rfl) rfl rfl (kk_wl ?_))
    refine wl_u rfl (ow_y (yh_lenS Tb rfl rfl rfl rfl) rfl rfl (kk_wl ?_))
    refine wl_u rfl (ow_y (yh_cmpI rfl rfl rfl rfl) rfl rfl (kk_wl ?_))
    refine wl_nil ?_
    refine ex_seq ?_
    refine cw_split rfl (fun c2 => ?_) (fun c2 => ?_)
    · skip
      replace h := bt c2 h
      have q3 := ltb_true.1 c2
      refine cw_skip ?_
      refine ex_seq ?_
      refine cw_seq ?_
      refine cw_block ?_
      refine cw_seq ?_
      refine cw_dr [0, 1, 2, 3, 4, 5, 6, 7, 9] [] [] (by kernel_rfl) ?_
      refine wd_take (i := 0) [] rfl rfl rfl rfl rfl (by kernel_rfl) rfl (fun _ _ _ _ h => h) (yh_move rfl rfl) ?_
      refine wd_take (i := 1) [] rfl rfl rfl rfl rfl (by kernel_rfl) rfl (fun _ _ _ _ h => h) (yh_move rfl rfl) ?_
      obtain ⟨y19, hy19, h⟩ := bd h
      obtain ⟨b19, o19, ha19⟩ := sl_addr h_a hy19
      subst ha19
      obtain ⟨a19, e19, hc19, hf19⟩ := get_step h_a hy19
      have mx19 := rd_max hf19
      refine wd_take (i := 2) [] rfl rfl rfl rfl rfl (by kernel_rfl) rfl (fun _ _ _ _ h => h) (yh_idx Tb (k := s5) rfl rfl rfl rfl (get_lt hy19) rfl rfl) ?_
      refine wd_take (i := 3) [] rfl rfl rfl rfl rfl (by kernel_rfl) rfl (fun _ _ _ _ h => h) (yh_loadAN Tb rfl rfl rfl rfl hc19 rfl) ?_
      refine wd_take (i := 4) [] rfl rfl rfl rfl rfl (by kernel_rfl) rfl (fun _ _ _ _ h => h) (yh_move rfl rfl) ?_
      refine wd_take (i := 5) [] rfl rfl rfl rfl rfl (by kernel_rfl) rfl (fun _ _ _ _ h => h) (yh_move rfl rfl) ?_
      obtain ⟨y23, hy23, h⟩ := bd h
      obtain ⟨b23, o23, ha23⟩ := sl_addr h_b hy23
      subst ha23
      obtain ⟨a23, e23, hc23, hf23⟩ := get_step h_b hy23
      have mx23 := rd_max hf23
      refine wd_take (i := 6) [] rfl rfl rfl rfl rfl (by kernel_rfl) rfl (fun _ _ _ _ h => h) (yh_idx Tb (k := s5) rfl rfl rfl rfl (get_lt hy23) rfl rfl) ?_
      refine wd_take (i := 7) [] rfl rfl rfl rfl rfl (by kernel_rfl) rfl (fun _ _ _ _ h => h) (yh_loadAN Tb rfl rfl rfl rfl hc23 rfl) ?_
      obtain ⟨x25, hx25, h⟩ := bd h
      refine wd_one 8 rfl rfl (by kernel_rfl) (ow_cV rfl hb115 rfl (fun w hw => c_laws_sameStep N _ _ _ hx25 w (Lay.at_ hf19 hw) (Lay.at_ hf23 hw)) rfl rfl (kk_wd [] rfl ?_))
      refine wd_take (i := 9) [] rfl rfl rfl rfl rfl (by kernel_rfl) rfl (fun _ _ _ _ h => h) (yh_not rfl rfl) ?_
      refine wd_done (by kernel_rfl) ?_
      refine ex_seq ?_
      refine cw_split rfl (fun c3 => ?_) (fun c3 => ?_)
      · skip
        replace h := bt c3 h
        refine cw_seq ?_
        refine cw_region ?_
        refine wl_u rfl (ow_y (yh_assign rfl rfl) rfl rfl (kk_wl ?_))
        refine wl_nil ?_
        refine ex_seq ?_
        refine cw_ret ?_
        refine ex_block_ret ?_
        refine ex_then_ret ?_
        refine ex_then_ret ?_
        refine ex_block_ret ?_
        refine ex_then_ret ?_
        obtain rfl := Option.some.inj h
        obtain rfl := go_ret hk8
        exact ex_r1 Tb rfl (.tmp rfl) (fun wq hq => ⟨_, rfl, hq.ext, rfl⟩)
      · skip
        replace h := bf c3 h
        refine cw_skip ?_
        refine ex_block_normal ?_
        refine ex_seq ?_
        refine cw_region ?_
        refine wl_u rfl (ow_y (yh_move rfl rfl) rfl rfl (kk_wl ?_))
        refine wl_u rfl (ow_y (yh_arI rfl rfl rfl rfl (by omega)) rfl rfl (kk_wl ?_))
        refine wl_u rfl (ow_y (yh_assign rfl rfl) rfl rfl (kk_wl ?_))
        refine wl_nil ?_
        exact ex_next [] (hn8 (n8, s5 + 1) (Nat.lt_succ_self _) h) ⟨rfl, rfl, rfl, trivial⟩ rfl
    · skip
      replace h := bf c2 h
      have q4 := ltb_false.1 c2
      refine cw_exit ?_
      refine ex_then_exit ?_
      refine ex_then_exit ?_
      obtain rfl := Option.some.inj h
      have h := go_brk hk8
      refine ex_block_exit ?_
      refine ex_seq ?_
      refine cw_seq ?_
      refine cw_region ?_
      refine wl_u rfl (ow_y (yh_assign rfl rfl) rfl rfl (kk_wl ?_))
      refine wl_nil ?_
      refine ex_seq ?_
      refine cw_ret ?_
      obtain rfl := Option.some.inj h
      exact ex_r1 Tb rfl (.tmp rfl) (fun wq hq => ⟨_, rfl, hq.ext, rfl⟩)

def m_laws_sameFlow (N : Nat) (a : Flow) (b : Flow) : Option (Bool) := (bif eqb a.ver b.ver then (m_laws_sameSteps N a.steps b.steps).bind fun x15 => some x15
 else some false)

set_option maxHeartbeats 4000000 in
theorem c_laws_sameFlow (N : Nat) (a : Flow) (b : Flow) (res : Bool) (h : m_laws_sameFlow N a b = some res) (w : World) {a_a_steps a_b_steps : Option Addr} {c_a_steps c_b_steps : Nat} (h_a_steps : stepsL.rd w [] [.slice a_a_steps a.steps.length c_a_steps] a.steps) (h_b_steps : stepsL.rd w [] [.slice a_b_steps b.steps.length c_b_steps] b.steps) : Ret Try.prog 25 [.agg #[.int .i64 a.ver, .slice a_a_steps a.steps.length c_a_steps], .agg #[.int .i64 b.ver, .slice a_b_steps b.steps.length c_b_steps]] w [] fun v w' => v = .bool res := by
  have mh_a_steps := rd_max h_a_steps
  have mh_b_steps := rd_max h_b_steps
  unfold m_laws_sameFlow at h
  refine ret_enter Try.func25 rfl Try.ntmps25 rfl (Hp.refl w _) ?_
  refine cw_seq ?_
  refine cw_region ?_
  refine wl_u rfl (ow_boxA rfl rfl rfl rfl (fun g2 => kk_wl ?_))
  refine wl_u rfl (ow_boxA rfl rfl rfl rfl (fun g3 => kk_wl ?_))
  refine wl_u rfl (ow_y (yh_assign rfl rfl) rfl rfl (kk_wl ?_))
  refine wl_nil ?_
  refine ex_seq ?_
  refine cw_seq ?_
  refine cw_region ?_
  refine wl_u rfl (ow_y (yh_field Tb rfl rfl rfl) rfl rfl (kk_wl ?_))
  refine wl_u rfl (ow_y (yh_loadB Tb (k := 1) rfl rfl rfl rfl rfl) rfl rfl (kk_wl ?_))
  refine wl_u rfl (ow_y (yh_field Tb rfl rfl rfl) rfl rfl (kk_wl ?_))
  refine wl_u rfl (ow_y (yh_loadB Tb (k := 0) rfl rfl rfl rfl rfl) rfl rfl (kk_wl ?_))
  refine wl_u rfl (ow_y (yh_cmpI rfl rfl rfl rfl) rfl rfl (kk_wl ?_))
  refine wl_u rfl (ow_y (yh_move rfl rfl) rfl rfl (kk_wl ?_))
  refine wl_s rfl rfl (fun c1 => ?_) (fun c1 => ?_)
  · skip
    replace h := bt c1 h
    have q1 := eqb_true.1 c1
    refine wl_g rfl rfl (ow_y (yh_field Tb rfl rfl rfl) rfl rfl (kk_wl ?_))
    refine wl_g rfl rfl (ow_y (yh_loadB Tb (k := 1) rfl rfl rfl rfl rfl) rfl rfl (kk_wl ?_))
    refine wl_g rfl rfl (ow_y (yh_field Tb rfl rfl rfl) rfl rfl (kk_wl ?_))
    refine wl_g rfl rfl (ow_y (yh_loadB Tb (k := 0) rfl rfl rfl rfl rfl) rfl rfl (kk_wl ?_))
    obtain ⟨x15, hx15, h⟩ := bd h
    refine wl_g rfl rfl (ow_cV rfl hb76 rfl (fun w hw => c_laws_sameSteps N _ _ _ hx15 w (Lay.at_ h_a_steps hw) (Lay.at_ h_b_steps hw)) rfl rfl (kk_wl ?_))
    refine wl_u rfl (ow_y (yh_pickT rfl rfl rfl) rfl rfl (kk_wl ?_))
    refine wl_u rfl (ow_y (yh_assign rfl rfl) rfl rfl (kk_wl ?_))
    refine wl_nil ?_
    refine ex_seq ?_
    refine cw_ret ?_
    obtain rfl := Option.some.inj h
    exact ex_r1 Tb rfl (.tmp rfl) (fun wq hq => ⟨_, rfl, hq.ext, rfl⟩)
  · skip
    replace h := bf c1 h
    have q2 := eqb_false.1 c1
    refine wl_n rfl rfl rfl rfl ?_
    refine wl_n rfl rfl rfl rfl ?_
    refine wl_n rfl rfl rfl rfl ?_
    refine wl_n rfl rfl rfl rfl ?_
    refine wl_n rfl rfl rfl rfl ?_
    refine wl_u rfl (ow_y (yh_pickF rfl rfl rfl) rfl rfl (kk_wl ?_))
    refine wl_u rfl (ow_y (yh_assign rfl rfl) rfl rfl (kk_wl ?_))
    refine wl_nil ?_
    refine ex_seq ?_
    refine cw_ret ?_
    obtain rfl := Option.some.inj h
    exact ex_r1 Tb rfl (.tmp rfl) (fun wq hq => ⟨_, rfl, hq.ext, rfl⟩)

def m_laws_sameFlows_L8 (N : Nat) (a : List Flow) (b : List Flow) : Nat → Nat → Option (Ex (Nat) (Bool))
  | 0, _ => none
  | n + 1, s5 => (bif ltb ((s5 : Nat) : Int) ((a.length : Nat) : Int) then (a[s5]?).bind fun y19 => (b[s5]?).bind fun y23 => (m_laws_sameFlow N y19 y23).bind fun x25 => (bif !x25 then some (Ex.ret false)
 else m_laws_sameFlows_L8 N a b n (s5 + 1))
 else some (Ex.brk (s5)))

def m_laws_sameFlows (N : Nat) (a : List Flow) (b : List Flow) : Option (Bool) := (bif !(eqb ((a.length : Nat) : Int) ((b.length : Nat) : Int)) then some false
 else (m_laws_sameFlows_L8 N a b N 0).bind fun e8 => e8.go (fun r => r) fun b8 => some true)

set_option maxHeartbeats 4000000 in
theorem c_laws_sameFlows (N : Nat) (a : List Flow) (b : List Flow) (res : Bool) (h : m_laws_sameFlows N a b = some res) (w : World) {a_a a_b : Option Addr} {c_a c_b : Nat} (h_a : flowsL.rd w [] [.slice a_a a.length c_a] a) (h_b : flowsL.rd w [] [.slice a_b b.length c_b] b) : Ret Try.prog 18 [.slice a_a a.length c_a, .slice a_b b.length c_b] w [] fun v w' => v = .bool res := by
  have mh_a := rd_max h_a
  have mh_b := rd_max h_b
  unfold m_laws_sameFlows at h
  refine ret_enter Try.func18 rfl Try.ntmps18 rfl (Hp.refl w _) ?_
  refine cw_seq ?_
  refine cw_region ?_
  refine wl_u rfl (ow_y (yh_assign rfl rfl) rfl rfl (kk_wl ?_))
  refine wl_nil ?_
  refine ex_seq ?_
  refine cw_seq ?_
  refine cw_seq ?_
  refine cw_region ?_
  refine wl_u rfl (ow_y (yh_move rfl rfl) rfl rfl (kk_wl ?_))
  refine wl_u rfl (ow_y (yh_lenS Tb rfl rfl rfl rfl) rfl rfl (kk_wl ?_))
  refine wl_u rfl (ow_y (yh_move rfl rfl) rfl rfl (kk_wl ?_))
  refine wl_u rfl (ow_y (yh_lenS Tb rfl rfl rfl rfl) rfl rfl (kk_wl ?_))
  refine wl_u rfl (ow_y (yh_cmpI rfl rfl rfl rfl) rfl rfl (kk_wl ?_))
  refine wl_nil ?_
  refine ex_seq ?_
  refine cw_split rfl (fun c1 => ?_) (fun c1 => ?_)
  · skip
    replace h := bt c1 h
    have q1 := eqb_false.1 (nt c1)
    refine cw_seq ?_
    refine cw_region ?_
    refine wl_u rfl (ow_y (yh_assign rfl rfl) rfl rfl (kk_wl ?_))
    refine wl_nil ?_
    refine ex_seq ?_
    refine cw_ret ?_
    refine ex_then_ret ?_
    obtain rfl := Option.some.inj h
    exact ex_r1 Tb rfl (.tmp rfl) (fun wq hq => ⟨_, rfl, hq.ext, rfl⟩)
  · skip
    replace h := bf c1 h
    have q2 := eqb_true.1 (nf c1)
    refine cw_skip ?_
    refine ex_seq ?_
    refine cw_seq ?_
    refine cw_seq ?_
    refine cw_region ?_
    refine wl_u rfl (ow_y (yh_assign rfl rfl) rfl rfl (kk_wl ?_))
    refine wl_nil ?_
    refine ex_seq ?_
    refine cw_block ?_
    obtain ⟨e8, he8, hk8⟩ := bd h
    clear h
    refine cw_loopG (σ := Nat × Nat) (fun s => m_laws_sameFlows_L8 N a b s.1 s.2 = some e8) (fun s => [(0, .slice a_a a.length c_a), (1, .slice a_b b.length c_b), (5, .int .i64 ((s.2 : Nat) : Int))]) (fun s => []) (fun s => s.1) (N, 0) [] he8 ⟨rfl, rfl, rfl, trivial⟩ rfl (fun KL s he8 hn8 => ?_)
    obtain ⟨n8, s5⟩ := s
    simp only at he8 hn8 ⊢
    rcases n8 with _ | n8
    · exact nosome he8
    have h := he8; rw [m_laws_sameFlows_L8] at h
    refine cw_seq ?_
    refine cw_seq ?_
    refine cw_region ?_
    refine wl_u rfl (ow_y (yh_move rfl rfl) rfl rfl (kk_wl ?_))
    refine wl_u rfl (ow_y (yh_move rfl rfl) rfl rfl (kk_wl ?_))
    refine wl_u rfl (ow_y (yh_lenS Tb rfl rfl rfl rfl) rfl rfl (kk_wl ?_))
    refine wl_u rfl (ow_y (yh_cmpI rfl rfl rfl rfl) rfl rfl (kk_wl ?_))
    refine wl_nil ?_
    refine ex_seq ?_
    refine cw_split rfl (fun c2 => ?_) (fun c2 => ?_)
    · skip
      replace h := bt c2 h
      have q3 := ltb_true.1 c2
      refine cw_skip ?_
      refine ex_seq ?_
      refine cw_seq ?_
      refine cw_block ?_
      refine cw_seq ?_
      refine cw_dr [0, 1, 2, 3, 4, 5, 6, 7, 9] [] [] (by kernel_rfl) ?_
      refine wd_take (i := 0) [] rfl rfl rfl rfl rfl (by kernel_rfl) rfl (fun _ _ _ _ h => h) (yh_move rfl rfl) ?_
      refine wd_take (i := 1) [] rfl rfl rfl rfl rfl (by kernel_rfl) rfl (fun _ _ _ _ h => h) (yh_move rfl rfl) ?_
      obtain ⟨y19, hy19, h⟩ := bd h
      obtain ⟨b19, o19, ha19⟩ := sl_addr h_a hy19
      subst ha19
      obtain ⟨a19, e19, hc19, hf19⟩ := get_flow h_a hy19
      have mx19 := rd_max hf19
      refine wd_take (i := 2) [] rfl rfl rfl rfl rfl (by kernel_rfl) rfl (fun _ _ _ _ h => h) (yh_idx Tb (k := s5) rfl rfl rfl rfl (get_lt hy19) rfl rfl) ?_
      refine wd_take (i := 3) [] rfl rfl rfl rfl rfl (by kernel_rfl) rfl (fun _ _ _ _ h => h) (yh_loadAN Tb rfl rfl rfl rfl hc19 rfl) ?_
      refine wd_take (i := 4) [] rfl rfl rfl rfl rfl (by kernel_rfl) rfl (fun _ _ _ _ h => h) (yh_move rfl rfl) ?_
      refine wd_take (i := 5) [] rfl rfl rfl rfl rfl (by kernel_rfl) rfl (fun _ _ _ _ h => h) (yh_move rfl rfl) ?_
      obtain ⟨y23, hy23, h⟩ := bd h
      obtain ⟨b23, o23, ha23⟩ := sl_addr h_b hy23
      subst ha23
      obtain ⟨a23, e23, hc23, hf23⟩ := get_flow h_b hy23
      have mx23 := rd_max hf23
      refine wd_take (i := 6) [] rfl rfl rfl rfl rfl (by kernel_rfl) rfl (fun _ _ _ _ h => h) (yh_idx Tb (k := s5) rfl rfl rfl rfl (get_lt hy23) rfl rfl) ?_
      refine wd_take (i := 7) [] rfl rfl rfl rfl rfl (by kernel_rfl) rfl (fun _ _ _ _ h => h) (yh_loadAN Tb rfl rfl rfl rfl hc23 rfl) ?_
      obtain ⟨x25, hx25, h⟩ := bd h
      refine wd_one 8 rfl rfl (by kernel_rfl) (ow_cV rfl hb25 rfl (fun w hw => c_laws_sameFlow N _ _ _ hx25 w (Lay.at_ hf19 hw) (Lay.at_ hf23 hw)) rfl rfl (kk_wd [] rfl ?_))
      refine wd_take (i := 9) [] rfl rfl rfl rfl rfl (by kernel_rfl) rfl (fun _ _ _ _ h => h) (yh_not rfl rfl) ?_
      refine wd_done (by kernel_rfl) ?_
      refine ex_seq ?_
      refine cw_split rfl (fun c3 => ?_) (fun c3 => ?_)
      · skip
        replace h := bt c3 h
        refine cw_seq ?_
        refine cw_region ?_
        refine wl_u rfl (ow_y (yh_assign rfl rfl) rfl rfl (kk_wl ?_))
        refine wl_nil ?_
        refine ex_seq ?_
        refine cw_ret ?_
        refine ex_block_ret ?_
        refine ex_then_ret ?_
        refine ex_then_ret ?_
        refine ex_block_ret ?_
        refine ex_then_ret ?_
        obtain rfl := Option.some.inj h
        obtain rfl := go_ret hk8
        exact ex_r1 Tb rfl (.tmp rfl) (fun wq hq => ⟨_, rfl, hq.ext, rfl⟩)
      · skip
        replace h := bf c3 h
        refine cw_skip ?_
        refine ex_block_normal ?_
        refine ex_seq ?_
        refine cw_region ?_
        refine wl_u rfl (ow_y (yh_move rfl rfl) rfl rfl (kk_wl ?_))
        refine wl_u rfl (ow_y (yh_arI rfl rfl rfl rfl (by omega)) rfl rfl (kk_wl ?_))
        refine wl_u rfl (ow_y (yh_assign rfl rfl) rfl rfl (kk_wl ?_))
        refine wl_nil ?_
        exact ex_next [] (hn8 (n8, s5 + 1) (Nat.lt_succ_self _) h) ⟨rfl, rfl, rfl, trivial⟩ rfl
    · skip
      replace h := bf c2 h
      have q4 := ltb_false.1 c2
      refine cw_exit ?_
      refine ex_then_exit ?_
      refine ex_then_exit ?_
      obtain rfl := Option.some.inj h
      have h := go_brk hk8
      refine ex_block_exit ?_
      refine ex_seq ?_
      refine cw_seq ?_
      refine cw_region ?_
      refine wl_u rfl (ow_y (yh_assign rfl rfl) rfl rfl (kk_wl ?_))
      refine wl_nil ?_
      refine ex_seq ?_
      refine cw_ret ?_
      obtain rfl := Option.some.inj h
      exact ex_r1 Tb rfl (.tmp rfl) (fun wq hq => ⟨_, rfl, hq.ext, rfl⟩)

def m_slices_EqualFunc_Step_L7 (N : Nat) (s1 : List Step) (s2 : List Step) (eq : Step → Step → Option Bool) : Nat → Nat → Option (Ex (Nat) (Bool))
  | 0, _ => none
  | n + 1, s17 => (bif ltb ((s17 : Nat) : Int) ((s1.length : Nat) : Int) then (s1[s17]?).bind fun y20 => (s2[s17]?).bind fun y24 => (eq y20 y24).bind fun x29 => (bif !x29 then some (Ex.ret false)
 else m_slices_EqualFunc_Step_L7 N s1 s2 eq n (s17 + 1))
 else some (Ex.brk (s17)))

def m_slices_EqualFunc_Step (N : Nat) (s1 : List Step) (s2 : List Step) (eq : Step → Step → Option Bool) : Option (Bool) := (bif !(eqb ((s1.length : Nat) : Int) ((s2.length : Nat) : Int)) then some false
 else (m_slices_EqualFunc_Step_L7 N s1 s2 eq N 0).bind fun e7 => e7.go (fun r => r) fun b7 => some true)

set_option maxHeartbeats 4000000 in
theorem c_slices_EqualFunc_Step (N : Nat) (s1 : List Step) (s2 : List Step) (eq : Step → Step → Option Bool) (res : Bool) (h : m_slices_EqualFunc_Step N s1 s2 eq = some res) (w : World) {a_s1 a_s2 : Option Addr} {c_s1 c_s2 : Nat} {k_eq : FuncId} {caps_eq : List Value} (h_s1 : stepsL.rd w [] [.slice a_s1 s1.length c_s1] s1) (h_s2 : stepsL.rd w [] [.slice a_s2 s2.length c_s2] s2) (hb_eq : hasBody Try.prog k_eq) (hf_eq : ∀ x0 x1 b, eq x0 x1 = some b → ∀ w', ExtM [] w w' → ∀ a1 c1 a2 c2, strsL.rd w' [] [.slice a1 x0.after.length c1] x0.after → strsL.rd w' [] [.slice a2 x1.after.length c2] x1.after → Ret Try.prog k_eq ([.agg #[.string x0.name, .slice a1 x0.after.length c1, .bool x0.undo], .agg #[.string x1.name, .slice a2 x1.after.length c2, .bool x1.undo]] ++ caps_eq) w' [] fun v _ => v = .bool b) : Ret Try.prog 68 [.slice a_s1 s1.length c_s1, .slice a_s2 s2.length c_s2, .func (.func k_eq) #[] caps_eq.toArray] w [] fun v w' => v = .bool res := by
  have mh_s1 := rd_max h_s1
  have mh_s2 := rd_max h_s2
  unfold m_slices_EqualFunc_Step at h
  refine ret_enter Try.func68 rfl Try.ntmps68 rfl (Hp.refl w _) ?_
  refine cw_seq ?_
  refine cw_region ?_
  refine wl_u rfl (ow_y (yh_assign rfl rfl) rfl rfl (kk_wl ?_))
  refine wl_nil ?_
  refine ex_seq ?_
  refine cw_seq ?_
  refine cw_seq ?_
  refine cw_region ?_
  refine wl_u rfl (ow_y (yh_move rfl rfl) rfl rfl (kk_wl ?_))
  refine wl_u rfl (ow_y (yh_lenS Tb rfl rfl rfl rfl) rfl rfl (kk_wl ?_))
  refine wl_u rfl (ow_y (yh_move rfl rfl) rfl rfl (kk_wl ?_))
  refine wl_u rfl (ow_y (yh_lenS Tb rfl rfl rfl rfl) rfl rfl (kk_wl ?_))
  refine wl_u rfl (ow_y (yh_cmpI rfl rfl rfl rfl) rfl rfl (kk_wl ?_))
  refine wl_nil ?_
  refine ex_seq ?_
  refine cw_split rfl (fun c1 => ?_) (fun c1 => ?_)
  · skip
    replace h := bt c1 h
    have q1 := eqb_false.1 (nt c1)
    refine cw_seq ?_
    refine cw_region ?_
    refine wl_u rfl (ow_y (yh_assign rfl rfl) rfl rfl (kk_wl ?_))
    refine wl_nil ?_
    refine ex_seq ?_
    refine cw_ret ?_
    refine ex_then_ret ?_
    obtain rfl := Option.some.inj h
    exact ex_r1 Tb rfl (.tmp rfl) (fun wq hq => ⟨_, rfl, hq.ext, rfl⟩)
  · skip
    replace h := bf c1 h
    have q2 := eqb_true.1 (nf c1)
    refine cw_skip ?_
    refine ex_seq ?_
    refine cw_seq ?_
    refine cw_seq ?_
    refine cw_region ?_
    refine wl_u rfl (ow_y (yh_move rfl rfl) rfl rfl (kk_wl ?_))
    refine wl_u rfl (ow_y (yh_lenS Tb rfl rfl rfl rfl) rfl rfl (kk_wl ?_))
    refine wl_u rfl (ow_y (yh_move rfl rfl) rfl rfl (kk_wl ?_))
    refine wl_nil ?_
    refine ex_seq ?_
    refine cw_block ?_
    obtain ⟨e7, he7, hk7⟩ := bd h
    clear h
    refine cw_loopG (σ := Nat × Nat) (fun s => m_slices_EqualFunc_Step_L7 N s1 s2 eq s.1 s.2 = some e7) (fun s => [(1, .slice a_s2 s2.length c_s2), (2, .func (.func k_eq) #[] caps_eq.toArray), (15, .slice a_s1 s1.length c_s1), (16, .int .i64 ((s1.length : Nat) : Int)), (17, .int .i64 ((s.2 : Nat) : Int))]) (fun s => []) (fun s => s.1) (N, 0) [] he7 ⟨rfl, rfl, rfl, rfl, rfl, trivial⟩ rfl (fun KL s he7 hn7 => ?_)
    obtain ⟨n7, s17⟩ := s
    simp only at he7 hn7 ⊢
    rcases n7 with _ | n7
    · exact nosome he7
    have h := he7; rw [m_slices_EqualFunc_Step_L7] at h
    refine cw_seq ?_
    refine cw_region ?_
    refine wl_u rfl (ow_y (yh_cmpI rfl rfl rfl rfl) rfl rfl (kk_wl ?_))
    refine wl_nil ?_
    refine ex_seq ?_
    refine cw_seq ?_
    refine cw_split rfl (fun c2 => ?_) (fun c2 => ?_)
    · skip
      replace h := bt c2 h
      have q3 := ltb_true.1 c2
      refine cw_skip ?_
      refine ex_seq ?_
      refine cw_seq ?_
      refine cw_block ?_
      refine cw_seq ?_
      refine cw_region ?_
      refine wl_u rfl (ow_y (yh_move rfl rfl) rfl rfl (kk_wl ?_))
      obtain ⟨y20, hy20, h⟩ := bd h
      obtain ⟨b20, o20, ha20⟩ := sl_addr h_s1 hy20
      subst ha20
      obtain ⟨a20, e20, hc20, hf20⟩ := get_step h_s1 hy20
      have mx20 := rd_max hf20
      refine wl_u rfl (ow_y (yh_idx Tb (k := s17) rfl rfl rfl rfl (get_lt hy20) rfl rfl) rfl rfl (kk_wl ?_))
      refine wl_u rfl (ow_y (yh_loadAN Tb rfl rfl rfl rfl hc20 rfl) rfl rfl (kk_wl ?_))
      refine wl_u rfl (ow_allocA Tb rfl rfl rfl rfl (fun g8 => kk_wl ?_))
      refine wl_u rfl (ow_y (yh_assign rfl rfl) rfl rfl (kk_wl ?_))
      refine wl_u rfl (ow_storeA Tb (k := 0) rfl rfl rfl rfl rfl rfl rfl rfl rfl (kk_wl ?_))
      refine wl_nil ?_
      refine ex_seq ?_
      refine cw_seq ?_
      refine cw_region ?_
      refine wl_u rfl (ow_y (yh_move rfl rfl) rfl rfl (kk_wl ?_))
      refine wl_u rfl (ow_y (yh_move rfl rfl) rfl rfl (kk_wl ?_))
      obtain ⟨y24, hy24, h⟩ := bd h
      obtain ⟨b24, o24, ha24⟩ := sl_addr h_s2 hy24
      subst ha24
      obtain ⟨a24, e24, hc24, hf24⟩ := get_step h_s2 hy24
      have mx24 := rd_max hf24
      refine wl_u rfl (ow_y (yh_idx Tb (k := s17) rfl rfl rfl rfl (get_lt hy24) rfl rfl) rfl rfl (kk_wl ?_))
      refine wl_u rfl (ow_y (yh_loadAN Tb rfl rfl rfl rfl hc24 rfl) rfl rfl (kk_wl ?_))
      refine wl_u rfl (ow_allocA Tb rfl rfl rfl rfl (fun g9 => kk_wl ?_))
      refine wl_u rfl (ow_storeA Tb (k := 0) rfl rfl rfl rfl rfl rfl rfl rfl rfl (kk_wl ?_))
      refine wl_nil ?_
      refine ex_seq ?_
      refine cw_seq ?_
      refine cw_region ?_
      refine wl_u rfl (ow_y (yh_move rfl rfl) rfl rfl (kk_wl ?_))
      refine wl_u rfl (ow_y (yh_loadBA Tb (k := 1) rfl rfl rfl rfl rfl rfl) rfl rfl (kk_wl ?_))
      refine wl_u rfl (ow_y (yh_loadBA Tb (k := 0) rfl rfl rfl rfl rfl rfl) rfl rfl (kk_wl ?_))
      obtain ⟨x29, hx29, h⟩ := bd h
      refine wl_u rfl (ow_callV rfl rfl hb_eq rfl rfl (fun w hw => hf_eq _ _ _ hx29 w hw.ext _ _ _ _ (Lay.at_ hf20 hw) (Lay.at_ hf24 hw)) rfl rfl (kk_wl ?_))
      refine wl_u rfl (ow_y (yh_not rfl rfl) rfl rfl (kk_wl ?_))
      refine wl_nil ?_
      refine ex_seq ?_
      refine cw_split rfl (fun c3 => ?_) (fun c3 => ?_)
      · skip
        replace h := bt c3 h
        refine cw_seq ?_
        refine cw_region ?_
        refine wl_u rfl (ow_y (yh_assign rfl rfl) rfl rfl (kk_wl ?_))
        refine wl_nil ?_
        refine ex_seq ?_
        refine cw_ret ?_
        refine ex_block_ret ?_
        refine ex_then_ret ?_
        refine ex_then_ret ?_
        refine ex_block_ret ?_
        refine ex_then_ret ?_
        obtain rfl := Option.some.inj h
        obtain rfl := go_ret hk7
        exact ex_r1 Tb rfl (.tmp rfl) (fun wq hq => ⟨_, rfl, hq.ext, rfl⟩)
      · skip
        replace h := bf c3 h
        refine cw_skip ?_
        refine ex_block_normal ?_
        refine ex_seq ?_
        refine cw_region ?_
        refine wl_u rfl (ow_y (yh_arI rfl rfl rfl rfl (by omega)) rfl rfl (kk_wl ?_))
        refine wl_u rfl (ow_y (yh_move rfl rfl) rfl rfl (kk_wl ?_))
        refine wl_nil ?_
        exact ex_next [] (hn7 (n7, s17 + 1) (Nat.lt_succ_self _) h) ⟨rfl, rfl, rfl, rfl, rfl, trivial⟩ rfl
    · skip
      replace h := bf c2 h
      have q4 := ltb_false.1 c2
      refine cw_exit ?_
      refine ex_then_exit ?_
      refine ex_then_exit ?_
      obtain rfl := Option.some.inj h
      have h := go_brk hk7
      refine ex_block_exit ?_
      refine ex_seq ?_
      refine cw_seq ?_
      refine cw_region ?_
      refine wl_u rfl (ow_y (yh_assign rfl rfl) rfl rfl (kk_wl ?_))
      refine wl_nil ?_
      refine ex_seq ?_
      refine cw_ret ?_
      obtain rfl := Option.some.inj h
      exact ex_r1 Tb rfl (.tmp rfl) (fun wq hq => ⟨_, rfl, hq.ext, rfl⟩)

def m_slices_Equal_string_L8 (N : Nat) (s1 : List Str) (s2 : List Str) : Nat → Nat → Option (Ex (Nat) (Bool))
  | 0, _ => none
  | n + 1, s13 => (bif ltb ((s13 : Nat) : Int) ((s1.length : Nat) : Int) then (s1[s13]?).bind fun y18 => (s2[s13]?).bind fun y22 => (bif !(seq y18 y22) then some (Ex.ret false)
 else m_slices_Equal_string_L8 N s1 s2 n (s13 + 1))
 else some (Ex.brk (s13)))

def m_slices_Equal_string (N : Nat) (s1 : List Str) (s2 : List Str) : Option (Bool) := (bif !(eqb ((s1.length : Nat) : Int) ((s2.length : Nat) : Int)) then some false
 else (m_slices_Equal_string_L8 N s1 s2 N 0).bind fun e8 => e8.go (fun r => r) fun b8 => some true)

set_option maxHeartbeats 4000000 in
theorem c_slices_Equal_string (N : Nat) (s1 : List Str) (s2 : List Str) (res : Bool) (h : m_slices_Equal_string N s1 s2 = some res) (w : World) {a_s1 a_s2 : Option Addr} {c_s1 c_s2 : Nat} (h_s1 : strsL.rd w [] [.slice a_s1 s1.length c_s1] s1) (h_s2 : strsL.rd w [] [.slice a_s2 s2.length c_s2] s2) : Ret Try.prog 111 [.slice a_s1 s1.length c_s1, .slice a_s2 s2.length c_s2] w [] fun v w' => v = .bool res := by
  have mh_s1 := rd_max h_s1
  have mh_s2 := rd_max h_s2
  unfold m_slices_Equal_string at h
  refine ret_enter Try.func111 rfl Try.ntmps111 rfl (Hp.refl w _) ?_
  refine cw_seq ?_
  refine cw_region ?_
  refine wl_u rfl (ow_y (yh_assign rfl rfl) rfl rfl (kk_wl ?_))
  refine wl_nil ?_
  refine ex_seq ?_
  refine cw_seq ?_
  refine cw_seq ?_
  refine cw_region ?_
  refine wl_u rfl (ow_y (yh_move rfl rfl) rfl rfl (kk_wl ?_))
  refine wl_u rfl (ow_y (yh_lenS Tb rfl rfl rfl rfl) rfl rfl (kk_wl ?_))
  refine wl_u rfl (ow_y (yh_move rfl rfl) rfl rfl (kk_wl ?_))
  refine wl_u rfl (ow_y (yh_lenS Tb rfl rfl rfl rfl) rfl rfl (kk_wl ?_))
  refine wl_u rfl (ow_y (yh_cmpI rfl rfl rfl rfl) rfl rfl (kk_wl ?_))
  refine wl_nil ?_
  refine ex_seq ?_
  refine cw_split rfl (fun c1 => ?_) (fun c1 => ?_)
  · skip
    replace h := bt c1 h
    have q1 := eqb_false.1 (nt c1)
    refine cw_seq ?_
    refine cw_region ?_
    refine wl_u rfl (ow_y (yh_assign rfl rfl) rfl rfl (kk_wl ?_))
    refine wl_nil ?_
    refine ex_seq ?_
    refine cw_ret ?_
    refine ex_then_ret ?_
    obtain rfl := Option.some.inj h
    exact ex_r1 Tb rfl (.tmp rfl) (fun wq hq => ⟨_, rfl, hq.ext, rfl⟩)
  · skip
    replace h := bf c1 h
    have q2 := eqb_true.1 (nf c1)
    refine cw_skip ?_
    refine ex_seq ?_
    refine cw_seq ?_
    refine cw_seq ?_
    refine cw_region ?_
    refine wl_u rfl (ow_y (yh_move rfl rfl) rfl rfl (kk_wl ?_))
    refine wl_u rfl (ow_y (yh_lenS Tb rfl rfl rfl rfl) rfl rfl (kk_wl ?_))
    refine wl_u rfl (ow_y (yh_move rfl rfl) rfl rfl (kk_wl ?_))
    refine wl_nil ?_
    refine ex_seq ?_
    refine cw_block ?_
    obtain ⟨e8, he8, hk8⟩ := bd h
    clear h
    refine cw_loopG (σ := Nat × Nat) (fun s => m_slices_Equal_string_L8 N s1 s2 s.1 s.2 = some e8) (fun s => [(0, .slice a_s1 s1.length c_s1), (1, .slice a_s2 s2.length c_s2), (12, .int .i64 ((s1.length : Nat) : Int)), (13, .int .i64 ((s.2 : Nat) : Int))]) (fun s => []) (fun s => s.1) (N, 0) [] he8 ⟨rfl, rfl, rfl, rfl, trivial⟩ rfl (fun KL s he8 hn8 => ?_)
    obtain ⟨n8, s13⟩ := s
    simp only at he8 hn8 ⊢
    rcases n8 with _ | n8
    · exact nosome he8
    have h := he8; rw [m_slices_Equal_string_L8] at h
    refine cw_seq ?_
    refine cw_region ?_
    refine wl_u rfl (ow_y (yh_cmpI rfl rfl rfl rfl) rfl rfl (kk_wl ?_))
    refine wl_nil ?_
    refine ex_seq ?_
    refine cw_seq ?_
    refine cw_split rfl (fun c2 => ?_) (fun c2 => ?_)
    · skip
      replace h := bt c2 h
      have q3 := ltb_true.1 c2
      refine cw_skip ?_
      refine ex_seq ?_
      refine cw_seq ?_
      refine cw_block ?_
      refine cw_seq ?_
      refine cw_region ?_
      refine wl_u rfl (ow_y (yh_move rfl rfl) rfl rfl (kk_wl ?_))
      refine wl_u rfl (ow_y (yh_assign rfl rfl) rfl rfl (kk_wl ?_))
      refine wl_nil ?_
      refine ex_seq ?_
      refine cw_seq ?_
      refine cw_dr [0, 1, 2, 3, 4, 5, 6, 7, 8] [] [] (by kernel_rfl) ?_
      refine wd_take (i := 0) [] rfl rfl rfl rfl rfl (by kernel_rfl) rfl (fun _ _ _ _ h => h) (yh_move rfl rfl) ?_
      refine wd_take (i := 1) [] rfl rfl rfl rfl rfl (by kernel_rfl) rfl (fun _ _ _ _ h => h) (yh_move rfl rfl) ?_
      obtain ⟨y18, hy18, h⟩ := bd h
      obtain ⟨b18, o18, ha18⟩ := sl_addr h_s1 hy18
      subst ha18
      have hc18 := get_str h_s1 hy18
      refine wd_take (i := 2) [] rfl rfl rfl rfl rfl (by kernel_rfl) rfl (fun _ _ _ _ h => h) (yh_idx Tb (k := s13) rfl rfl rfl rfl (get_lt hy18) rfl rfl) ?_
      refine wd_take (i := 3) [] rfl rfl rfl rfl rfl (by kernel_rfl) rfl (fun _ _ _ _ h => h) (yh_loadA0 Tb rfl rfl rfl hc18 rfl) ?_
      refine wd_take (i := 4) [] rfl rfl rfl rfl rfl (by kernel_rfl) rfl (fun _ _ _ _ h => h) (yh_move rfl rfl) ?_
      refine wd_take (i := 5) [] rfl rfl rfl rfl rfl (by kernel_rfl) rfl (fun _ _ _ _ h => h) (yh_move rfl rfl) ?_
      obtain ⟨y22, hy22, h⟩ := bd h
      obtain ⟨b22, o22, ha22⟩ := sl_addr h_s2 hy22
      subst ha22
      have hc22 := get_str h_s2 hy22
      refine wd_take (i := 6) [] rfl rfl rfl rfl rfl (by kernel_rfl) rfl (fun _ _ _ _ h => h) (yh_idx Tb (k := s13) rfl rfl rfl rfl (get_lt hy22) rfl rfl) ?_
      refine wd_take (i := 7) [] rfl rfl rfl rfl rfl (by kernel_rfl) rfl (fun _ _ _ _ h => h) (yh_loadA0 Tb rfl rfl rfl hc22 rfl) ?_
      refine wd_take (i := 8) [] rfl rfl rfl rfl rfl (by kernel_rfl) rfl (fun _ _ _ _ h => h) (yh_cmpS rfl rfl rfl rfl) ?_
      refine wd_done (by kernel_rfl) ?_
      refine ex_seq ?_
      refine cw_split rfl (fun c3 => ?_) (fun c3 => ?_)
      · skip
        replace h := bt c3 h
        refine cw_seq ?_
        refine cw_region ?_
        refine wl_u rfl (ow_y (yh_assign rfl rfl) rfl rfl (kk_wl ?_))
        refine wl_nil ?_
        refine ex_seq ?_
        refine cw_ret ?_
        refine ex_block_ret ?_
        refine ex_then_ret ?_
        refine ex_then_ret ?_
        refine ex_block_ret ?_
        refine ex_then_ret ?_
        obtain rfl := Option.some.inj h
        obtain rfl := go_ret hk8
        exact ex_r1 Tb rfl (.tmp rfl) (fun wq hq => ⟨_, rfl, hq.ext, rfl⟩)
      · skip
        replace h := bf c3 h
        refine cw_skip ?_
        refine ex_block_normal ?_
        refine ex_seq ?_
        refine cw_region ?_
        refine wl_u rfl (ow_y (yh_arI rfl rfl rfl rfl (by omega)) rfl rfl (kk_wl ?_))
        refine wl_u rfl (ow_y (yh_move rfl rfl) rfl rfl (kk_wl ?_))
        refine wl_nil ?_
        exact ex_next [] (hn8 (n8, s13 + 1) (Nat.lt_succ_self _) h) ⟨rfl, rfl, rfl, rfl, trivial⟩ rfl
    · skip
      replace h := bf c2 h
      have q4 := ltb_false.1 c2
      refine cw_exit ?_
      refine ex_then_exit ?_
      refine ex_then_exit ?_
      obtain rfl := Option.some.inj h
      have h := go_brk hk8
      refine ex_block_exit ?_
      refine ex_seq ?_
      refine cw_seq ?_
      refine cw_region ?_
      refine wl_u rfl (ow_y (yh_assign rfl rfl) rfl rfl (kk_wl ?_))
      refine wl_nil ?_
      refine ex_seq ?_
      refine cw_ret ?_
      obtain rfl := Option.some.inj h
      exact ex_r1 Tb rfl (.tmp rfl) (fun wq hq => ⟨_, rfl, hq.ext, rfl⟩)

def m_impl_Step_same (N : Nat) (s_ : Step) (t : Step) : Option (Bool) := (bif seq s_.name t.name then (bif s_.undo == t.undo then (m_slices_Equal_string N s_.after t.after).bind fun x22 => some x22
 else some false)
 else some false)

set_option maxHeartbeats 4000000 in
theorem c_impl_Step_same (N : Nat) (s_ : Step) (t : Step) (res : Bool) (h : m_impl_Step_same N s_ t = some res) (w : World) {a_s__after a_t_after : Option Addr} {c_s__after c_t_after : Nat} (h_s__after : strsL.rd w [] [.slice a_s__after s_.after.length c_s__after] s_.after) (h_t_after : strsL.rd w [] [.slice a_t_after t.after.length c_t_after] t.after) : Ret Try.prog 69 [.agg #[.string s_.name, .slice a_s__after s_.after.length c_s__after, .bool s_.undo], .agg #[.string t.name, .slice a_t_after t.after.length c_t_after, .bool t.undo]] w [] fun v w' => v = .bool res := by
  have mh_s__after := rd_max h_s__after
  have mh_t_after := rd_max h_t_after
  unfold m_impl_Step_same at h
  refine ret_enter Try.func69 rfl Try.ntmps69 rfl (Hp.refl w _) ?_
  refine cw_seq ?_
  refine cw_region ?_
  refine wl_u rfl (ow_boxA rfl rfl rfl rfl (fun g2 => kk_wl ?_))
  refine wl_u rfl (ow_boxA rfl rfl rfl rfl (fun g3 => kk_wl ?_))
  refine wl_u rfl (ow_y (yh_assign rfl rfl) rfl rfl (kk_wl ?_))
  refine wl_nil ?_
  refine ex_seq ?_
  refine cw_seq ?_
  refine cw_region ?_
  refine wl_u rfl (ow_y (yh_field Tb rfl rfl rfl) rfl rfl (kk_wl ?_))
  refine wl_u rfl (ow_y (yh_loadB Tb (k := 1) rfl rfl rfl rfl rfl) rfl rfl (kk_wl ?_))
  refine wl_u rfl (ow_y (yh_field Tb rfl rfl rfl) rfl rfl (kk_wl ?_))
  refine wl_u rfl (ow_y (yh_loadB Tb (k := 0) rfl rfl rfl rfl rfl) rfl rfl (kk_wl ?_))
  refine wl_u rfl (ow_y (yh_cmpS rfl rfl rfl rfl) rfl rfl (kk_wl ?_))
  refine wl_u rfl (ow_y (yh_move rfl rfl) rfl rfl (kk_wl ?_))
  refine wl_s rfl rfl (fun c1 => ?_) (fun c1 => ?_)
  · skip
    replace h := bt c1 h
    refine wl_g rfl rfl (ow_y (yh_field Tb rfl rfl rfl) rfl rfl (kk_wl ?_))
    refine wl_g rfl rfl (ow_y (yh_loadB Tb (k := 1) rfl rfl rfl rfl rfl) rfl rfl (kk_wl ?_))
    refine wl_g rfl rfl (ow_y (yh_field Tb rfl rfl rfl) rfl rfl (kk_wl ?_))
    refine wl_g rfl rfl (ow_y (yh_loadB Tb (k := 0) rfl rfl rfl rfl rfl) rfl rfl (kk_wl ?_))
    refine wl_g rfl rfl (ow_y (yh_cmpB rfl rfl rfl rfl (by kernel_rfl)) rfl rfl (kk_wl ?_))
    refine wl_u rfl (ow_y (yh_pickT rfl rfl rfl) rfl rfl (kk_wl ?_))
    refine wl_u rfl (ow_y (yh_move rfl rfl) rfl rfl (kk_wl ?_))
    refine wl_s rfl rfl (fun c2 => ?_) (fun c2 => ?_)
    · skip
      replace h := bt c2 h
      refine wl_g rfl rfl (ow_y (yh_field Tb rfl rfl rfl) rfl rfl (kk_wl ?_))
      refine wl_g rfl rfl (ow_y (yh_loadB Tb (k := 1) rfl rfl rfl rfl rfl) rfl rfl (kk_wl ?_))
      refine wl_g rfl rfl (ow_y (yh_field Tb rfl rfl rfl) rfl rfl (kk_wl ?_))
      refine wl_g rfl rfl (ow_y (yh_loadB Tb (k := 0) rfl rfl rfl rfl rfl) rfl rfl (kk_wl ?_))
      obtain ⟨x22, hx22, h⟩ := bd h
      refine wl_g rfl rfl (ow_cV rfl hb111 rfl (fun w hw => c_slices_Equal_string N _ _ _ hx22 w (Lay.at_ h_s__after hw) (Lay.at_ h_t_after hw)) rfl rfl (kk_wl ?_))
      refine wl_u rfl (ow_y (yh_pickT rfl rfl rfl) rfl rfl (kk_wl ?_))
      refine wl_u rfl (ow_y (yh_assign rfl rfl) rfl rfl (kk_wl ?_))
      refine wl_nil ?_
      refine ex_seq ?_
      refine cw_ret ?_
      obtain rfl := Option.some.inj h
      exact ex_r1 Tb rfl (.tmp rfl) (fun wq hq => ⟨_, rfl, hq.ext, rfl⟩)
    · skip
      replace h := bf c2 h
      refine wl_n rfl rfl rfl rfl ?_
      refine wl_n rfl rfl rfl rfl ?_
      refine wl_n rfl rfl rfl rfl ?_
      refine wl_n rfl rfl rfl rfl ?_
      refine wl_n rfl rfl rfl rfl ?_
      refine wl_u rfl (ow_y (yh_pickF rfl rfl rfl) rfl rfl (kk_wl ?_))
      refine wl_u rfl (ow_y (yh_assign rfl rfl) rfl rfl (kk_wl ?_))
      refine wl_nil ?_
      refine ex_seq ?_
      refine cw_ret ?_
      obtain rfl := Option.some.inj h
      exact ex_r1 Tb rfl (.tmp rfl) (fun wq hq => ⟨_, rfl, hq.ext, rfl⟩)
  · skip
    replace h := bf c1 h
    refine wl_n rfl rfl rfl rfl ?_
    refine wl_n rfl rfl rfl rfl ?_
    refine wl_n rfl rfl rfl rfl ?_
    refine wl_n rfl rfl rfl rfl ?_
    refine wl_n rfl rfl rfl rfl ?_
    refine wl_u rfl (ow_y (yh_pickF rfl rfl rfl) rfl rfl (kk_wl ?_))
    refine wl_u rfl (ow_y (yh_move rfl rfl) rfl rfl (kk_wl ?_))
    refine wl_s rfl rfl nofun (fun _ => ?_)
    refine wl_n rfl rfl rfl rfl ?_
    refine wl_n rfl rfl rfl rfl ?_
    refine wl_n rfl rfl rfl rfl ?_
    refine wl_n rfl rfl rfl rfl ?_
    refine wl_n rfl rfl rfl rfl ?_
    refine wl_u rfl (ow_y (yh_pickF rfl rfl rfl) rfl rfl (kk_wl ?_))
    refine wl_u rfl (ow_y (yh_assign rfl rfl) rfl rfl (kk_wl ?_))
    refine wl_nil ?_
    refine ex_seq ?_
    refine cw_ret ?_
    obtain rfl := Option.some.inj h
    exact ex_r1 Tb rfl (.tmp rfl) (fun wq hq => ⟨_, rfl, hq.ext, rfl⟩)

def m_impl_FlowsSame (N : Nat) (f : Flow) (g : Flow) : Option (Bool) := (m_impl_FlowValid N f).bind fun x6 => (bif x6 then (m_impl_FlowValid N g).bind fun x9 => (bif x9 then (m_slices_EqualFunc_Step N f.steps g.steps (fun x0 x1 => m_impl_Step_same N x0 x1)).bind fun x16 => some x16
 else some false)
 else some false)

set_option maxHeartbeats 4000000 in
theorem c_impl_FlowsSame (N : Nat) (f : Flow) (g : Flow) (res : Bool) (h : m_impl_FlowsSame N f g = some res) (w : World) {a_f_steps a_g_steps : Option Addr} {c_f_steps c_g_steps : Nat} (h_f_steps : stepsL.rd w [] [.slice a_f_steps f.steps.length c_f_steps] f.steps) (h_g_steps : stepsL.rd w [] [.slice a_g_steps g.steps.length c_g_steps] g.steps) : Ret Try.prog 20 [.agg #[.int .i64 f.ver, .slice a_f_steps f.steps.length c_f_steps], .agg #[.int .i64 g.ver, .slice a_g_steps g.steps.length c_g_steps]] w [] fun v w' => v = .bool res := by
  have mh_f_steps := rd_max h_f_steps
  have mh_g_steps := rd_max h_g_steps
  unfold m_impl_FlowsSame at h
  refine ret_enter Try.func20 rfl Try.ntmps20 rfl (Hp.refl w _) ?_
  refine cw_seq ?_
  refine cw_region ?_
  refine wl_u rfl (ow_boxA rfl rfl rfl rfl (fun g2 => kk_wl ?_))
  refine wl_u rfl (ow_boxA rfl rfl rfl rfl (fun g3 => kk_wl ?_))
  refine wl_u rfl (ow_y (yh_assign rfl rfl) rfl rfl (kk_wl ?_))
  refine wl_nil ?_
  refine ex_seq ?_
  refine cw_seq ?_
  refine cw_region ?_
  refine wl_u rfl (ow_y (yh_loadBA Tb (k := 1) rfl rfl rfl rfl rfl rfl) rfl rfl (kk_wl ?_))
  obtain ⟨x6, hx6, h⟩ := bd h
  refine wl_u rfl (ow_cV rfl hb62 rfl (fun w hw => c_impl_FlowValid N _ _ hx6 w (Lay.at_ h_f_steps hw)) rfl rfl (kk_wl ?_))
  refine wl_u rfl (ow_y (yh_move rfl rfl) rfl rfl (kk_wl ?_))
  refine wl_s rfl rfl (fun c1 => ?_) (fun c1 => ?_)
  · skip
    replace h := bt c1 h
    refine wl_g rfl rfl (ow_y (yh_loadBA Tb (k := 0) rfl rfl rfl rfl rfl rfl) rfl rfl (kk_wl ?_))
    obtain ⟨x9, hx9, h⟩ := bd h
    refine wl_g rfl rfl (ow_cV rfl hb62 rfl (fun w hw => c_impl_FlowValid N _ _ hx9 w (Lay.at_ h_g_steps hw)) rfl rfl (kk_wl ?_))
    refine wl_u rfl (ow_y (yh_pickT rfl rfl rfl) rfl rfl (kk_wl ?_))
    refine wl_u rfl (ow_y (yh_move rfl rfl) rfl rfl (kk_wl ?_))
    refine wl_s rfl rfl (fun c2 => ?_) (fun c2 => ?_)
    · skip
      replace h := bt c2 h
      refine wl_g rfl rfl (ow_y (yh_field Tb rfl rfl rfl) rfl rfl (kk_wl ?_))
      refine wl_g rfl rfl (ow_y (yh_loadB Tb (k := 1) rfl rfl rfl rfl rfl) rfl rfl (kk_wl ?_))
      refine wl_g rfl rfl (ow_y (yh_field Tb rfl rfl rfl) rfl rfl (kk_wl ?_))
      refine wl_g rfl rfl (ow_y (yh_loadB Tb (k := 0) rfl rfl rfl rfl rfl) rfl rfl (kk_wl ?_))
      obtain ⟨x16, hx16, h⟩ := bd h
      refine wl_g rfl rfl (ow_cV rfl hb68 rfl (fun w hw => c_slices_EqualFunc_Step N _ _ _ _ hx16 w (Lay.at_ h_f_steps hw) (Lay.at_ h_g_steps hw) hb69 (fun x0 x1 b hb w' hE a1 c1 a2 c2 h1 h2 => c_impl_Step_same N x0 x1 b hb w' h1 h2)) rfl rfl (kk_wl ?_))
      refine wl_u rfl (ow_y (yh_pickT rfl rfl rfl) rfl rfl (kk_wl ?_))
      refine wl_u rfl (ow_y (yh_assign rfl rfl) rfl rfl (kk_wl ?_))
      refine wl_nil ?_
      refine ex_seq ?_
      refine cw_ret ?_
      obtain rfl := Option.some.inj h
      exact ex_r1 Tb rfl (.tmp rfl) (fun wq hq => ⟨_, rfl, hq.ext, rfl⟩)
    · skip
      replace h := bf c2 h
      refine wl_n rfl rfl rfl rfl ?_
      refine wl_n rfl rfl rfl rfl ?_
      refine wl_n rfl rfl rfl rfl ?_
      refine wl_n rfl rfl rfl rfl ?_
      refine wl_n rfl rfl rfl rfl ?_
      refine wl_u rfl (ow_y (yh_pickF rfl rfl rfl) rfl rfl (kk_wl ?_))
      refine wl_u rfl (ow_y (yh_assign rfl rfl) rfl rfl (kk_wl ?_))
      refine wl_nil ?_
      refine ex_seq ?_
      refine cw_ret ?_
      obtain rfl := Option.some.inj h
      exact ex_r1 Tb rfl (.tmp rfl) (fun wq hq => ⟨_, rfl, hq.ext, rfl⟩)
  · skip
    replace h := bf c1 h
    refine wl_n rfl rfl rfl rfl ?_
    refine wl_n rfl rfl rfl rfl ?_
    refine wl_u rfl (ow_y (yh_pickF rfl rfl rfl) rfl rfl (kk_wl ?_))
    refine wl_u rfl (ow_y (yh_move rfl rfl) rfl rfl (kk_wl ?_))
    refine wl_s rfl rfl nofun (fun _ => ?_)
    refine wl_n rfl rfl rfl rfl ?_
    refine wl_n rfl rfl rfl rfl ?_
    refine wl_n rfl rfl rfl rfl ?_
    refine wl_n rfl rfl rfl rfl ?_
    refine wl_n rfl rfl rfl rfl ?_
    refine wl_u rfl (ow_y (yh_pickF rfl rfl rfl) rfl rfl (kk_wl ?_))
    refine wl_u rfl (ow_y (yh_assign rfl rfl) rfl rfl (kk_wl ?_))
    refine wl_nil ?_
    refine ex_seq ?_
    refine cw_ret ?_
    obtain rfl := Option.some.inj h
    exact ex_r1 Tb rfl (.tmp rfl) (fun wq hq => ⟨_, rfl, hq.ext, rfl⟩)

def m_laws_FnPut (N : Nat) (u0 : List UInt8) : Option (Bool) := (bif ltb 1048576 ((u0.length : Nat) : Int) then some true
 else (m_spec_DrawRegistryPut N u0).bind fun x16 => (m_impl_RegistryPut N x16.1 x16.2).bind fun x22 => (m_spec_RegistryPut N x16.1 x16.2).bind fun x28 => (bif x22.2 != x28.2 then (bif x22.2 == x28.2 then (m_laws_sameFlows N x22.1 x28.1).bind fun x50 => some x50
 else some false)
 else (m_laws_sameFlows N x22.1 x28.1).bind fun x37 => (bif !x37 then (bif x22.2 == x28.2 then (m_laws_sameFlows N x22.1 x28.1).bind fun x50 => some x50
 else some false)
 else (bif !x22.2 then (bif x22.2 == x28.2 then (m_laws_sameFlows N x22.1 x28.1).bind fun x50 => some x50
 else some false)
 else ((bif ltb 0 ((x16.1.length : Nat) : Int) then (geti x16.1 (((x16.1.length : Nat) : Int) - 1)).bind fun y59 => some (w64 (y59.ver + 1))
 else some 1) : Option (Int)).bind fun j115 => (m_impl_RegistryValid N x22.1).bind fun x64 => (bif x64 then (lsz x16.1.length).bind fun v69_ => (bif eqb ((x22.1.length : Nat) : Int) (((x16.1.length : Nat) : Int) + 1) then (x22.1[x16.1.length]?).bind fun y75 => (bif eqb y75.ver j115 then (m_impl_FlowsSame N y75 x16.2).bind fun x87 => (bif x87 then (slTo x22.1 ((x16.1.length : Nat) : Int)).bind fun l92 => (m_laws_sameFlows N l92 x16.1).bind fun x94 => some x94
 else some false)
 else some false)
 else some false)
 else some false)))))

set_option maxHeartbeats 4000000 in
theorem c_laws_FnPut (N : Nat) (u0 : List UInt8) (res : Bool) (h : m_laws_FnPut N u0 = some res) (w : World) {a_u0 : Option Addr} {c_u0 : Nat} (h_u0 : bytesL.rd w [] [.slice a_u0 u0.length c_u0] u0) : Ret Try.prog 3 [.slice a_u0 u0.length c_u0] w [] fun v w' => v = .bool res := by
  have mh_u0 := rd_max h_u0
  unfold m_laws_FnPut at h
  refine ret_enter Try.func3 rfl Try.ntmps3 rfl (Hp.refl w _) ?_
  refine cw_seq ?_
  refine cw_region ?_
  refine wl_u rfl (ow_y (yh_assign rfl rfl) rfl rfl (kk_wl ?_))
  refine wl_nil ?_
  refine ex_seq ?_
  refine cw_seq ?_
  refine cw_seq ?_
  refine cw_region ?_
  refine wl_u rfl (ow_y (yh_move rfl rfl) rfl rfl (kk_wl ?_))
  refine wl_u rfl (ow_y (yh_lenS Tb rfl rfl rfl rfl) rfl rfl (kk_wl ?_))
  refine wl_u rfl (ow_y (yh_cmpI rfl rfl rfl rfl) rfl rfl (kk_wl ?_))
  refine wl_nil ?_
  refine ex_seq ?_
  refine cw_split rfl (fun c1 => ?_) (fun c1 => ?_)
  · skip
    replace h := bt c1 h
    have q1 := ltb_true.1 c1
    refine cw_seq ?_
    refine cw_region ?_
    refine wl_u rfl (ow_y (yh_assign rfl rfl) rfl rfl (kk_wl ?_))
    refine wl_nil ?_
    refine ex_seq ?_
    refine cw_ret ?_
    refine ex_then_ret ?_
    obtain rfl := Option.some.inj h
    exact ex_r1 Tb rfl (.tmp rfl) (fun wq hq => ⟨_, rfl, hq.ext, rfl⟩)
  · skip
    replace h := bf c1 h
    have q2 := ltb_false.1 c1
    refine cw_skip ?_
    refine ex_seq ?_
    refine cw_seq ?_
    refine cw_region ?_
    refine wl_u rfl (ow_y (yh_move rfl rfl) rfl rfl (kk_wl ?_))
    obtain ⟨x16, hx16, h⟩ := bd h
    refine wl_u rfl (ow_cN2 rfl hb15 rfl (fun w hw => c_spec_DrawRegistryPut N _ _ hx16 w (Lay.at_ h_u0 hw)) rfl rfl (fun a16 c16 F16 a16_2 c16_2 F16_2 => kk_wl ?_))
    refine wl_u rfl (ow_y (yh_move rfl rfl) rfl rfl (kk_wl ?_))
    refine wl_u rfl (ow_y (yh_extract rfl rfl rfl) rfl rfl (kk_wl ?_))
    refine wl_u rfl (ow_y (yh_extract rfl rfl rfl) rfl rfl (kk_wl ?_))
    refine wl_u rfl (ow_allocA Tb rfl rfl rfl rfl (fun g4 => kk_wl ?_))
    refine wl_u rfl (ow_y (yh_assign rfl rfl) rfl rfl (kk_wl ?_))
    refine wl_u rfl (ow_storeA Tb (k := 0) rfl rfl rfl rfl rfl rfl rfl rfl rfl (kk_wl ?_))
    refine wl_nil ?_
    refine ex_seq ?_
    refine cw_seq ?_
    refine cw_freeze 1 rfl (fun w1 M1 hb1_ hz1 => ?_)
    replace h_u0 := Lay.rb h_u0 hb1_
    have hB1 := hb1_
    have mz1 := rd_max hz1
    refine cw_freeze 1 rfl (fun w2 M2 hb2_ hz2 => ?_)
    replace h_u0 := Lay.rb h_u0 hb2_
    replace hz1 := Lay.rb hz1 hb2_
    have hB2 := hB1.trans hb2_
    have mz2 := rd_max hz2
    refine cw_region ?_
    refine wl_u rfl (ow_y (yh_move rfl rfl) rfl rfl (kk_wl ?_))
    refine wl_u rfl (ow_y (yh_loadBA Tb (k := 0) rfl rfl rfl rfl rfl rfl) rfl rfl (kk_wl ?_))
    obtain ⟨x22, hx22, h⟩ := bd h
    refine wl_u rfl (ow_cN1 rfl hb16 rfl (fun w hw => c_impl_RegistryPut N _ _ _ hx22 w (Lay.at_ hz1 hw) (Lay.at_ hz2 hw)) rfl rfl (fun a22 c22 F22 => kk_wl ?_))
    refine wl_u rfl (ow_y (yh_move rfl rfl) rfl rfl (kk_wl ?_))
    refine wl_u rfl (ow_y (yh_extract rfl rfl rfl) rfl rfl (kk_wl ?_))
    refine wl_u rfl (ow_y (yh_extract rfl rfl rfl) rfl rfl (kk_wl ?_))
    refine wl_u rfl (ow_y (yh_assign rfl rfl) rfl rfl (kk_wl ?_))
    refine wl_u rfl (ow_y (yh_assign rfl rfl) rfl rfl (kk_wl ?_))
    refine wl_nil ?_
    refine ex_seq ?_
    refine cw_seq ?_
    refine cw_freeze 0 rfl (fun w3 M3 hb3_ hz3 => ?_)
    replace h_u0 := Lay.rb h_u0 hb3_
    replace hz1 := Lay.rb hz1 hb3_
    replace hz2 := Lay.rb hz2 hb3_
    have hB3 := hB2.trans hb3_
    have mz3 := rd_max hz3
    refine cw_region ?_
    refine wl_u rfl (ow_y (yh_move rfl rfl) rfl rfl (kk_wl ?_))
    refine wl_u rfl (ow_y (yh_loadBA Tb (k := 0) rfl rfl rfl rfl rfl rfl) rfl rfl (kk_wl ?_))
    obtain ⟨x28, hx28, h⟩ := bd h
    refine wl_u rfl (ow_cN1 rfl hb17 rfl (fun w hw => c_spec_RegistryPut N _ _ _ hx28 w (Lay.at_ hz1 hw) (Lay.at_ hz2 hw)) rfl rfl (fun a28 c28 F28 => kk_wl ?_))
    refine wl_u rfl (ow_y (yh_move rfl rfl) rfl rfl (kk_wl ?_))
    refine wl_u rfl (ow_y (yh_extract rfl rfl rfl) rfl rfl (kk_wl ?_))
    refine wl_u rfl (ow_y (yh_extract rfl rfl rfl) rfl rfl (kk_wl ?_))
    refine wl_u rfl (ow_y (yh_assign rfl rfl) rfl rfl (kk_wl ?_))
    refine wl_u rfl (ow_y (yh_assign rfl rfl) rfl rfl (kk_wl ?_))
    refine wl_nil ?_
    refine ex_seq ?_
    refine cw_seq ?_
    refine cw_seq ?_
    refine cw_freeze 0 rfl (fun w4 M4 hb4_ hz4 => ?_)
    replace h_u0 := Lay.rb h_u0 hb4_
    replace hz1 := Lay.rb hz1 hb4_
    replace hz2 := Lay.rb hz2 hb4_
    replace hz3 := Lay.rb hz3 hb4_
    have hB4 := hB3.trans hb4_
    have mz4 := rd_max hz4
    refine cw_region ?_
    refine wl_u rfl (ow_y (yh_move rfl rfl) rfl rfl (kk_wl ?_))
    refine wl_u rfl (ow_y (yh_move rfl rfl) rfl rfl (kk_wl ?_))
    refine wl_u rfl (ow_y (yh_cmpB rfl rfl rfl rfl (by kernel_rfl)) rfl rfl (kk_wl ?_))
    refine wl_u rfl (ow_y (yh_move rfl rfl) rfl rfl (kk_wl ?_))
    refine wl_s rfl rfl (fun c2 => ?_) (fun c2 => ?_)
    · skip
      replace h := bt c2 h
      refine wl_n rfl rfl rfl rfl ?_
      refine wl_n rfl rfl rfl rfl ?_
      refine wl_n rfl rfl rfl rfl ?_
      refine wl_n rfl rfl rfl rfl ?_
      refine wl_u rfl (ow_y (yh_pickT rfl rfl rfl) rfl rfl (kk_wl ?_))
      refine wl_u rfl (ow_y (yh_move rfl rfl) rfl rfl (kk_wl ?_))
      refine wl_s rfl rfl (fun _ => ?_) nofun
      refine wl_n rfl rfl rfl rfl ?_
      refine wl_n rfl rfl rfl rfl ?_
      refine wl_u rfl (ow_y (yh_pickT rfl rfl rfl) rfl rfl (kk_wl ?_))
      refine wl_nil ?_
      refine ex_seq ?_
      refine cw_true rfl ?_
      refine cw_seq ?_
      refine cw_region ?_
      refine wl_u rfl (ow_y (yh_move rfl rfl) rfl rfl (kk_wl ?_))
      refine wl_u rfl (ow_y (yh_move rfl rfl) rfl rfl (kk_wl ?_))
      refine wl_u rfl (ow_y (yh_cmpB rfl rfl rfl rfl (by kernel_rfl)) rfl rfl (kk_wl ?_))
      refine wl_u rfl (ow_y (yh_move rfl rfl) rfl rfl (kk_wl ?_))
      refine wl_s rfl rfl (fun c3 => ?_) (fun c3 => ?_)
      · skip
        replace h := bt c3 h
        refine wl_g rfl rfl (ow_y (yh_move rfl rfl) rfl rfl (kk_wl ?_))
        refine wl_g rfl rfl (ow_y (yh_move rfl rfl) rfl rfl (kk_wl ?_))
        obtain ⟨x50, hx50, h⟩ := bd h
        refine wl_g rfl rfl (ow_cV rfl hb18 rfl (fun w hw => c_laws_sameFlows N _ _ _ hx50 w (Lay.at_ hz3 hw) (Lay.at_ hz4 hw)) rfl rfl (kk_wl ?_))
        refine wl_u rfl (ow_y (yh_pickT rfl rfl rfl) rfl rfl (kk_wl ?_))
        refine wl_u rfl (ow_y (yh_assign rfl rfl) rfl rfl (kk_wl ?_))
        refine wl_nil ?_
        refine ex_seq ?_
        refine cw_ret ?_
        refine ex_then_ret ?_
        obtain rfl := Option.some.inj h
        exact ex_r1 Tb rfl (.tmp rfl) (fun wq hq => ⟨_, rfl, (hB4.back hq).ext, rfl⟩)
      · skip
        replace h := bf c3 h
        refine wl_n rfl rfl rfl rfl ?_
        refine wl_n rfl rfl rfl rfl ?_
        refine wl_n rfl rfl rfl rfl ?_
        refine wl_u rfl (ow_y (yh_pickF rfl rfl rfl) rfl rfl (kk_wl ?_))
        refine wl_u rfl (ow_y (yh_assign rfl rfl) rfl rfl (kk_wl ?_))
        refine wl_nil ?_
        refine ex_seq ?_
        refine cw_ret ?_
        refine ex_then_ret ?_
        obtain rfl := Option.some.inj h
        exact ex_r1 Tb rfl (.tmp rfl) (fun wq hq => ⟨_, rfl, (hB4.back hq).ext, rfl⟩)
    · skip
      replace h := bf c2 h
      refine wl_g rfl rfl (ow_y (yh_move rfl rfl) rfl rfl (kk_wl ?_))
      refine wl_g rfl rfl (ow_y (yh_move rfl rfl) rfl rfl (kk_wl ?_))
      obtain ⟨x37, hx37, h⟩ := bd h
      refine wl_g rfl rfl (ow_cV rfl hb18 rfl (fun w hw => c_laws_sameFlows N _ _ _ hx37 w (Lay.at_ hz3 hw) (Lay.at_ hz4 hw)) rfl rfl (kk_wl ?_))
      refine wl_g rfl rfl (ow_y (yh_not rfl rfl) rfl rfl (kk_wl ?_))
      refine wl_u rfl (ow_y (yh_pickF rfl rfl rfl) rfl rfl (kk_wl ?_))
      refine wl_u rfl (ow_y (yh_move rfl rfl) rfl rfl (kk_wl ?_))
      refine wl_s rfl rfl (fun c4 => ?_) (fun c4 => ?_)
      · skip
        replace h := bt c4 h
        refine wl_n rfl rfl rfl rfl ?_
        refine wl_n rfl rfl rfl rfl ?_
        refine wl_u rfl (ow_y (yh_pickT rfl rfl rfl) rfl rfl (kk_wl ?_))
        refine wl_nil ?_
        refine ex_seq ?_
        refine cw_true rfl ?_
        refine cw_seq ?_
        refine cw_region ?_
        refine wl_u rfl (ow_y (yh_move rfl rfl) rfl rfl (kk_wl ?_))
        refine wl_u rfl (ow_y (yh_move rfl rfl) rfl rfl (kk_wl ?_))
        refine wl_u rfl (ow_y (yh_cmpB rfl rfl rfl rfl (by kernel_rfl)) rfl rfl (kk_wl ?_))
        refine wl_u rfl (ow_y (yh_move rfl rfl) rfl rfl (kk_wl ?_))
        refine wl_s rfl rfl (fun c5 => ?_) (fun c5 => ?_)
        · skip
          replace h := bt c5 h
          refine wl_g rfl rfl (ow_y (yh_move rfl rfl) rfl rfl (kk_wl ?_))
          refine wl_g rfl rfl (ow_y (yh_move rfl rfl) rfl rfl (kk_wl ?_))
          obtain ⟨x50, hx50, h⟩ := bd h
          refine wl_g rfl rfl (ow_cV rfl hb18 rfl (fun w hw => c_laws_sameFlows N _ _ _ hx50 w (Lay.at_ hz3 hw) (Lay.at_ hz4 hw)) rfl rfl (kk_wl ?_))
          refine wl_u rfl (ow_y (yh_pickT rfl rfl rfl) rfl rfl (kk_wl ?_))
          refine wl_u rfl (ow_y (yh_assign rfl rfl) rfl rfl (kk_wl ?_))
          refine wl_nil ?_
          refine ex_seq ?_
          refine cw_ret ?_
          refine ex_then_ret ?_
          obtain rfl := Option.some.inj h
          exact ex_r1 Tb rfl (.tmp rfl) (fun wq hq => ⟨_, rfl, (hB4.back hq).ext, rfl⟩)
        · skip
          replace h := bf c5 h
          refine wl_n rfl rfl rfl rfl ?_
          refine wl_n rfl rfl rfl rfl ?_
          refine wl_n rfl rfl rfl rfl ?_
          refine wl_u rfl (ow_y (yh_pickF rfl rfl rfl) rfl rfl (kk_wl ?_))
          refine wl_u rfl (ow_y (yh_assign rfl rfl) rfl rfl (kk_wl ?_))
          refine wl_nil ?_
          refine ex_seq ?_
          refine cw_ret ?_
          refine ex_then_ret ?_
          obtain rfl := Option.some.inj h
          exact ex_r1 Tb rfl (.tmp rfl) (fun wq hq => ⟨_, rfl, (hB4.back hq).ext, rfl⟩)
      · skip
        replace h := bf c4 h
        refine wl_g rfl rfl (ow_y (yh_move rfl rfl) rfl rfl (kk_wl ?_))
        refine wl_g rfl rfl (ow_y (yh_not rfl rfl) rfl rfl (kk_wl ?_))
        refine wl_u rfl (ow_y (yh_pickF rfl rfl rfl) rfl rfl (kk_wl ?_))
        refine wl_nil ?_
        refine ex_seq ?_
        refine cw_split rfl (fun c6 => ?_) (fun c6 => ?_)
        · skip
          replace h := bt c6 h
          refine cw_seq ?_
          refine cw_region ?_
          refine wl_u rfl (ow_y (yh_move rfl rfl) rfl rfl (kk_wl ?_))
          refine wl_u rfl (ow_y (yh_move rfl rfl) rfl rfl (kk_wl ?_))
          refine wl_u rfl (ow_y (yh_cmpB rfl rfl rfl rfl (by kernel_rfl)) rfl rfl (kk_wl ?_))
          refine wl_u rfl (ow_y (yh_move rfl rfl) rfl rfl (kk_wl ?_))
          refine wl_s rfl rfl (fun c7 => ?_) (fun c7 => ?_)
          · skip
            replace h := bt c7 h
            refine wl_g rfl rfl (ow_y (yh_move rfl rfl) rfl rfl (kk_wl ?_))
            refine wl_g rfl rfl (ow_y (yh_move rfl rfl) rfl rfl (kk_wl ?_))
            obtain ⟨x50, hx50, h⟩ := bd h
            refine wl_g rfl rfl (ow_cV rfl hb18 rfl (fun w hw => c_laws_sameFlows N _ _ _ hx50 w (Lay.at_ hz3 hw) (Lay.at_ hz4 hw)) rfl rfl (kk_wl ?_))
            refine wl_u rfl (ow_y (yh_pickT rfl rfl rfl) rfl rfl (kk_wl ?_))
            refine wl_u rfl (ow_y (yh_assign rfl rfl) rfl rfl (kk_wl ?_))
            refine wl_nil ?_
            refine ex_seq ?_
            refine cw_ret ?_
            refine ex_then_ret ?_
            obtain rfl := Option.some.inj h
            exact ex_r1 Tb rfl (.tmp rfl) (fun wq hq => ⟨_, rfl, (hB4.back hq).ext, rfl⟩)
          · skip
            replace h := bf c7 h
            refine wl_n rfl rfl rfl rfl ?_
            refine wl_n rfl rfl rfl rfl ?_
            refine wl_n rfl rfl rfl rfl ?_
            refine wl_u rfl (ow_y (yh_pickF rfl rfl rfl) rfl rfl (kk_wl ?_))
            refine wl_u rfl (ow_y (yh_assign rfl rfl) rfl rfl (kk_wl ?_))
            refine wl_nil ?_
            refine ex_seq ?_
            refine cw_ret ?_
            refine ex_then_ret ?_
            obtain rfl := Option.some.inj h
            exact ex_r1 Tb rfl (.tmp rfl) (fun wq hq => ⟨_, rfl, (hB4.back hq).ext, rfl⟩)
        · skip
          replace h := bf c6 h
          refine cw_skip ?_
          refine ex_seq ?_
          refine cw_seq ?_
          refine cw_region ?_
          refine wl_u rfl (ow_y (yh_move rfl rfl) rfl rfl (kk_wl ?_))
          refine wl_u rfl (ow_y (yh_lenS Tb rfl rfl rfl rfl) rfl rfl (kk_wl ?_))
          refine wl_u rfl (ow_y (yh_assign rfl rfl) rfl rfl (kk_wl ?_))
          refine wl_nil ?_
          refine ex_seq ?_
          refine cw_seq ?_
          refine cw_region ?_
          refine wl_u rfl (ow_y (yh_assign rfl rfl) rfl rfl (kk_wl ?_))
          refine wl_nil ?_
          refine ex_seq ?_
          obtain ⟨j115, he115, hk115⟩ := bd h
          clear h
          refine cw_cut (σ := Unit) (fun s => True) (fun s => [(3, .slice a16 x16.1.length c16), (4, .pointer (some ⟨g4, 0, none⟩)), (5, .slice a22 x22.1.length c22), (9, .int .i64 ((x16.1.length : Nat) : Int)), (10, .int .i64 j115)]) (fun s => [blkC g4 26 [.int .i64 x16.2.ver, .slice a16_2 x16.2.steps.length c16_2]]) (fun s hI => ?_) (fun KL hn115 => ?_)
          · skip
            have h := hk115
            refine cw_seq ?_
            refine cw_dr [0, 2, 3, 4, 5, 6, 7, 8, 9, 10, 11, 12, 13, 14, 15, 16, 17, 18, 19, 20, 21, 22, 23, 25, 26, 27, 28, 29, 30, 32, 33] [] [blkC g4 26 [.int .i64 x16.2.ver, .slice a16_2 x16.2.steps.length c16_2]] (by kernel_rfl) ?_
            refine wd_take (i := 0) [0] rfl rfl rfl rfl rfl (by kernel_rfl) rfl (fun _ _ _ _ h => h) (yh_move rfl rfl) ?_
            obtain ⟨x64, hx64, h⟩ := bd h
            refine wd_one 1 rfl rfl (by kernel_rfl) (ow_cV rfl hb19 rfl (fun w hw => c_impl_RegistryValid N _ _ hx64 w (Lay.at_ hz3 hw)) rfl rfl (kk_wd [0] rfl ?_))
            refine wd_take (i := 2) [0] rfl rfl rfl rfl rfl (by kernel_rfl) rfl (fun _ _ _ _ h => h) (yh_move rfl rfl) ?_
            refine wd_split 3 rfl rfl rfl (fun c8 => ?_) (fun c8 => ?_)
            · skip
              replace h := bt c8 h
              refine wd_take (i := 3) [0] rfl rfl rfl rfl rfl (by kernel_rfl) rfl (fun _ _ _ _ h => h) (yh_move rfl rfl) ?_
              refine wd_take (i := 4) [0] rfl rfl rfl rfl rfl (by kernel_rfl) rfl (fun _ _ _ _ h => h) (yh_lenS Tb rfl rfl rfl rfl) ?_
              refine wd_take (i := 5) [0] rfl rfl rfl rfl rfl (by kernel_rfl) rfl (fun _ _ _ _ h => h) (yh_move rfl rfl) ?_
              obtain ⟨v69_, hv69_, h⟩ := bd h
              have mv69_ := lsz_some hv69_
              refine wd_take (i := 6) [0] rfl rfl rfl rfl rfl (by kernel_rfl) rfl (fun _ _ _ _ h => h) (yh_arI rfl rfl rfl rfl (by omega)) ?_
              refine wd_take (i := 7) [0] rfl rfl rfl rfl rfl (by kernel_rfl) rfl (fun _ _ _ _ h => h) (yh_cmpI rfl rfl rfl rfl) ?_
              refine wd_take (i := 8) [0] rfl rfl rfl rfl rfl (by kernel_rfl) rfl (fun _ _ _ _ h => h) (yh_pickT rfl rfl rfl) ?_
              refine wd_take (i := 9) [0] rfl rfl rfl rfl rfl (by kernel_rfl) rfl (fun _ _ _ _ h => h) (yh_move rfl rfl) ?_
              refine wd_split 10 rfl rfl rfl (fun c9 => ?_) (fun c9 => ?_)
              · skip
                replace h := bt c9 h
                have q3 := eqb_true.1 c9
                refine wd_take (i := 10) [0] rfl rfl rfl rfl rfl (by kernel_rfl) rfl (fun _ _ _ _ h => h) (yh_move rfl rfl) ?_
                refine wd_take (i := 11) [0] rfl rfl rfl rfl rfl (by kernel_rfl) rfl (fun _ _ _ _ h => h) (yh_move rfl rfl) ?_
                obtain ⟨y75, hy75, h⟩ := bd h
                obtain ⟨b75, o75, ha75⟩ := sl_addr hz3 hy75
                subst ha75
                obtain ⟨a75, e75, hc75, hf75⟩ := get_flow hz3 hy75
                have mx75 := rd_max hf75
                refine wd_take (i := 12) [0] rfl rfl rfl rfl rfl (by kernel_rfl) rfl (fun _ _ _ _ h => h) (yh_idx Tb (k := x16.1.length) rfl rfl rfl rfl (get_lt hy75) rfl rfl) ?_
                refine wd_take (i := 13) [0] rfl rfl rfl rfl rfl (by kernel_rfl) rfl (fun _ _ _ _ h => h) (yh_field Tb rfl rfl rfl) ?_
                refine wd_take (i := 14) [0] rfl rfl rfl rfl rfl (by kernel_rfl) rfl (fun _ _ _ _ h => h) (yh_loadAF Tb (j := 0) rfl rfl rfl hc75 rfl) ?_
                refine wd_take (i := 15) [0] rfl rfl rfl rfl rfl (by kernel_rfl) rfl (fun _ _ _ _ h => h) (yh_move rfl rfl) ?_
                refine wd_take (i := 16) [0] rfl rfl rfl rfl rfl (by kernel_rfl) rfl (fun _ _ _ _ h => h) (yh_cmpI rfl rfl rfl rfl) ?_
                refine wd_take (i := 17) [0] rfl rfl rfl rfl rfl (by kernel_rfl) rfl (fun _ _ _ _ h => h) (yh_pickT rfl rfl rfl) ?_
                refine wd_take (i := 18) [0] rfl rfl rfl rfl rfl (by kernel_rfl) rfl (fun _ _ _ _ h => h) (yh_move rfl rfl) ?_
                refine wd_split 19 rfl rfl rfl (fun c10 => ?_) (fun c10 => ?_)
                · skip
                  replace h := bt c10 h
                  have q4 := eqb_true.1 c10
                  refine wd_take (i := 19) [0] rfl rfl rfl rfl rfl (by kernel_rfl) rfl (fun _ _ _ _ h => h) (yh_move rfl rfl) ?_
                  refine wd_take (i := 20) [0] rfl rfl rfl rfl rfl (by kernel_rfl) rfl (fun _ _ _ _ h => h) (yh_move rfl rfl) ?_
                  refine wd_take (i := 21) [0] rfl rfl rfl rfl rfl (by kernel_rfl) rfl (fun _ _ _ _ h => h) (yh_idx Tb (k := x16.1.length) rfl rfl rfl rfl (get_lt hy75) rfl rfl) ?_
                  refine wd_take (i := 22) [0] rfl rfl rfl rfl rfl (by kernel_rfl) rfl (fun _ _ _ _ h => h) (yh_loadAN Tb rfl rfl rfl rfl hc75 rfl) ?_
                  refine wd_take (i := 23) [0] rfl rfl rfl rfl rfl (by kernel_rfl) rfl (fun _ _ _ _ h => h) (yh_loadBA Tb (k := 0) rfl rfl rfl rfl rfl rfl) ?_
                  obtain ⟨x87, hx87, h⟩ := bd h
                  refine wd_one 24 rfl rfl (by kernel_rfl) (ow_cV rfl hb20 rfl (fun w hw => c_impl_FlowsSame N _ _ _ hx87 w (Lay.at_ hf75 hw) (Lay.at_ hz2 hw)) rfl rfl (kk_wd [0] rfl ?_))
                  refine wd_take (i := 25) [0] rfl rfl rfl rfl rfl (by kernel_rfl) rfl (fun _ _ _ _ h => h) (yh_pickT rfl rfl rfl) ?_
                  refine wd_take (i := 26) [0] rfl rfl rfl rfl rfl (by kernel_rfl) rfl (fun _ _ _ _ h => h) (yh_move rfl rfl) ?_
                  refine wd_split 27 rfl rfl rfl (fun c11 => ?_) (fun c11 => ?_)
                  · skip
                    replace h := bt c11 h
                    refine wd_take (i := 27) [0] rfl rfl rfl rfl rfl (by kernel_rfl) rfl (fun _ _ _ _ h => h) (yh_move rfl rfl) ?_
                    refine wd_take (i := 28) [0] rfl rfl rfl rfl rfl (by kernel_rfl) rfl (fun _ _ _ _ h => h) (yh_move rfl rfl) ?_
                    obtain ⟨l92, zl92, h⟩ := bd h
                    obtain ⟨il92, jl92⟩ := slTo_K zl92
                    have hf92 := sl_takeK hz3 zl92
                    have mx92 := rd_max hf92
                    refine wd_take (i := 29) [0] rfl rfl rfl rfl rfl (by kernel_rfl) rfl (fun _ _ _ _ h => h) (yh_sliceH Tb (k := l92.length) rfl rfl rfl il92 (Nat.le_trans jl92 (rd_cap hz3)) rfl rfl) ?_
                    refine wd_take (i := 30) [0] rfl rfl rfl rfl rfl (by kernel_rfl) rfl (fun _ _ _ _ h => h) (yh_move rfl rfl) ?_
                    obtain ⟨x94, hx94, h⟩ := bd h
                    refine wd_one 31 rfl rfl (by kernel_rfl) (ow_cV rfl hb18 rfl (fun w hw => c_laws_sameFlows N _ _ _ hx94 w (Lay.at_ hf92 hw) (Lay.at_ hz1 hw)) rfl rfl (kk_wd [0] rfl ?_))
                    refine wd_take (i := 32) [0] rfl rfl rfl rfl rfl (by kernel_rfl) rfl (fun _ _ _ _ h => h) (yh_pickT rfl rfl rfl) ?_
                    refine wd_take (i := 33) [0] rfl rfl rfl rfl rfl (by kernel_rfl) rfl (fun _ _ _ _ h => h) (yh_assign rfl rfl) ?_
                    refine wd_done (by kernel_rfl) ?_
                    refine ex_seq ?_
                    refine cw_ret ?_
                    obtain rfl := Option.some.inj h
                    exact ex_r1 Tb rfl (.tmp rfl) (fun wq hq => ⟨_, rfl, (hB4.back hq).ext, rfl⟩)
                  · skip
                    replace h := bf c11 h
                    refine wd_skip (i := 27) [0] rfl rfl rfl rfl (by kernel_rfl) rfl (fun _ _ _ h => h) ?_
                    refine wd_skip (i := 28) [0] rfl rfl rfl rfl (by kernel_rfl) rfl (fun _ _ _ h => h) ?_
                    refine wd_skip (i := 29) [0] rfl rfl rfl rfl (by kernel_rfl) rfl (fun _ _ _ h => h) ?_
                    refine wd_skip (i := 30) [0] rfl rfl rfl rfl (by kernel_rfl) rfl (fun _ _ _ h => h) ?_
                    refine wd_offD 31 rfl rfl rfl rfl (by kernel_rfl) [0] (fun _ => rfl) ?_
                    refine wd_take (i := 32) [0] rfl rfl rfl rfl rfl (by kernel_rfl) rfl (fun _ _ _ _ h => h) (yh_pickF rfl rfl rfl) ?_
                    refine wd_take (i := 33) [0] rfl rfl rfl rfl rfl (by kernel_rfl) rfl (fun _ _ _ _ h => h) (yh_assign rfl rfl) ?_
                    refine wd_done (by kernel_rfl) ?_
                    refine ex_seq ?_
                    refine cw_ret ?_
                    obtain rfl := Option.some.inj h
                    exact ex_r1 Tb rfl (.tmp rfl) (fun wq hq => ⟨_, rfl, (hB4.back hq).ext, rfl⟩)
                · skip
                  replace h := bf c10 h
                  have q5 := eqb_false.1 c10
                  refine wd_skip (i := 19) [0] rfl rfl rfl rfl (by kernel_rfl) rfl (fun _ _ _ h => h) ?_
                  refine wd_skip (i := 20) [0] rfl rfl rfl rfl (by kernel_rfl) rfl (fun _ _ _ h => h) ?_
                  refine wd_skip (i := 21) [0] rfl rfl rfl rfl (by kernel_rfl) rfl (fun _ _ _ h => h) ?_
                  refine wd_skip (i := 22) [0] rfl rfl rfl rfl (by kernel_rfl) rfl (fun _ _ _ h => h) ?_
                  refine wd_skip (i := 23) [0] rfl rfl rfl rfl (by kernel_rfl) rfl (fun _ _ _ h => h) ?_
                  refine wd_offD 24 rfl rfl rfl rfl (by kernel_rfl) [0] (fun _ => rfl) ?_
                  refine wd_take (i := 25) [0] rfl rfl rfl rfl rfl (by kernel_rfl) rfl (fun _ _ _ _ h => h) (yh_pickF rfl rfl rfl) ?_
                  refine wd_take (i := 26) [0] rfl rfl rfl rfl rfl (by kernel_rfl) rfl (fun _ _ _ _ h => h) (yh_move rfl rfl) ?_
                  refine wd_split 27 rfl rfl rfl nofun (fun _ => ?_)
                  refine wd_skip (i := 27) [0] rfl rfl rfl rfl (by kernel_rfl) rfl (fun _ _ _ h => h) ?_
                  refine wd_skip (i := 28) [0] rfl rfl rfl rfl (by kernel_rfl) rfl (fun _ _ _ h => h) ?_
                  refine wd_skip (i := 29) [0] rfl rfl rfl rfl (by kernel_rfl) rfl (fun _ _ _ h => h) ?_
                  refine wd_skip (i := 30) [0] rfl rfl rfl rfl (by kernel_rfl) rfl (fun _ _ _ h => h) ?_
                  refine wd_offD 31 rfl rfl rfl rfl (by kernel_rfl) [0] (fun _ => rfl) ?_
                  refine wd_take (i := 32) [0] rfl rfl rfl rfl rfl (by kernel_rfl) rfl (fun _ _ _ _ h => h) (yh_pickF rfl rfl rfl) ?_
                  refine wd_take (i := 33) [0] rfl rfl rfl rfl rfl (by kernel_rfl) rfl (fun _ _ _ _ h => h) (yh_assign rfl rfl) ?_
                  refine wd_done (by kernel_rfl) ?_
                  refine ex_seq ?_
                  refine cw_ret ?_
                  obtain rfl := Option.some.inj h
                  exact ex_r1 Tb rfl (.tmp rfl) (fun wq hq => ⟨_, rfl, (hB4.back hq).ext, rfl⟩)
              · skip
                replace h := bf c9 h
                have q6 := eqb_false.1 c9
                refine wd_skip (i := 10) [0] rfl rfl rfl rfl (by kernel_rfl) rfl (fun _ _ _ h => h) ?_
                refine wd_skip (i := 11) [0] rfl rfl rfl rfl (by kernel_rfl) rfl (fun _ _ _ h => h) ?_
                refine wd_skip (i := 12) [0] rfl rfl rfl rfl (by kernel_rfl) rfl (fun _ _ _ h => h) ?_
                refine wd_skip (i := 13) [0] rfl rfl rfl rfl (by kernel_rfl) rfl (fun _ _ _ h => h) ?_
                refine wd_skip (i := 14) [0] rfl rfl rfl rfl (by kernel_rfl) rfl (fun _ _ _ h => h) ?_
                refine wd_skip (i := 15) [0] rfl rfl rfl rfl (by kernel_rfl) rfl (fun _ _ _ h => h) ?_
                refine wd_skip (i := 16) [0] rfl rfl rfl rfl (by kernel_rfl) rfl (fun _ _ _ h => h) ?_
                refine wd_take (i := 17) [0] rfl rfl rfl rfl rfl (by kernel_rfl) rfl (fun _ _ _ _ h => h) (yh_pickF rfl rfl rfl) ?_
                refine wd_take (i := 18) [0] rfl rfl rfl rfl rfl (by kernel_rfl) rfl (fun _ _ _ _ h => h) (yh_move rfl rfl) ?_
                refine wd_split 19 rfl rfl rfl nofun (fun _ => ?_)
                refine wd_skip (i := 19) [0] rfl rfl rfl rfl (by kernel_rfl) rfl (fun _ _ _ h => h) ?_
                refine wd_skip (i := 20) [0] rfl rfl rfl rfl (by kernel_rfl) rfl (fun _ _ _ h => h) ?_
                refine wd_skip (i := 21) [0] rfl rfl rfl rfl (by kernel_rfl) rfl (fun _ _ _ h => h) ?_
                refine wd_skip (i := 22) [0] rfl rfl rfl rfl (by kernel_rfl) rfl (fun _ _ _ h => h) ?_
                refine wd_skip (i := 23) [0] rfl rfl rfl rfl (by kernel_rfl) rfl (fun _ _ _ h => h) ?_
                refine wd_offD 24 rfl rfl rfl rfl (by kernel_rfl) [0] (fun _ => rfl) ?_
                refine wd_take (i := 25) [0] rfl rfl rfl rfl rfl (by kernel_rfl) rfl (fun _ _ _ _ h => h) (yh_pickF rfl rfl rfl) ?_
                refine wd_take (i := 26) [0] rfl rfl rfl rfl rfl (by kernel_rfl) rfl (fun _ _ _ _ h => h) (yh_move rfl rfl) ?_
                refine wd_split 27 rfl rfl rfl nofun (fun _ => ?_)
                refine wd_skip (i := 27) [0] rfl rfl rfl rfl (by kernel_rfl) rfl (fun _ _ _ h => h) ?_
                refine wd_skip (i := 28) [0] rfl rfl rfl rfl (by kernel_rfl) rfl (fun _ _ _ h => h) ?_
                refine wd_skip (i := 29) [0] rfl rfl rfl rfl (by kernel_rfl) rfl (fun _ _ _ h => h) ?_
                refine wd_skip (i := 30) [0] rfl rfl rfl rfl (by kernel_rfl) rfl (fun _ _ _ h => h) ?_
                refine wd_offD 31 rfl rfl rfl rfl (by kernel_rfl) [0] (fun _ => rfl) ?_
                refine wd_take (i := 32) [0] rfl rfl rfl rfl rfl (by kernel_rfl) rfl (fun _ _ _ _ h => h) (yh_pickF rfl rfl rfl) ?_
                refine wd_take (i := 33) [0] rfl rfl rfl rfl rfl (by kernel_rfl) rfl (fun _ _ _ _ h => h) (yh_assign rfl rfl) ?_
                refine wd_done (by kernel_rfl) ?_
                refine ex_seq ?_
                refine cw_ret ?_
                obtain rfl := Option.some.inj h
                exact ex_r1 Tb rfl (.tmp rfl) (fun wq hq => ⟨_, rfl, (hB4.back hq).ext, rfl⟩)
            · skip
              replace h := bf c8 h
              refine wd_skip (i := 3) [0] rfl rfl rfl rfl (by kernel_rfl) rfl (fun _ _ _ h => h) ?_
              refine wd_skip (i := 4) [0] rfl rfl rfl rfl (by kernel_rfl) rfl (fun _ _ _ h => h) ?_
              refine wd_skip (i := 5) [0] rfl rfl rfl rfl (by kernel_rfl) rfl (fun _ _ _ h => h) ?_
              refine wd_skip (i := 6) [0] rfl rfl rfl rfl (by kernel_rfl) rfl (fun _ _ _ h => h) ?_
              refine wd_skip (i := 7) [0] rfl rfl rfl rfl (by kernel_rfl) rfl (fun _ _ _ h => h) ?_
              refine wd_take (i := 8) [0] rfl rfl rfl rfl rfl (by kernel_rfl) rfl (fun _ _ _ _ h => h) (yh_pickF rfl rfl rfl) ?_
              refine wd_take (i := 9) [0] rfl rfl rfl rfl rfl (by kernel_rfl) rfl (fun _ _ _ _ h => h) (yh_move rfl rfl) ?_
              refine wd_split 10 rfl rfl rfl nofun (fun _ => ?_)
              refine wd_skip (i := 10) [0] rfl rfl rfl rfl (by kernel_rfl) rfl (fun _ _ _ h => h) ?_
              refine wd_skip (i := 11) [0] rfl rfl rfl rfl (by kernel_rfl) rfl (fun _ _ _ h => h) ?_
              refine wd_skip (i := 12) [0] rfl rfl rfl rfl (by kernel_rfl) rfl (fun _ _ _ h => h) ?_
              refine wd_skip (i := 13) [0] rfl rfl rfl rfl (by kernel_rfl) rfl (fun _ _ _ h => h) ?_
              refine wd_skip (i := 14) [0] rfl rfl rfl rfl (by kernel_rfl) rfl (fun _ _ _ h => h) ?_
              refine wd_skip (i := 15) [0] rfl rfl rfl rfl (by kernel_rfl) rfl (fun _ _ _ h => h) ?_
              refine wd_skip (i := 16) [0] rfl rfl rfl rfl (by kernel_rfl) rfl (fun _ _ _ h => h) ?_
              refine wd_take (i := 17) [0] rfl rfl rfl rfl rfl (by kernel_rfl) rfl (fun _ _ _ _ h => h) (yh_pickF rfl rfl rfl) ?_
              refine wd_take (i := 18) [0] rfl rfl rfl rfl rfl (by kernel_rfl) rfl (fun _ _ _ _ h => h) (yh_move rfl rfl) ?_
              refine wd_split 19 rfl rfl rfl nofun (fun _ => ?_)
              refine wd_skip (i := 19) [0] rfl rfl rfl rfl (by kernel_rfl) rfl (fun _ _ _ h => h) ?_
              refine wd_skip (i := 20) [0] rfl rfl rfl rfl (by kernel_rfl) rfl (fun _ _ _ h => h) ?_
              refine wd_skip (i := 21) [0] rfl rfl rfl rfl (by kernel_rfl) rfl (fun _ _ _ h => h) ?_
              refine wd_skip (i := 22) [0] rfl rfl rfl rfl (by kernel_rfl) rfl (fun _ _ _ h => h) ?_
              refine wd_skip (i := 23) [0] rfl rfl rfl rfl (by kernel_rfl) rfl (fun _ _ _ h => h) ?_
              refine wd_offD 24 rfl rfl rfl rfl (by kernel_rfl) [0] (fun _ => rfl) ?_
              refine wd_take (i := 25) [0] rfl rfl rfl rfl rfl (by kernel_rfl) rfl (fun _ _ _ _ h => h) (yh_pickF rfl rfl rfl) ?_
              refine wd_take (i := 26) [0] rfl rfl rfl rfl rfl (by kernel_rfl) rfl (fun _ _ _ _ h => h) (yh_move rfl rfl) ?_
              refine wd_split 27 rfl rfl rfl nofun (fun _ => ?_)
              refine wd_skip (i := 27) [0] rfl rfl rfl rfl (by kernel_rfl) rfl (fun _ _ _ h => h) ?_
              refine wd_skip (i := 28) [0] rfl rfl rfl rfl (by kernel_rfl) rfl (fun _ _ _ h => h) ?_
              refine wd_skip (i := 29) [0] rfl rfl rfl rfl (by kernel_rfl) rfl (fun _ _ _ h => h) ?_
              refine wd_skip (i := 30) [0] rfl rfl rfl rfl (by kernel_rfl) rfl (fun _ _ _ h => h) ?_
              refine wd_offD 31 rfl rfl rfl rfl (by kernel_rfl) [0] (fun _ => rfl) ?_
              refine wd_take (i := 32) [0] rfl rfl rfl rfl rfl (by kernel_rfl) rfl (fun _ _ _ _ h => h) (yh_pickF rfl rfl rfl) ?_
              refine wd_take (i := 33) [0] rfl rfl rfl rfl rfl (by kernel_rfl) rfl (fun _ _ _ _ h => h) (yh_assign rfl rfl) ?_
              refine wd_done (by kernel_rfl) ?_
              refine ex_seq ?_
              refine cw_ret ?_
              obtain rfl := Option.some.inj h
              exact ex_r1 Tb rfl (.tmp rfl) (fun wq hq => ⟨_, rfl, (hB4.back hq).ext, rfl⟩)
          · skip
            have h := he115
            refine cw_seq ?_
            refine cw_region ?_
            refine wl_u rfl (ow_y (yh_move rfl rfl) rfl rfl (kk_wl ?_))
            refine wl_u rfl (ow_y (yh_cmpI rfl rfl rfl rfl) rfl rfl (kk_wl ?_))
            refine wl_nil ?_
            refine ex_seq ?_
            refine cw_split rfl (fun c12 => ?_) (fun c12 => ?_)
            · skip
              replace h := bt c12 h
              have q7 := ltb_true.1 c12
              refine cw_region ?_
              refine wl_u rfl (ow_y (yh_move rfl rfl) rfl rfl (kk_wl ?_))
              refine wl_u rfl (ow_y (yh_move rfl rfl) rfl rfl (kk_wl ?_))
              refine wl_u rfl (ow_y (yh_arI rfl rfl rfl rfl (by omega)) rfl rfl (kk_wl ?_))
              obtain ⟨y59, zy59, h⟩ := bd h
              obtain ⟨iy59, hy59⟩ := geti_some zy59
              obtain ⟨b59, o59, ha59⟩ := sl_addr hz1 hy59
              subst ha59
              obtain ⟨a59, e59, hc59, hf59⟩ := get_flow hz1 hy59
              have mx59 := rd_max hf59
              refine wl_u rfl (ow_y (yh_idx Tb (k := (((x16.1.length : Nat) : Int) - 1).toNat) rfl rfl rfl iy59 (get_lt hy59) rfl rfl) rfl rfl (kk_wl ?_))
              refine wl_u rfl (ow_y (yh_field Tb rfl rfl rfl) rfl rfl (kk_wl ?_))
              refine wl_u rfl (ow_y (yh_loadAF Tb (j := 0) rfl rfl rfl hc59 rfl) rfl rfl (kk_wl ?_))
              refine wl_u rfl (ow_y (yh_arW rfl rfl rfl rfl) rfl rfl (kk_wl ?_))
              refine wl_u rfl (ow_y (yh_assign rfl rfl) rfl rfl (kk_wl ?_))
              refine wl_nil ?_
              obtain rfl := Option.some.inj h
              exact ex_next [0] (hn115 () trivial) ⟨rfl, rfl, rfl, rfl, rfl, trivial⟩ rfl
            · skip
              replace h := bf c12 h
              have q8 := ltb_false.1 c12
              refine cw_skip ?_
              obtain rfl := Option.some.inj h
              exact ex_next [0] (hn115 () trivial) ⟨rfl, rfl, rfl, rfl, rfl, trivial⟩ rfl

def m_impl_versionAt_f1 (N : Nat) (f : Flow) (version : Int) : Option (Bool) := some (eqb f.ver version)

set_option maxHeartbeats 4000000 in
theorem c_impl_versionAt_f1 (N : Nat) (f : Flow) (version : Int) (res : Bool) (h : m_impl_versionAt_f1 N f version = some res) (w : World) {a_f_steps : Option Addr} {c_f_steps : Nat} {g_version : Nat} (h_f_steps : stepsL.rd w [] [.slice a_f_steps f.steps.length c_f_steps] f.steps) (hg_version : CellN w [] g_version 0 [.int .i64 version]) : Ret Try.prog 113 [.agg #[.int .i64 f.ver, .slice a_f_steps f.steps.length c_f_steps], .pointer (some ⟨g_version, 0, none⟩)] w [] fun v w' => v = .bool res := by
  have mh_f_steps := rd_max h_f_steps
  unfold m_impl_versionAt_f1 at h
  refine ret_enter Try.func113 rfl Try.ntmps113 rfl (Hp.refl w _) ?_
  refine cw_seq ?_
  refine cw_region ?_
  refine wl_u rfl (ow_boxA rfl rfl rfl rfl (fun g2 => kk_wl ?_))
  refine wl_u rfl (ow_y (yh_assign rfl rfl) rfl rfl (kk_wl ?_))
  refine wl_nil ?_
  refine ex_seq ?_
  refine cw_seq ?_
  refine cw_region ?_
  refine wl_u rfl (ow_y (yh_field Tb rfl rfl rfl) rfl rfl (kk_wl ?_))
  refine wl_u rfl (ow_y (yh_loadB Tb (k := 0) rfl rfl rfl rfl rfl) rfl rfl (kk_wl ?_))
  refine wl_u rfl (ow_y (yh_loadA0 Tb rfl rfl rfl hg_version rfl) rfl rfl (kk_wl ?_))
  refine wl_u rfl (ow_y (yh_cmpI rfl rfl rfl rfl) rfl rfl (kk_wl ?_))
  refine wl_u rfl (ow_y (yh_assign rfl rfl) rfl rfl (kk_wl ?_))
  refine wl_nil ?_
  refine ex_seq ?_
  refine cw_ret ?_
  obtain rfl := Option.some.inj h
  exact ex_r1 Tb rfl (.tmp rfl) (fun wq hq => ⟨_, rfl, hq.ext, rfl⟩)

def m_slices_IndexFunc_Flow_L4 (N : Nat) (s_ : List Flow) (f : Flow → Option Bool) : Nat → Nat → Option (Ex (Nat) (Int))
  | 0, _ => none
  | n + 1, s8 => (bif ltb ((s8 : Nat) : Int) ((s_.length : Nat) : Int) then (s_[s8]?).bind fun y14 => (f y14).bind fun x16 => (bif x16 then some (Ex.ret ((s8 : Nat) : Int))
 else m_slices_IndexFunc_Flow_L4 N s_ f n (s8 + 1))
 else some (Ex.brk (s8)))

def m_slices_IndexFunc_Flow (N : Nat) (s_ : List Flow) (f : Flow → Option Bool) : Option (Int) := (m_slices_IndexFunc_Flow_L4 N s_ f N 0).bind fun e4 => e4.go (fun r => r) fun b4 => some (-1)

set_option maxHeartbeats 4000000 in
theorem c_slices_IndexFunc_Flow (N : Nat) (s_ : List Flow) (f : Flow → Option Bool) (res : Int) (h : m_slices_IndexFunc_Flow N s_ f = some res) (w : World) {a_s_ : Option Addr} {c_s_ : Nat} {k_f : FuncId} {caps_f : List Value} (h_s_ : flowsL.rd w [] [.slice a_s_ s_.length c_s_] s_) (hb_f : hasBody Try.prog k_f) (hf_f : ∀ x0 b, f x0 = some b → ∀ w', ExtM [] w w' → ∀ a1 c1, stepsL.rd w' [] [.slice a1 x0.steps.length c1] x0.steps → Ret Try.prog k_f ([.agg #[.int .i64 x0.ver, .slice a1 x0.steps.length c1]] ++ caps_f) w' [] fun v _ => v = .bool b) : Ret Try.prog 112 [.slice a_s_ s_.length c_s_, .func (.func k_f) #[] caps_f.toArray] w [] fun v w' => v = .int .i64 res := by
  have mh_s_ := rd_max h_s_
  unfold m_slices_IndexFunc_Flow at h
  refine ret_enter Try.func112 rfl Try.ntmps112 rfl (Hp.refl w _) ?_
  refine cw_seq ?_
  refine cw_region ?_
  refine wl_u rfl (ow_y (yh_assign rfl rfl) rfl rfl (kk_wl ?_))
  refine wl_nil ?_
  refine ex_seq ?_
  refine cw_seq ?_
  refine cw_seq ?_
  refine cw_region ?_
  refine wl_u rfl (ow_y (yh_move rfl rfl) rfl rfl (kk_wl ?_))
  refine wl_u rfl (ow_y (yh_lenS Tb rfl rfl rfl rfl) rfl rfl (kk_wl ?_))
  refine wl_u rfl (ow_y (yh_move rfl rfl) rfl rfl (kk_wl ?_))
  refine wl_nil ?_
  refine ex_seq ?_
  refine cw_block ?_
  obtain ⟨e4, he4, hk4⟩ := bd h
  clear h
  refine cw_loopG (σ := Nat × Nat) (fun s => m_slices_IndexFunc_Flow_L4 N s_ f s.1 s.2 = some e4) (fun s => [(0, .slice a_s_ s_.length c_s_), (1, .func (.func k_f) #[] caps_f.toArray), (7, .int .i64 ((s_.length : Nat) : Int)), (8, .int .i64 ((s.2 : Nat) : Int))]) (fun s => []) (fun s => s.1) (N, 0) [] he4 ⟨rfl, rfl, rfl, rfl, trivial⟩ rfl (fun KL s he4 hn4 => ?_)
  obtain ⟨n4, s8⟩ := s
  simp only at he4 hn4 ⊢
  rcases n4 with _ | n4
  · exact nosome he4
  have h := he4; rw [m_slices_IndexFunc_Flow_L4] at h
  refine cw_seq ?_
  refine cw_region ?_
  refine wl_u rfl (ow_y (yh_cmpI rfl rfl rfl rfl) rfl rfl (kk_wl ?_))
  refine wl_nil ?_
  refine ex_seq ?_
  refine cw_seq ?_
  refine cw_split rfl (fun c1 => ?_) (fun c1 => ?_)
  · skip
    replace h := bt c1 h
    have q1 := ltb_true.1 c1
    refine cw_skip ?_
    refine ex_seq ?_
    refine cw_seq ?_
    refine cw_block ?_
    refine cw_seq ?_
    refine cw_region ?_
    refine wl_u rfl (ow_y (yh_move rfl rfl) rfl rfl (kk_wl ?_))
    refine wl_u rfl (ow_y (yh_assign rfl rfl) rfl rfl (kk_wl ?_))
    refine wl_nil ?_
    refine ex_seq ?_
    refine cw_seq ?_
    refine cw_region ?_
    refine wl_u rfl (ow_y (yh_move rfl rfl) rfl rfl (kk_wl ?_))
    refine wl_u rfl (ow_y (yh_move rfl rfl) rfl rfl (kk_wl ?_))
    refine wl_u rfl (ow_y (yh_move rfl rfl) rfl rfl (kk_wl ?_))
    obtain ⟨y14, hy14, h⟩ := bd h
    obtain ⟨b14, o14, ha14⟩ := sl_addr h_s_ hy14
    subst ha14
    obtain ⟨a14, e14, hc14, hf14⟩ := get_flow h_s_ hy14
    have mx14 := rd_max hf14
    refine wl_u rfl (ow_y (yh_idx Tb (k := s8) rfl rfl rfl rfl (get_lt hy14) rfl rfl) rfl rfl (kk_wl ?_))
    refine wl_u rfl (ow_y (yh_loadAN Tb rfl rfl rfl rfl hc14 rfl) rfl rfl (kk_wl ?_))
    obtain ⟨x16, hx16, h⟩ := bd h
    refine wl_u rfl (ow_callV rfl rfl hb_f rfl rfl (fun w hw => hf_f _ _ hx16 w hw.ext _ _ (Lay.at_ hf14 hw)) rfl rfl (kk_wl ?_))
    refine wl_nil ?_
    refine ex_seq ?_
    refine cw_split rfl (fun c2 => ?_) (fun c2 => ?_)
    · skip
      replace h := bt c2 h
      refine cw_seq ?_
      refine cw_region ?_
      refine wl_u rfl (ow_y (yh_move rfl rfl) rfl rfl (kk_wl ?_))
      refine wl_u rfl (ow_y (yh_assign rfl rfl) rfl rfl (kk_wl ?_))
      refine wl_nil ?_
      refine ex_seq ?_
      refine cw_ret ?_
      refine ex_block_ret ?_
      refine ex_then_ret ?_
      refine ex_then_ret ?_
      refine ex_block_ret ?_
      refine ex_then_ret ?_
      obtain rfl := Option.some.inj h
      obtain rfl := go_ret hk4
      exact ex_r1 Tb rfl (.tmp rfl) (fun wq hq => ⟨_, rfl, hq.ext, rfl⟩)
    · skip
      replace h := bf c2 h
      refine cw_skip ?_
      refine ex_block_normal ?_
      refine ex_seq ?_
      refine cw_region ?_
      refine wl_u rfl (ow_y (yh_arI rfl rfl rfl rfl (by omega)) rfl rfl (kk_wl ?_))
      refine wl_u rfl (ow_y (yh_move rfl rfl) rfl rfl (kk_wl ?_))
      refine wl_nil ?_
      exact ex_next [] (hn4 (n4, s8 + 1) (Nat.lt_succ_self _) h) ⟨rfl, rfl, rfl, rfl, trivial⟩ rfl
  · skip
    replace h := bf c1 h
    have q2 := ltb_false.1 c1
    refine cw_exit ?_
    refine ex_then_exit ?_
    refine ex_then_exit ?_
    obtain rfl := Option.some.inj h
    have h := go_brk hk4
    refine ex_block_exit ?_
    refine ex_seq ?_
    refine cw_seq ?_
    refine cw_region ?_
    refine wl_u rfl (ow_y (yh_assign rfl rfl) rfl rfl (kk_wl ?_))
    refine wl_nil ?_
    refine ex_seq ?_
    refine cw_ret ?_
    obtain rfl := Option.some.inj h
    exact ex_r1 Tb rfl (.tmp rfl) (fun wq hq => ⟨_, rfl, hq.ext, rfl⟩)

def m_impl_versionAt (N : Nat) (list_ : List Flow) (version : Int) : Option (Int) := (m_slices_IndexFunc_Flow N list_ (fun x0 => m_impl_versionAt_f1 N x0 version)).bind fun x7 => some x7

set_option maxHeartbeats 4000000 in
theorem c_impl_versionAt (N : Nat) (list_ : List Flow) (version : Int) (res : Int) (h : m_impl_versionAt N list_ version = some res) (w : World) {a_list_ : Option Addr} {c_list_ : Nat} (h_list_ : flowsL.rd w [] [.slice a_list_ list_.length c_list_] list_) : Ret Try.prog 72 [.slice a_list_ list_.length c_list_, .int .i64 version] w [] fun v w' => v = .int .i64 res := by
  have mh_list_ := rd_max h_list_
  unfold m_impl_versionAt at h
  refine ret_enter Try.func72 rfl Try.ntmps72 rfl (Hp.refl w _) ?_
  refine cw_seq ?_
  refine cw_region ?_
  refine wl_u rfl (ow_box1 rfl rfl rfl rfl rfl (fun g3 => kk_wl ?_))
  refine wl_u rfl (ow_y (yh_assign rfl rfl) rfl rfl (kk_wl ?_))
  refine wl_nil ?_
  refine ex_seq ?_
  refine cw_seq ?_
  refine cw_region ?_
  refine wl_u rfl (ow_y (yh_move rfl rfl) rfl rfl (kk_wl ?_))
  refine wl_u rfl (ow_y (yh_mkfn rfl rfl) rfl rfl (kk_wl ?_))
  obtain ⟨x7, hx7, h⟩ := bd h
  refine wl_u rfl (ow_cV rfl hb112 rfl (fun w hw => c_slices_IndexFunc_Flow N _ _ _ hx7 w (Lay.at_ h_list_ hw) hb113 (fun x0 b hb w' hE a1 c1 h1 => c_impl_versionAt_f1 N x0 version b hb w' h1 (cell_blk ((hw.step hE).at (i := 0) rfl)))) rfl rfl (kk_wl ?_))
  refine wl_u rfl (ow_y (yh_assign rfl rfl) rfl rfl (kk_wl ?_))
  refine wl_nil ?_
  refine ex_seq ?_
  refine cw_ret ?_
  obtain rfl := Option.some.inj h
  exact ex_r1 Tb rfl (.tmp rfl) (fun wq hq => ⟨_, rfl, hq.ext, rfl⟩)

def m_impl_RegistryFind (N : Nat) (list_ : List Flow) (version : Int) : Option (Flow × Bool) := (m_impl_RegistryValid N list_).bind fun x7 => (bif !x7 then some ((Flow.mk 0 []), false)
 else (m_impl_versionAt N list_ version).bind fun x12 => (bif ltb x12 0 then some ((Flow.mk 0 []), false)
 else (m_impl_versionAt N list_ version).bind fun x19 => (geti list_ x19).bind fun y20 => (m_impl_Flow_clone N y20).bind fun x22 => some (x22, true)))

set_option maxHeartbeats 4000000 in
theorem c_impl_RegistryFind (N : Nat) (list_ : List Flow) (version : Int) (res : Flow × Bool) (h : m_impl_RegistryFind N list_ version = some res) (w : World) {a_list_ : Option Addr} {c_list_ : Nat} (h_list_ : flowsL.rd w [] [.slice a_list_ list_.length c_list_] list_) : Ret Try.prog 24 [.slice a_list_ list_.length c_list_, .int .i64 version] w [] fun v w' => ∃ a1 c1 F1, v = .tuple #[.agg #[.int .i64 res.1.ver, .slice a1 res.1.steps.length c1], .bool res.2] ∧ NewC w w' [owC stepsL F1 [.slice a1 res.1.steps.length c1] res.1.steps] := by
  have mh_list_ := rd_max h_list_
  unfold m_impl_RegistryFind at h
  refine ret_enter Try.func24 rfl Try.ntmps24 rfl (Hp.refl w _) ?_
  refine cw_seq ?_
  refine cw_region ?_
  refine wl_u rfl (ow_allocA Tb rfl rfl rfl rfl (fun g4 => kk_wl ?_))
  refine wl_u rfl (ow_y (yh_assign rfl rfl) rfl rfl (kk_wl ?_))
  refine wl_nil ?_
  refine ex_seq ?_
  refine cw_seq ?_
  refine cw_seq ?_
  refine cw_region ?_
  refine wl_u rfl (ow_y (yh_move rfl rfl) rfl rfl (kk_wl ?_))
  obtain ⟨x7, hx7, h⟩ := bd h
  refine wl_u rfl (ow_cV rfl hb19 rfl (fun w hw => c_impl_RegistryValid N _ _ hx7 w (Lay.at_ h_list_ hw)) rfl rfl (kk_wl ?_))
  refine wl_u rfl (ow_y (yh_not rfl rfl) rfl rfl (kk_wl ?_))
  refine wl_u rfl (ow_y (yh_move rfl rfl) rfl rfl (kk_wl ?_))
  refine wl_s rfl rfl (fun c1 => ?_) (fun c1 => ?_)
  · skip
    replace h := bt c1 h
    refine wl_n rfl rfl rfl rfl ?_
    refine wl_n rfl rfl rfl rfl ?_
    refine wl_n rfl rfl rfl rfl ?_
    refine wl_n rfl rfl rfl rfl ?_
    refine wl_u rfl (ow_y (yh_pickT rfl rfl rfl) rfl rfl (kk_wl ?_))
    refine wl_nil ?_
    refine ex_seq ?_
    refine cw_true rfl ?_
    refine cw_seq ?_
    refine cw_region ?_
    refine wl_u rfl (ow_y (yh_build [.int .i64 0, .slice none 0 0] rfl rfl (by kernel_rfl)) rfl rfl (kk_wl ?_))
    refine wl_u rfl (ow_storeA Tb (k := 0) rfl rfl rfl rfl rfl rfl rfl rfl rfl (kk_wl ?_))
    refine wl_u rfl (ow_y (yh_assign rfl rfl) rfl rfl (kk_wl ?_))
    refine wl_nil ?_
    refine ex_seq ?_
    refine cw_ret ?_
    refine ex_then_ret ?_
    refine ex_nilS stepsL rfl ?_
    obtain rfl := Option.some.inj h
    exact ex_r2 Tb rfl (.cellA 1 rfl rfl rfl rfl rfl) (.tmp rfl) (fun wq hq => ⟨_, rfl, hq.ext, ⟨none, 0, [], rfl, NewC.sel [0] hq rfl⟩⟩)
  · skip
    replace h := bf c1 h
    refine wl_g rfl rfl (ow_y (yh_move rfl rfl) rfl rfl (kk_wl ?_))
    refine wl_g rfl rfl (ow_y (yh_move rfl rfl) rfl rfl (kk_wl ?_))
    obtain ⟨x12, hx12, h⟩ := bd h
    refine wl_g rfl rfl (ow_cV rfl hb72 rfl (fun w hw => c_impl_versionAt N _ _ _ hx12 w (Lay.at_ h_list_ hw)) rfl rfl (kk_wl ?_))
    refine wl_g rfl rfl (ow_y (yh_cmpI rfl rfl rfl rfl) rfl rfl (kk_wl ?_))
    refine wl_u rfl (ow_y (yh_pickF rfl rfl rfl) rfl rfl (kk_wl ?_))
    refine wl_nil ?_
    refine ex_seq ?_
    refine cw_split rfl (fun c2 => ?_) (fun c2 => ?_)
    · skip
      replace h := bt c2 h
      have q1 := ltb_true.1 c2
      refine cw_seq ?_
      refine cw_region ?_
      refine wl_u rfl (ow_y (yh_build [.int .i64 0, .slice none 0 0] rfl rfl (by kernel_rfl)) rfl rfl (kk_wl ?_))
      refine wl_u rfl (ow_storeA Tb (k := 0) rfl rfl rfl rfl rfl rfl rfl rfl rfl (kk_wl ?_))
      refine wl_u rfl (ow_y (yh_assign rfl rfl) rfl rfl (kk_wl ?_))
      refine wl_nil ?_
      refine ex_seq ?_
      refine cw_ret ?_
      refine ex_then_ret ?_
      refine ex_nilS stepsL rfl ?_
      obtain rfl := Option.some.inj h
      exact ex_r2 Tb rfl (.cellA 1 rfl rfl rfl rfl rfl) (.tmp rfl) (fun wq hq => ⟨_, rfl, hq.ext, ⟨none, 0, [], rfl, NewC.sel [0] hq rfl⟩⟩)
    · skip
      replace h := bf c2 h
      have q2 := ltb_false.1 c2
      refine cw_skip ?_
      refine ex_seq ?_
      refine cw_seq ?_
      refine cw_region ?_
      refine wl_u rfl (ow_y (yh_move rfl rfl) rfl rfl (kk_wl ?_))
      refine wl_u rfl (ow_y (yh_move rfl rfl) rfl rfl (kk_wl ?_))
      refine wl_u rfl (ow_y (yh_move rfl rfl) rfl rfl (kk_wl ?_))
      obtain ⟨x19, hx19, h⟩ := bd h
      refine wl_u rfl (ow_cV rfl hb72 rfl (fun w hw => c_impl_versionAt N _ _ _ hx19 w (Lay.at_ h_list_ hw)) rfl rfl (kk_wl ?_))
      obtain ⟨y20, zy20, h⟩ := bd h
      obtain ⟨iy20, hy20⟩ := geti_some zy20
      obtain ⟨b20, o20, ha20⟩ := sl_addr h_list_ hy20
      subst ha20
      obtain ⟨a20, e20, hc20, hf20⟩ := get_flow h_list_ hy20
      have mx20 := rd_max hf20
      refine wl_u rfl (ow_y (yh_idx Tb (k := x19.toNat) rfl rfl rfl iy20 (get_lt hy20) rfl rfl) rfl rfl (kk_wl ?_))
      refine wl_u rfl (ow_y (yh_loadAN Tb rfl rfl rfl rfl hc20 rfl) rfl rfl (kk_wl ?_))
      obtain ⟨x22, hx22, h⟩ := bd h
      refine wl_u rfl (ow_cN1 rfl hb63 rfl (fun w hw => c_impl_Flow_clone N _ _ hx22 w (Lay.at_ hf20 hw)) rfl rfl (fun a22 c22 F22 => kk_wl ?_))
      refine wl_u rfl (ow_storeA Tb (k := 1) rfl rfl rfl rfl rfl rfl rfl rfl rfl (kk_wl ?_))
      refine wl_u rfl (ow_y (yh_assign rfl rfl) rfl rfl (kk_wl ?_))
      refine wl_nil ?_
      refine ex_seq ?_
      refine cw_ret ?_
      obtain rfl := Option.some.inj h
      exact ex_r2 Tb rfl (.cellA 0 rfl rfl rfl rfl rfl) (.tmp rfl) (fun wq hq => ⟨_, rfl, hq.ext, ⟨a22, c22, F22, rfl, NewC.sel [1] hq rfl⟩⟩)

def m_laws_FnPutFind (N : Nat) (u0 : List UInt8) : Option (Bool) := (bif ltb 1048576 ((u0.length : Nat) : Int) then some true
 else (m_spec_DrawRegistryPut N u0).bind fun x16 => (m_impl_RegistryPut N x16.1 x16.2).bind fun x22 => (m_spec_RegistryPut N x16.1 x16.2).bind fun x28 => (bif x22.2 != x28.2 then (bif x22.2 == x28.2 then (m_laws_sameFlows N x22.1 x28.1).bind fun x50 => some x50
 else some false)
 else (m_laws_sameFlows N x22.1 x28.1).bind fun x37 => (bif !x37 then (bif x22.2 == x28.2 then (m_laws_sameFlows N x22.1 x28.1).bind fun x50 => some x50
 else some false)
 else (bif !x22.2 then (bif x22.2 == x28.2 then (m_laws_sameFlows N x22.1 x28.1).bind fun x50 => some x50
 else some false)
 else (geti x22.1 (((x22.1.length : Nat) : Int) - 1)).bind fun y58 => (m_impl_RegistryFind N x22.1 y58.ver).bind fun x61 => (bif x61.2 then (m_impl_FlowsSame N x61.1 x16.2).bind fun x68 => some x68
 else some false)))))

set_option maxHeartbeats 4000000 in
theorem c_laws_FnPutFind (N : Nat) (u0 : List UInt8) (res : Bool) (h : m_laws_FnPutFind N u0 = some res) (w : World) {a_u0 : Option Addr} {c_u0 : Nat} (h_u0 : bytesL.rd w [] [.slice a_u0 u0.length c_u0] u0) : Ret Try.prog 6 [.slice a_u0 u0.length c_u0] w [] fun v w' => v = .bool res := by
  have mh_u0 := rd_max h_u0
  unfold m_laws_FnPutFind at h
  refine ret_enter Try.func6 rfl Try.ntmps6 rfl (Hp.refl w _) ?_
  refine cw_seq ?_
  refine cw_region ?_
  refine wl_u rfl (ow_y (yh_assign rfl rfl) rfl rfl (kk_wl ?_))
  refine wl_nil ?_
  refine ex_seq ?_
  refine cw_seq ?_
  refine cw_seq ?_
  refine cw_region ?_
  refine wl_u rfl (ow_y (yh_move rfl rfl) rfl rfl (kk_wl ?_))
  refine wl_u rfl (ow_y (yh_lenS Tb rfl rfl rfl rfl) rfl rfl (kk_wl ?_))
  refine wl_u rfl (ow_y (yh_cmpI rfl rfl rfl rfl) rfl rfl (kk_wl ?_))
  refine wl_nil ?_
  refine ex_seq ?_
  refine cw_split rfl (fun c1 => ?_) (fun c1 => ?_)
  · skip
    replace h := bt c1 h
    have q1 := ltb_true.1 c1
    refine cw_seq ?_
    refine cw_region ?_
    refine wl_u rfl (ow_y (yh_assign rfl rfl) rfl rfl (kk_wl ?_))
    refine wl_nil ?_
    refine ex_seq ?_
    refine cw_ret ?_
    refine ex_then_ret ?_
    obtain rfl := Option.some.inj h
    exact ex_r1 Tb rfl (.tmp rfl) (fun wq hq => ⟨_, rfl, hq.ext, rfl⟩)
  · skip
    replace h := bf c1 h
    have q2 := ltb_false.1 c1
    refine cw_skip ?_
    refine ex_seq ?_
    refine cw_seq ?_
    refine cw_region ?_
    refine wl_u rfl (ow_y (yh_move rfl rfl) rfl rfl (kk_wl ?_))
    obtain ⟨x16, hx16, h⟩ := bd h
    refine wl_u rfl (ow_cN2 rfl hb15 rfl (fun w hw => c_spec_DrawRegistryPut N _ _ hx16 w (Lay.at_ h_u0 hw)) rfl rfl (fun a16 c16 F16 a16_2 c16_2 F16_2 => kk_wl ?_))
    refine wl_u rfl (ow_y (yh_move rfl rfl) rfl rfl (kk_wl ?_))
    refine wl_u rfl (ow_y (yh_extract rfl rfl rfl) rfl rfl (kk_wl ?_))
    refine wl_u rfl (ow_y (yh_extract rfl rfl rfl) rfl rfl (kk_wl ?_))
    refine wl_u rfl (ow_allocA Tb rfl rfl rfl rfl (fun g4 => kk_wl ?_))
    refine wl_u rfl (ow_y (yh_assign rfl rfl) rfl rfl (kk_wl ?_))
    refine wl_u rfl (ow_storeA Tb (k := 0) rfl rfl rfl rfl rfl rfl rfl rfl rfl (kk_wl ?_))
    refine wl_nil ?_
    refine ex_seq ?_
    refine cw_seq ?_
    refine cw_freeze 1 rfl (fun w1 M1 hb1_ hz1 => ?_)
    replace h_u0 := Lay.rb h_u0 hb1_
    have hB1 := hb1_
    have mz1 := rd_max hz1
    refine cw_freeze 1 rfl (fun w2 M2 hb2_ hz2 => ?_)
    replace h_u0 := Lay.rb h_u0 hb2_
    replace hz1 := Lay.rb hz1 hb2_
    have hB2 := hB1.trans hb2_
    have mz2 := rd_max hz2
    refine cw_region ?_
    refine wl_u rfl (ow_y (yh_move rfl rfl) rfl rfl (kk_wl ?_))
    refine wl_u rfl (ow_y (yh_loadBA Tb (k := 0) rfl rfl rfl rfl rfl rfl) rfl rfl (kk_wl ?_))
    obtain ⟨x22, hx22, h⟩ := bd h
    refine wl_u rfl (ow_cN1 rfl hb16 rfl (fun w hw => c_impl_RegistryPut N _ _ _ hx22 w (Lay.at_ hz1 hw) (Lay.at_ hz2 hw)) rfl rfl (fun a22 c22 F22 => kk_wl ?_))
    refine wl_u rfl (ow_y (yh_move rfl rfl) rfl rfl (kk_wl ?_))
    refine wl_u rfl (ow_y (yh_extract rfl rfl rfl) rfl rfl (kk_wl ?_))
    refine wl_u rfl (ow_y (yh_extract rfl rfl rfl) rfl rfl (kk_wl ?_))
    refine wl_u rfl (ow_y (yh_assign rfl rfl) rfl rfl (kk_wl ?_))
    refine wl_u rfl (ow_y (yh_assign rfl rfl) rfl rfl (kk_wl ?_))
    refine wl_nil ?_
    refine ex_seq ?_
    refine cw_seq ?_
    refine cw_freeze 0 rfl (fun w3 M3 hb3_ hz3 => ?_)
    replace h_u0 := Lay.rb h_u0 hb3_
    replace hz1 := Lay.rb hz1 hb3_
    replace hz2 := Lay.rb hz2 hb3_
    have hB3 := hB2.trans hb3_
    have mz3 := rd_max hz3
    refine cw_region ?_
    refine wl_u rfl (ow_y (yh_move rfl rfl) rfl rfl (kk_wl ?_))
    refine wl_u rfl (ow_y (yh_loadBA Tb (k := 0) rfl rfl rfl rfl rfl rfl) rfl rfl (kk_wl ?_))
    obtain ⟨x28, hx28, h⟩ := bd h
    refine wl_u rfl (ow_cN1 rfl hb17 rfl (fun w hw => c_spec_RegistryPut N _ _ _ hx28 w (Lay.at_ hz1 hw) (Lay.at_ hz2 hw)) rfl rfl (fun a28 c28 F28 => kk_wl ?_))
    refine wl_u rfl (ow_y (yh_move rfl rfl) rfl rfl (kk_wl ?_))
    refine wl_u rfl (ow_y (yh_extract rfl rfl rfl) rfl rfl (kk_wl ?_))
    refine wl_u rfl (ow_y (yh_extract rfl rfl rfl) rfl rfl (kk_wl ?_))
    refine wl_u rfl (ow_y (yh_assign rfl rfl) rfl rfl (kk_wl ?_))
    refine wl_u rfl (ow_y (yh_assign rfl rfl) rfl rfl (kk_wl ?_))
    refine wl_nil ?_
    refine ex_seq ?_
    refine cw_seq ?_
    refine cw_seq ?_
    refine cw_freeze 0 rfl (fun w4 M4 hb4_ hz4 => ?_)
    replace h_u0 := Lay.rb h_u0 hb4_
    replace hz1 := Lay.rb hz1 hb4_
    replace hz2 := Lay.rb hz2 hb4_
    replace hz3 := Lay.rb hz3 hb4_
    have hB4 := hB3.trans hb4_
    have mz4 := rd_max hz4
    refine cw_region ?_
    refine wl_u rfl (ow_y (yh_move rfl rfl) rfl rfl (kk_wl ?_))
    refine wl_u rfl (ow_y (yh_move rfl rfl) rfl rfl (kk_wl ?_))
    refine wl_u rfl (ow_y (yh_cmpB rfl rfl rfl rfl (by kernel_rfl)) rfl rfl (kk_wl ?_))
    refine wl_u rfl (ow_y (yh_move rfl rfl) rfl rfl (kk_wl ?_))
    refine wl_s rfl rfl (fun c2 => ?_) (fun c2 => ?_)
    · skip
      replace h := bt c2 h
      refine wl_n rfl rfl rfl rfl ?_
      refine wl_n rfl rfl rfl rfl ?_
      refine wl_n rfl rfl rfl rfl ?_
      refine wl_n rfl rfl rfl rfl ?_
      refine wl_u rfl (ow_y (yh_pickT rfl rfl rfl) rfl rfl (kk_wl ?_))
      refine wl_u rfl (ow_y (yh_move rfl rfl) rfl rfl (kk_wl ?_))
      refine wl_s rfl rfl (fun _ => ?_) nofun
      refine wl_n rfl rfl rfl rfl ?_
      refine wl_n rfl rfl rfl rfl ?_
      refine wl_u rfl (ow_y (yh_pickT rfl rfl rfl) rfl rfl (kk_wl ?_))
      refine wl_nil ?_
      refine ex_seq ?_
      refine cw_true rfl ?_
      refine cw_seq ?_
      refine cw_region ?_
      refine wl_u rfl (ow_y (yh_move rfl rfl) rfl rfl (kk_wl ?_))
      refine wl_u rfl (ow_y (yh_move rfl rfl) rfl rfl (kk_wl ?_))
      refine wl_u rfl (ow_y (yh_cmpB rfl rfl rfl rfl (by kernel_rfl)) rfl rfl (kk_wl ?_))
      refine wl_u rfl (ow_y (yh_move rfl rfl) rfl rfl (kk_wl ?_))
      refine wl_s rfl rfl (fun c3 => ?_) (fun c3 => ?_)
      · skip
        replace h := bt c3 h
        refine wl_g rfl rfl (ow_y (yh_move rfl rfl) rfl rfl (kk_wl ?_))
        refine wl_g rfl rfl (ow_y (yh_move rfl rfl) rfl rfl (kk_wl ?_))
        obtain ⟨x50, hx50, h⟩ := bd h
        refine wl_g rfl rfl (ow_cV rfl hb18 rfl (fun w hw => c_laws_sameFlows N _ _ _ hx50 w (Lay.at_ hz3 hw) (Lay.at_ hz4 hw)) rfl rfl (kk_wl ?_))
        refine wl_u rfl (ow_y (yh_pickT rfl rfl rfl) rfl rfl (kk_wl ?_))
        refine wl_u rfl (ow_y (yh_assign rfl rfl) rfl rfl (kk_wl ?_))
        refine wl_nil ?_
        refine ex_seq ?_
        refine cw_ret ?_
        refine ex_then_ret ?_
        obtain rfl := Option.some.inj h
        exact ex_r1 Tb rfl (.tmp rfl) (fun wq hq => ⟨_, rfl, (hB4.back hq).ext, rfl⟩)
      · skip
        replace h := bf c3 h
        refine wl_n rfl rfl rfl rfl ?_
        refine wl_n rfl rfl rfl rfl ?_
        refine wl_n rfl rfl rfl rfl ?_
        refine wl_u rfl (ow_y (yh_pickF rfl rfl rfl) rfl rfl (kk_wl ?_))
        refine wl_u rfl (ow_y (yh_assign rfl rfl) rfl rfl (kk_wl ?_))
        refine wl_nil ?_
        refine ex_seq ?_
        refine cw_ret ?_
        refine ex_then_ret ?_
        obtain rfl := Option.some.inj h
        exact ex_r1 Tb rfl (.tmp rfl) (fun wq hq => ⟨_, rfl, (hB4.back hq).ext, rfl⟩)
    · skip
      replace h := bf c2 h
      refine wl_g rfl rfl (ow_y (yh_move rfl rfl) rfl rfl (kk_wl ?_))
      refine wl_g rfl rfl (ow_y (yh_move rfl rfl) rfl rfl (kk_wl ?_))
      obtain ⟨x37, hx37, h⟩ := bd h
      refine wl_g rfl rfl (ow_cV rfl hb18 rfl (fun w hw => c_laws_sameFlows N _ _ _ hx37 w (Lay.at_ hz3 hw) (Lay.at_ hz4 hw)) rfl rfl (kk_wl ?_))
      refine wl_g rfl rfl (ow_y (yh_not rfl rfl) rfl rfl (kk_wl ?_))
      refine wl_u rfl (ow_y (yh_pickF rfl rfl rfl) rfl rfl (kk_wl ?_))
      refine wl_u rfl (ow_y (yh_move rfl rfl) rfl rfl (kk_wl ?_))
      refine wl_s rfl rfl (fun c4 => ?_) (fun c4 => ?_)
      · skip
        replace h := bt c4 h
        refine wl_n rfl rfl rfl rfl ?_
        refine wl_n rfl rfl rfl rfl ?_
        refine wl_u rfl (ow_y (yh_pickT rfl rfl rfl) rfl rfl (kk_wl ?_))
        refine wl_nil ?_
        refine ex_seq ?_
        refine cw_true rfl ?_
        refine cw_seq ?_
        refine cw_region ?_
        refine wl_u rfl (ow_y (yh_move rfl rfl) rfl rfl (kk_wl ?_))
        refine wl_u rfl (ow_y (yh_move rfl rfl) rfl rfl (kk_wl ?_))
        refine wl_u rfl (ow_y (yh_cmpB rfl rfl rfl rfl (by kernel_rfl)) rfl rfl (kk_wl ?_))
        refine wl_u rfl (ow_y (yh_move rfl rfl) rfl rfl (kk_wl ?_))
        refine wl_s rfl rfl (fun c5 => ?_) (fun c5 => ?_)
        · skip
          replace h := bt c5 h
          refine wl_g rfl rfl (ow_y (yh_move rfl rfl) rfl rfl (kk_wl ?_))
          refine wl_g rfl rfl (ow_y (yh_move rfl rfl) rfl rfl (kk_wl ?_))
          obtain ⟨x50, hx50, h⟩ := bd h
          refine wl_g rfl rfl (ow_cV rfl hb18 rfl (fun w hw => c_laws_sameFlows N _ _ _ hx50 w (Lay.at_ hz3 hw) (Lay.at_ hz4 hw)) rfl rfl (kk_wl ?_))
          refine wl_u rfl (ow_y (yh_pickT rfl rfl rfl) rfl rfl (kk_wl ?_))
          refine wl_u rfl (ow_y (yh_assign rfl rfl) rfl rfl (kk_wl ?_))
          refine wl_nil ?_
          refine ex_seq ?_
          refine cw_ret ?_
          refine ex_then_ret ?_
          obtain rfl := Option.some.inj h
          exact ex_r1 Tb rfl (.tmp rfl) (fun wq hq => ⟨_, rfl, (hB4.back hq).ext, rfl⟩)
        · skip
          replace h := bf c5 h
          refine wl_n rfl rfl rfl rfl ?_
          refine wl_n rfl rfl rfl rfl ?_
          refine wl_n rfl rfl rfl rfl ?_
          refine wl_u rfl (ow_y (yh_pickF rfl rfl rfl) rfl rfl (kk_wl ?_))
          refine wl_u rfl (ow_y (yh_assign rfl rfl) rfl rfl (kk_wl ?_))
          refine wl_nil ?_
          refine ex_seq ?_
          refine cw_ret ?_
          refine ex_then_ret ?_
          obtain rfl := Option.some.inj h
          exact ex_r1 Tb rfl (.tmp rfl) (fun wq hq => ⟨_, rfl, (hB4.back hq).ext, rfl⟩)
      · skip
        replace h := bf c4 h
        refine wl_g rfl rfl (ow_y (yh_move rfl rfl) rfl rfl (kk_wl ?_))
        refine wl_g rfl rfl (ow_y (yh_not rfl rfl) rfl rfl (kk_wl ?_))
        refine wl_u rfl (ow_y (yh_pickF rfl rfl rfl) rfl rfl (kk_wl ?_))
        refine wl_nil ?_
        refine ex_seq ?_
        refine cw_split rfl (fun c6 => ?_) (fun c6 => ?_)
        · skip
          replace h := bt c6 h
          refine cw_seq ?_
          refine cw_region ?_
          refine wl_u rfl (ow_y (yh_move rfl rfl) rfl rfl (kk_wl ?_))
          refine wl_u rfl (ow_y (yh_move rfl rfl) rfl rfl (kk_wl ?_))
          refine wl_u rfl (ow_y (yh_cmpB rfl rfl rfl rfl (by kernel_rfl)) rfl rfl (kk_wl ?_))
          refine wl_u rfl (ow_y (yh_move rfl rfl) rfl rfl (kk_wl ?_))
          refine wl_s rfl rfl (fun c7 => ?_) (fun c7 => ?_)
          · skip
            replace h := bt c7 h
            refine wl_g rfl rfl (ow_y (yh_move rfl rfl) rfl rfl (kk_wl ?_))
            refine wl_g rfl rfl (ow_y (yh_move rfl rfl) rfl rfl (kk_wl ?_))
            obtain ⟨x50, hx50, h⟩ := bd h
            refine wl_g rfl rfl (ow_cV rfl hb18 rfl (fun w hw => c_laws_sameFlows N _ _ _ hx50 w (Lay.at_ hz3 hw) (Lay.at_ hz4 hw)) rfl rfl (kk_wl ?_))
            refine wl_u rfl (ow_y (yh_pickT rfl rfl rfl) rfl rfl (kk_wl ?_))
            refine wl_u rfl (ow_y (yh_assign rfl rfl) rfl rfl (kk_wl ?_))
            refine wl_nil ?_
            refine ex_seq ?_
            refine cw_ret ?_
            refine ex_then_ret ?_
            obtain rfl := Option.some.inj h
            exact ex_r1 Tb rfl (.tmp rfl) (fun wq hq => ⟨_, rfl, (hB4.back hq).ext, rfl⟩)
          · skip
            replace h := bf c7 h
            refine wl_n rfl rfl rfl rfl ?_
            refine wl_n rfl rfl rfl rfl ?_
            refine wl_n rfl rfl rfl rfl ?_
            refine wl_u rfl (ow_y (yh_pickF rfl rfl rfl) rfl rfl (kk_wl ?_))
            refine wl_u rfl (ow_y (yh_assign rfl rfl) rfl rfl (kk_wl ?_))
            refine wl_nil ?_
            refine ex_seq ?_
            refine cw_ret ?_
            refine ex_then_ret ?_
            obtain rfl := Option.some.inj h
            exact ex_r1 Tb rfl (.tmp rfl) (fun wq hq => ⟨_, rfl, (hB4.back hq).ext, rfl⟩)
        · skip
          replace h := bf c6 h
          refine cw_skip ?_
          refine ex_seq ?_
          refine cw_seq ?_
          refine cw_region ?_
          refine wl_u rfl (ow_y (yh_move rfl rfl) rfl rfl (kk_wl ?_))
          refine wl_u rfl (ow_y (yh_move rfl rfl) rfl rfl (kk_wl ?_))
          refine wl_u rfl (ow_y (yh_move rfl rfl) rfl rfl (kk_wl ?_))
          refine wl_u rfl (ow_y (yh_lenS Tb rfl rfl rfl rfl) rfl rfl (kk_wl ?_))
          refine wl_u rfl (ow_y (yh_arI rfl rfl rfl rfl (by omega)) rfl rfl (kk_wl ?_))
          obtain ⟨y58, zy58, h⟩ := bd h
          obtain ⟨iy58, hy58⟩ := geti_some zy58
          obtain ⟨b58, o58, ha58⟩ := sl_addr hz3 hy58
          subst ha58
          obtain ⟨a58, e58, hc58, hf58⟩ := get_flow hz3 hy58
          have mx58 := rd_max hf58
          refine wl_u rfl (ow_y (yh_idx Tb (k := (((x22.1.length : Nat) : Int) - 1).toNat) rfl rfl rfl iy58 (get_lt hy58) rfl rfl) rfl rfl (kk_wl ?_))
          refine wl_u rfl (ow_y (yh_field Tb rfl rfl rfl) rfl rfl (kk_wl ?_))
          refine wl_u rfl (ow_y (yh_loadAF Tb (j := 0) rfl rfl rfl hc58 rfl) rfl rfl (kk_wl ?_))
          obtain ⟨x61, hx61, h⟩ := bd h
          refine wl_u rfl (ow_cN1 rfl hb24 rfl (fun w hw => c_impl_RegistryFind N _ _ _ hx61 w (Lay.at_ hz3 hw)) rfl rfl (fun a61 c61 F61 => kk_wl ?_))
          refine wl_u rfl (ow_y (yh_move rfl rfl) rfl rfl (kk_wl ?_))
          refine wl_u rfl (ow_y (yh_extract rfl rfl rfl) rfl rfl (kk_wl ?_))
          refine wl_u rfl (ow_y (yh_extract rfl rfl rfl) rfl rfl (kk_wl ?_))
          refine wl_u rfl (ow_allocA Tb rfl rfl rfl rfl (fun g9 => kk_wl ?_))
          refine wl_u rfl (ow_storeA Tb (k := 0) rfl rfl rfl rfl rfl rfl rfl rfl rfl (kk_wl ?_))
          refine wl_u rfl (ow_y (yh_assign rfl rfl) rfl rfl (kk_wl ?_))
          refine wl_nil ?_
          refine ex_seq ?_
          refine cw_seq ?_
          refine cw_freeze 1 rfl (fun w5 M5 hb5_ hz5 => ?_)
          replace h_u0 := Lay.rb h_u0 hb5_
          replace hz1 := Lay.rb hz1 hb5_
          replace hz2 := Lay.rb hz2 hb5_
          replace hz3 := Lay.rb hz3 hb5_
          replace hz4 := Lay.rb hz4 hb5_
          replace hf58 := Lay.rb hf58 hb5_
          replace hc58 := CellN.rb hc58 (by simp) hb5_
          have hB5 := hB4.trans hb5_
          have mz5 := rd_max hz5
          refine cw_region ?_
          refine wl_u rfl (ow_y (yh_move rfl rfl) rfl rfl (kk_wl ?_))
          refine wl_u rfl (ow_y (yh_move rfl rfl) rfl rfl (kk_wl ?_))
          refine wl_s rfl rfl (fun c8 => ?_) (fun c8 => ?_)
          · skip
            replace h := bt c8 h
            refine wl_g rfl rfl (ow_y (yh_loadBA Tb (k := 0) rfl rfl rfl rfl rfl rfl) rfl rfl (kk_wl ?_))
            refine wl_g rfl rfl (ow_y (yh_loadBA Tb (k := 1) rfl rfl rfl rfl rfl rfl) rfl rfl (kk_wl ?_))
            obtain ⟨x68, hx68, h⟩ := bd h
            refine wl_g rfl rfl (ow_cV rfl hb20 rfl (fun w hw => c_impl_FlowsSame N _ _ _ hx68 w (Lay.at_ hz5 hw) (Lay.at_ hz2 hw)) rfl rfl (kk_wl ?_))
            refine wl_u rfl (ow_y (yh_pickT rfl rfl rfl) rfl rfl (kk_wl ?_))
            refine wl_u rfl (ow_y (yh_assign rfl rfl) rfl rfl (kk_wl ?_))
            refine wl_nil ?_
            refine ex_seq ?_
            refine cw_ret ?_
            obtain rfl := Option.some.inj h
            exact ex_r1 Tb rfl (.tmp rfl) (fun wq hq => ⟨_, rfl, (hB5.back hq).ext, rfl⟩)
          · skip
            replace h := bf c8 h
            refine wl_n rfl rfl rfl rfl ?_
            refine wl_n rfl rfl rfl rfl ?_
            refine wl_n rfl rfl rfl rfl ?_
            refine wl_u rfl (ow_y (yh_pickF rfl rfl rfl) rfl rfl (kk_wl ?_))
            refine wl_u rfl (ow_y (yh_assign rfl rfl) rfl rfl (kk_wl ?_))
            refine wl_nil ?_
            refine ex_seq ?_
            refine cw_ret ?_
            obtain rfl := Option.some.inj h
            exact ex_r1 Tb rfl (.tmp rfl) (fun wq hq => ⟨_, rfl, (hB5.back hq).ext, rfl⟩)

end Go.Proofs.Ytlcckcifnpjbpaa
