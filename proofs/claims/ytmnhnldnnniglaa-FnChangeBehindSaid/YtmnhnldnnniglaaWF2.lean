/- Mirrors and contracts, printed by a program: what each function computes as a plain term, and that it does. -/
import Derived.Test.YtmnhnldnnniglaaR
import Derived.Test.YtmnhnldnnniglaaK
import Derived.Test.YtmnhnldnnniglaaM
import Derived.Test.YtmnhnldnnniglaaWF0
import Derived.Test.YtmnhnldnnniglaaWF1
set_option linter.all false
set_option maxRecDepth 100000
namespace Go.Proofs.Ytmnhnldnnniglaa
open Go.RowKit

def m_laws_sameSteps_L8 (N : Nat) (a : List Step) (b : List Step) : Nat → Nat → Option (Ex (Nat) (Bool))
  | 0, _ => none
  | n + 1, s5 => (bif ltb ((s5 : Nat) : Int) ((a.length : Nat) : Int) then (a[s5]?).bind fun y19 => (b[s5]?).bind fun y23 => (m_laws_sameStep N y19 y23).bind fun x25 => (bif !x25 then some (Ex.ret false)
 else m_laws_sameSteps_L8 N a b n (s5 + 1))
 else some (Ex.brk (s5)))

def m_laws_sameSteps (N : Nat) (a : List Step) (b : List Step) : Option (Bool) := (bif !(eqb ((a.length : Nat) : Int) ((b.length : Nat) : Int)) then some false
 else (m_laws_sameSteps_L8 N a b N 0).bind fun e8 => e8.go (fun r => r) fun b8 => some true)

set_option maxHeartbeats 4000000 in
theorem c_laws_sameSteps (N : Nat) (a : List Step) (b : List Step) (res : Bool) (h : m_laws_sameSteps N a b = some res) (w : World) {a_a a_b : Option Addr} {c_a c_b : Nat} (h_a : stepsL.rd w [] [.slice a_a a.length c_a] a) (h_b : stepsL.rd w [] [.slice a_b b.length c_b] b) : Ret Try.prog 41 [.slice a_a a.length c_a, .slice a_b b.length c_b] w [] fun v w' => v = .bool res := by
  have mh_a := rd_max h_a
  have mh_b := rd_max h_b
  unfold m_laws_sameSteps at h
  refine ret_enter Try.func41 rfl Try.ntmps41 rfl (Hp.refl w _) ?_
  refine cw_seq ?_
  refine cw_region ?_
  refine wl_u rfl (ow_y (yh_assign rfl rfl) rfl rfl (kk_wl ?_))
  refine wl_nil ?_
  refine ex_seq ?_
  refine cw_seq ?_
  refine cw_seq ?_
  refine cw_region ?_
  refine wl_u rfl (ow_y (yh_move rfl rfl) rfl rfl (kk_wl ?_))
  refine wl_u rfl (ow_y (yh_lenS Tb rfl rfl rfl rfl) rfl rfl (kk_wl ?_))
  refine wl_u rfl (ow_y (yh_move rfl rfl) rfl rfl (kk_wl ?_))
  refine wl_u rfl (ow_y (yh_lenS Tb rfl rfl rfl rfl) rfl rfl (kk_wl ?_))
  refine wl_u rfl (ow_y (yh_cmpI rfl rfl rfl rfl) rfl rfl (kk_wl ?_))
  refine wl_nil ?_
  refine ex_seq ?_
  refine cw_split rfl (fun c1 => ?_) (fun c1 => ?_)
  · skip
    replace h := bt c1 h
    have q1 := eqb_false.1 (nt c1)
    refine cw_seq ?_
    refine cw_region ?_
    refine wl_u rfl (ow_y (yh_assign rfl rfl) rfl rfl (kk_wl ?_))
    refine wl_nil ?_
    refine ex_seq ?_
    refine cw_ret ?_
    refine ex_then_ret ?_
    obtain rfl := Option.some.inj h
    exact ex_r1 Tb rfl (.tmp rfl) (fun wq hq => ⟨_, rfl, hq.ext, rfl⟩)
  · skip
    replace h := bf c1 h
    have q2 := eqb_true.1 (nf c1)
    refine cw_skip ?_
    refine ex_seq ?_
    refine cw_seq ?_
    refine cw_seq ?_
    refine cw_region ?_
    refine wl_u rfl (ow_y (yh_assign rfl rfl) rfl rfl (kk_wl ?_))
    refine wl_nil ?_
    refine ex_seq ?_
    refine cw_block ?_
    obtain ⟨e8, he8, hk8⟩ := bd h
    clear h
    refine cw_loopG (σ := Nat × Nat) (fun s => m_laws_sameSteps_L8 N a b s.1 s.2 = some e8) (fun s => [(0, .slice a_a a.length c_a), (1, .slice a_b b.length c_b), (5, .int .i64 ((s.2 : Nat) : Int))]) (fun s => []) (fun s => s.1) (N, 0) [] he8 ⟨rfl, rfl, rfl, trivial⟩ rfl (fun KL s he8 hn8 => ?_)
    obtain ⟨n8, s5⟩ := s
    simp only at he8 hn8 ⊢
    rcases n8 with _ | n8
    · exact nosome he8
    have h := he8; rw [m_laws_sameSteps_L8] at h
    refine cw_seq ?_
    refine cw_seq ?_
    refine cw_region ?_
    refine wl_u rfl (ow_y (yh_move rfl rfl) rfl rfl (kk_wl ?_))
    refine wl_u rfl (ow_y (yh_move rfl rfl) rfl rfl (kk_wl ?_))
    refine wl_u rfl (ow_y (yh_lenS Tb rfl rfl rfl rfl) rfl rfl (kk_wl ?_))
    refine wl_u rfl (ow_y (yh_cmpI rfl rfl rfl rfl) rfl rfl (kk_wl ?_))
    refine wl_nil ?_
    refine ex_seq ?_
    refine cw_split rfl (fun c2 => ?_) (fun c2 => ?_)
    · skip
      replace h := bt c2 h
      have q3 := ltb_true.1 c2
      refine cw_skip ?_
      refine ex_seq ?_
      refine cw_seq ?_
      refine cw_block ?_
      refine cw_seq ?_
      refine cw_dr [0, 1, 2, 3, 4, 5, 6, 7, 9] [] [] (by kernel_rfl) ?_
      refine wd_take (i := 0) [] rfl rfl rfl rfl rfl (by kernel_rfl) (by kernel_rfl) (fun _ _ _ _ h => h) (yh_move rfl rfl) ?_
      refine wd_take (i := 1) [] rfl rfl rfl rfl rfl (by kernel_rfl) (by kernel_rfl) (fun _ _ _ _ h => h) (yh_move rfl rfl) ?_
      obtain ⟨y19, hy19, h⟩ := bd h
      obtain ⟨b19, o19, ha19⟩ := sl_addr h_a hy19
      subst ha19
      obtain ⟨a19, e19, hc19, hf19⟩ := get_step h_a hy19
      have mx19 := rd_max hf19
      refine wd_take (i := 2) [] rfl rfl rfl rfl rfl (by kernel_rfl) (by kernel_rfl) (fun _ _ _ _ h => h) (yh_idx Tb (k := s5) rfl rfl rfl rfl (get_lt hy19) rfl rfl) ?_
      refine wd_take (i := 3) [] rfl rfl rfl rfl rfl (by kernel_rfl) (by kernel_rfl) (fun _ _ _ _ h => h) (yh_loadAN Tb rfl rfl rfl rfl hc19 rfl) ?_
      refine wd_take (i := 4) [] rfl rfl rfl rfl rfl (by kernel_rfl) (by kernel_rfl) (fun _ _ _ _ h => h) (yh_move rfl rfl) ?_
      refine wd_take (i := 5) [] rfl rfl rfl rfl rfl (by kernel_rfl) (by kernel_rfl) (fun _ _ _ _ h => h) (yh_move rfl rfl) ?_
      obtain ⟨y23, hy23, h⟩ := bd h
      obtain ⟨b23, o23, ha23⟩ := sl_addr h_b hy23
      subst ha23
      obtain ⟨a23, e23, hc23, hf23⟩ := get_step h_b hy23
      have mx23 := rd_max hf23
      refine wd_take (i := 6) [] rfl rfl rfl rfl rfl (by kernel_rfl) (by kernel_rfl) (fun _ _ _ _ h => h) (yh_idx Tb (k := s5) rfl rfl rfl rfl (get_lt hy23) rfl rfl) ?_
      refine wd_take (i := 7) [] rfl rfl rfl rfl rfl (by kernel_rfl) (by kernel_rfl) (fun _ _ _ _ h => h) (yh_loadAN Tb rfl rfl rfl rfl hc23 rfl) ?_
      obtain ⟨x25, hx25, h⟩ := bd h
      refine wd_one 8 rfl rfl (by kernel_rfl) (ow_cV rfl hb81 rfl (fun w hw => c_laws_sameStep N _ _ _ hx25 w (Lay.at_ hf19 hw) (Lay.at_ hf23 hw)) rfl rfl (kk_wd [] (by kernel_rfl) ?_))
      refine wd_take (i := 9) [] rfl rfl rfl rfl rfl (by kernel_rfl) (by kernel_rfl) (fun _ _ _ _ h => h) (yh_not rfl rfl) ?_
      refine wd_done (by kernel_rfl) ?_
      refine ex_seq ?_
      refine cw_split rfl (fun c3 => ?_) (fun c3 => ?_)
      · skip
        replace h := bt c3 h
        refine cw_seq ?_
        refine cw_region ?_
        refine wl_u rfl (ow_y (yh_assign rfl rfl) rfl rfl (kk_wl ?_))
        refine wl_nil ?_
        refine ex_seq ?_
        refine cw_ret ?_
        refine ex_block_ret ?_
        refine ex_then_ret ?_
        refine ex_then_ret ?_
        refine ex_block_ret ?_
        refine ex_then_ret ?_
        obtain rfl := Option.some.inj h
        obtain rfl := go_ret hk8
        exact ex_r1 Tb rfl (.tmp rfl) (fun wq hq => ⟨_, rfl, hq.ext, rfl⟩)
      · skip
        replace h := bf c3 h
        refine cw_skip ?_
        refine ex_block_normal ?_
        refine ex_seq ?_
        refine cw_region ?_
        refine wl_u rfl (ow_y (yh_move rfl rfl) rfl rfl (kk_wl ?_))
        refine wl_u rfl (ow_y (yh_arI rfl rfl rfl rfl (by omega)) rfl rfl (kk_wl ?_))
        refine wl_u rfl (ow_y (yh_assign rfl rfl) rfl rfl (kk_wl ?_))
        refine wl_nil ?_
        exact ex_next [] (hn8 (n8, s5 + 1) (Nat.lt_succ_self _) h) ⟨rfl, rfl, rfl, trivial⟩ (by kernel_rfl)
    · skip
      replace h := bf c2 h
      have q4 := ltb_false.1 c2
      refine cw_exit ?_
      refine ex_then_exit ?_
      refine ex_then_exit ?_
      obtain rfl := Option.some.inj h
      have h := go_brk hk8
      refine ex_block_exit ?_
      refine ex_seq ?_
      refine cw_seq ?_
      refine cw_region ?_
      refine wl_u rfl (ow_y (yh_assign rfl rfl) rfl rfl (kk_wl ?_))
      refine wl_nil ?_
      refine ex_seq ?_
      refine cw_ret ?_
      obtain rfl := Option.some.inj h
      exact ex_r1 Tb rfl (.tmp rfl) (fun wq hq => ⟨_, rfl, hq.ext, rfl⟩)

def m_laws_sameFlow (N : Nat) (a : Flow) (b : Flow) : Option (Bool) := (bif eqb a.ver b.ver then (m_laws_sameSteps N a.steps b.steps).bind fun x15 => some x15
 else some false)

set_option maxHeartbeats 4000000 in
theorem c_laws_sameFlow (N : Nat) (a : Flow) (b : Flow) (res : Bool) (h : m_laws_sameFlow N a b = some res) (w : World) {a_a_steps a_b_steps : Option Addr} {c_a_steps c_b_steps : Nat} (h_a_steps : stepsL.rd w [] [.slice a_a_steps a.steps.length c_a_steps] a.steps) (h_b_steps : stepsL.rd w [] [.slice a_b_steps b.steps.length c_b_steps] b.steps) : Ret Try.prog 10 [.agg #[.int .i64 a.ver, .slice a_a_steps a.steps.length c_a_steps], .agg #[.int .i64 b.ver, .slice a_b_steps b.steps.length c_b_steps]] w [] fun v w' => v = .bool res := by
  have mh_a_steps := rd_max h_a_steps
  have mh_b_steps := rd_max h_b_steps
  unfold m_laws_sameFlow at h
  refine ret_enter Try.func10 rfl Try.ntmps10 rfl (Hp.refl w _) ?_
  refine cw_seq ?_
  refine cw_region ?_
  refine wl_u rfl (ow_boxA rfl rfl rfl rfl (fun g2 => kk_wl ?_))
  refine wl_u rfl (ow_boxA rfl rfl rfl rfl (fun g3 => kk_wl ?_))
  refine wl_u rfl (ow_y (yh_assign rfl rfl) rfl rfl (kk_wl ?_))
  refine wl_nil ?_
  refine ex_seq ?_
  refine cw_seq ?_
  refine cw_region ?_
  refine wl_u rfl (ow_y (yh_field Tb rfl rfl rfl) rfl rfl (kk_wl ?_))
  refine wl_u rfl (ow_y (yh_loadB Tb (k := 1) rfl rfl rfl rfl rfl) rfl rfl (kk_wl ?_))
  refine wl_u rfl (ow_y (yh_field Tb rfl rfl rfl) rfl rfl (kk_wl ?_))
  refine wl_u rfl (ow_y (yh_loadB Tb (k := 0) rfl rfl rfl rfl rfl) rfl rfl (kk_wl ?_))
  refine wl_u rfl (ow_y (yh_cmpI rfl rfl rfl rfl) rfl rfl (kk_wl ?_))
  refine wl_u rfl (ow_y (yh_move rfl rfl) rfl rfl (kk_wl ?_))
  refine wl_s rfl rfl (fun c1 => ?_) (fun c1 => ?_)
  · skip
    replace h := bt c1 h
    have q1 := eqb_true.1 c1
    refine wl_g rfl rfl (ow_y (yh_field Tb rfl rfl rfl) rfl rfl (kk_wl ?_))
    refine wl_g rfl rfl (ow_y (yh_loadB Tb (k := 1) rfl rfl rfl rfl rfl) rfl rfl (kk_wl ?_))
    refine wl_g rfl rfl (ow_y (yh_field Tb rfl rfl rfl) rfl rfl (kk_wl ?_))
    refine wl_g rfl rfl (ow_y (yh_loadB Tb (k := 0) rfl rfl rfl rfl rfl) rfl rfl (kk_wl ?_))
    obtain ⟨x15, hx15, h⟩ := bd h
    refine wl_g rfl rfl (ow_cV rfl hb41 rfl (fun w hw => c_laws_sameSteps N _ _ _ hx15 w (Lay.at_ h_a_steps hw) (Lay.at_ h_b_steps hw)) rfl rfl (kk_wl ?_))
    refine wl_u rfl (ow_y (yh_pickT rfl rfl rfl) rfl rfl (kk_wl ?_))
    refine wl_u rfl (ow_y (yh_assign rfl rfl) rfl rfl (kk_wl ?_))
    refine wl_nil ?_
    refine ex_seq ?_
    refine cw_ret ?_
    obtain rfl := Option.some.inj h
    exact ex_r1 Tb rfl (.tmp rfl) (fun wq hq => ⟨_, rfl, hq.ext, rfl⟩)
  · skip
    replace h := bf c1 h
    have q2 := eqb_false.1 c1
    refine wl_n rfl rfl rfl rfl ?_
    refine wl_n rfl rfl rfl rfl ?_
    refine wl_n rfl rfl rfl rfl ?_
    refine wl_n rfl rfl rfl rfl ?_
    refine wl_n rfl rfl rfl rfl ?_
    refine wl_u rfl (ow_y (yh_pickF rfl rfl rfl) rfl rfl (kk_wl ?_))
    refine wl_u rfl (ow_y (yh_assign rfl rfl) rfl rfl (kk_wl ?_))
    refine wl_nil ?_
    refine ex_seq ?_
    refine cw_ret ?_
    obtain rfl := Option.some.inj h
    exact ex_r1 Tb rfl (.tmp rfl) (fun wq hq => ⟨_, rfl, hq.ext, rfl⟩)

def m_impl_FlowFind (N : Nat) (f : Flow) (name : Str) : Option (Step × Bool) := (m_impl_FlowValid N f).bind fun x7 => (bif !x7 then some ((Step.mk (⟨#[]⟩ : Str) [] false), false)
 else (m_impl_Flow_at N f name).bind fun x12 => (bif ltb x12 0 then some ((Step.mk (⟨#[]⟩ : Str) [] false), false)
 else (m_impl_Flow_at N f name).bind fun x20 => (geti f.steps x20).bind fun y21 => (m_impl_Step_clone N y21).bind fun x23 => some (x23, true)))

set_option maxHeartbeats 4000000 in
theorem c_impl_FlowFind (N : Nat) (f : Flow) (name : Str) (res : Step × Bool) (h : m_impl_FlowFind N f name = some res) (w : World) {a_f_steps : Option Addr} {c_f_steps : Nat} (h_f_steps : stepsL.rd w [] [.slice a_f_steps f.steps.length c_f_steps] f.steps) : Ret Try.prog 11 [.agg #[.int .i64 f.ver, .slice a_f_steps f.steps.length c_f_steps], .string name] w [] fun v w' => ∃ a1 c1 F1, v = .tuple #[.agg #[.string res.1.name, .slice a1 res.1.after.length c1, .bool res.1.undo], .bool res.2] ∧ NewC w w' [owC strsL F1 [.slice a1 res.1.after.length c1] res.1.after] := by
  have mh_f_steps := rd_max h_f_steps
  unfold m_impl_FlowFind at h
  refine ret_enter Try.func11 rfl Try.ntmps11 rfl (Hp.refl w _) ?_
  refine cw_seq ?_
  refine cw_region ?_
  refine wl_u rfl (ow_boxA rfl rfl rfl rfl (fun g2 => kk_wl ?_))
  refine wl_u rfl (ow_allocA Tb rfl rfl rfl rfl (fun g4 => kk_wl ?_))
  refine wl_u rfl (ow_y (yh_assign rfl rfl) rfl rfl (kk_wl ?_))
  refine wl_nil ?_
  refine ex_seq ?_
  refine cw_seq ?_
  refine cw_seq ?_
  refine cw_region ?_
  refine wl_u rfl (ow_y (yh_loadBA Tb (k := 1) rfl rfl rfl rfl rfl rfl) rfl rfl (kk_wl ?_))
  obtain ⟨x7, hx7, h⟩ := bd h
  refine wl_u rfl (ow_cV rfl hb28 rfl (fun w hw => c_impl_FlowValid N _ _ hx7 w (Lay.at_ h_f_steps hw)) rfl rfl (kk_wl ?_))
  refine wl_u rfl (ow_y (yh_not rfl rfl) rfl rfl (kk_wl ?_))
  refine wl_u rfl (ow_y (yh_move rfl rfl) rfl rfl (kk_wl ?_))
  refine wl_s rfl rfl (fun c1 => ?_) (fun c1 => ?_)
  · skip
    replace h := bt c1 h
    refine wl_n rfl rfl rfl rfl ?_
    refine wl_n rfl rfl rfl rfl ?_
    refine wl_n rfl rfl rfl rfl ?_
    refine wl_n rfl rfl rfl rfl ?_
    refine wl_u rfl (ow_y (yh_pickT rfl rfl rfl) rfl rfl (kk_wl ?_))
    refine wl_nil ?_
    refine ex_seq ?_
    refine cw_true rfl ?_
    refine cw_seq ?_
    refine cw_region ?_
    refine wl_u rfl (ow_y (yh_build [.string (⟨#[]⟩ : Str), .slice none 0 0, .bool false] rfl rfl (by kernel_rfl)) rfl rfl (kk_wl ?_))
    refine wl_u rfl (ow_storeA Tb (k := 0) rfl rfl rfl rfl rfl rfl rfl rfl rfl (kk_wl ?_))
    refine wl_u rfl (ow_y (yh_assign rfl rfl) rfl rfl (kk_wl ?_))
    refine wl_nil ?_
    refine ex_seq ?_
    refine cw_ret ?_
    refine ex_then_ret ?_
    refine ex_nilS strsL rfl ?_
    obtain rfl := Option.some.inj h
    exact ex_r2 Tb rfl (.cellA 1 rfl rfl rfl rfl rfl) (.tmp rfl) (fun wq hq => ⟨_, rfl, hq.ext, ⟨none, 0, [], rfl, NewC.sel [0] hq rfl⟩⟩)
  · skip
    replace h := bf c1 h
    refine wl_g rfl rfl (ow_y (yh_loadBA Tb (k := 1) rfl rfl rfl rfl rfl rfl) rfl rfl (kk_wl ?_))
    refine wl_g rfl rfl (ow_y (yh_move rfl rfl) rfl rfl (kk_wl ?_))
    obtain ⟨x12, hx12, h⟩ := bd h
    refine wl_g rfl rfl (ow_cV rfl hb30 rfl (fun w hw => c_impl_Flow_at N _ _ _ hx12 w (Lay.at_ h_f_steps hw)) rfl rfl (kk_wl ?_))
    refine wl_g rfl rfl (ow_y (yh_cmpI rfl rfl rfl rfl) rfl rfl (kk_wl ?_))
    refine wl_u rfl (ow_y (yh_pickF rfl rfl rfl) rfl rfl (kk_wl ?_))
    refine wl_nil ?_
    refine ex_seq ?_
    refine cw_split rfl (fun c2 => ?_) (fun c2 => ?_)
    · skip
      replace h := bt c2 h
      have q1 := ltb_true.1 c2
      refine cw_seq ?_
      refine cw_region ?_
      refine wl_u rfl (ow_y (yh_build [.string (⟨#[]⟩ : Str), .slice none 0 0, .bool false] rfl rfl (by kernel_rfl)) rfl rfl (kk_wl ?_))
      refine wl_u rfl (ow_storeA Tb (k := 0) rfl rfl rfl rfl rfl rfl rfl rfl rfl (kk_wl ?_))
      refine wl_u rfl (ow_y (yh_assign rfl rfl) rfl rfl (kk_wl ?_))
      refine wl_nil ?_
      refine ex_seq ?_
      refine cw_ret ?_
      refine ex_then_ret ?_
      refine ex_nilS strsL rfl ?_
      obtain rfl := Option.some.inj h
      exact ex_r2 Tb rfl (.cellA 1 rfl rfl rfl rfl rfl) (.tmp rfl) (fun wq hq => ⟨_, rfl, hq.ext, ⟨none, 0, [], rfl, NewC.sel [0] hq rfl⟩⟩)
    · skip
      replace h := bf c2 h
      have q2 := ltb_false.1 c2
      refine cw_skip ?_
      refine ex_seq ?_
      refine cw_seq ?_
      refine cw_dr [0, 1, 2, 3, 5, 6] [8, 9] [blkC g4 28 [.string (⟨#[]⟩ : Str), .slice none 0 0, .bool false], blkC g2 25 [.int .i64 f.ver, .slice a_f_steps f.steps.length c_f_steps]] (by kernel_rfl) ?_
      refine wd_take (i := 0) [0, 1] rfl rfl rfl rfl rfl (by kernel_rfl) (by kernel_rfl) (fun _ _ _ _ h => h) (yh_field Tb rfl rfl rfl) ?_
      refine wd_take (i := 1) [0, 1] rfl rfl rfl rfl rfl (by kernel_rfl) (by kernel_rfl) (fun _ _ _ _ h => h) (yh_loadB Tb (k := 1) rfl rfl rfl rfl rfl) ?_
      refine wd_take (i := 2) [0, 1] rfl rfl rfl rfl rfl (by kernel_rfl) (by kernel_rfl) (fun _ _ _ _ h => h) (yh_loadBA Tb (k := 1) rfl rfl rfl rfl rfl rfl) ?_
      refine wd_take (i := 3) [0, 1] rfl rfl rfl rfl rfl (by kernel_rfl) (by kernel_rfl) (fun _ _ _ _ h => h) (yh_move rfl rfl) ?_
      obtain ⟨x20, hx20, h⟩ := bd h
      refine wd_one 4 rfl rfl (by kernel_rfl) (ow_cV rfl hb30 rfl (fun w hw => c_impl_Flow_at N _ _ _ hx20 w (Lay.at_ h_f_steps hw)) rfl rfl (kk_wd [0, 1] (by kernel_rfl) ?_))
      obtain ⟨y21, zy21, h⟩ := bd h
      obtain ⟨iy21, hy21⟩ := geti_some zy21
      obtain ⟨b21, o21, ha21⟩ := sl_addr h_f_steps hy21
      subst ha21
      obtain ⟨a21, e21, hc21, hf21⟩ := get_step h_f_steps hy21
      have mx21 := rd_max hf21
      refine wd_take (i := 5) [0, 1] rfl rfl rfl rfl rfl (by kernel_rfl) (by kernel_rfl) (fun _ _ _ _ h => h) (yh_idx Tb (k := x20.toNat) rfl rfl rfl iy21 (get_lt hy21) rfl rfl) ?_
      refine wd_take (i := 6) [0, 1] rfl rfl rfl rfl rfl (by kernel_rfl) (by kernel_rfl) (fun _ _ _ _ h => h) (yh_loadAN Tb rfl rfl rfl rfl hc21 rfl) ?_
      obtain ⟨x23, hx23, h⟩ := bd h
      refine wd_one 7 rfl rfl (by kernel_rfl) (ow_cN1 rfl hb32 rfl (fun w hw => c_impl_Step_clone N _ _ hx23 w (Lay.at_ hf21 hw)) rfl rfl (fun a23 c23 F23 => kk_wd [1, 2] (by kernel_rfl) ?_))
      refine wd_one 8 rfl rfl (by kernel_rfl) (ow_storeA Tb (k := 1) rfl rfl rfl rfl rfl rfl rfl rfl rfl (kk_wdT rfl ?_))
      refine wd_one 9 rfl rfl (by kernel_rfl) (ow_y (yh_assign rfl rfl) rfl rfl (kk_wdT rfl ?_))
      refine wd_done (by kernel_rfl) ?_
      refine ex_seq ?_
      refine cw_ret ?_
      obtain rfl := Option.some.inj h
      exact ex_r2 Tb rfl (.cellA 0 rfl rfl rfl rfl rfl) (.tmp rfl) (fun wq hq => ⟨_, rfl, hq.ext, ⟨a23, c23, F23, rfl, NewC.sel [1] hq rfl⟩⟩)

def m_laws_placeOf_L4 (N : Nat) (list_ : List Str) (s_ : Str) : Nat → Nat → Option (Ex (Nat) (Int))
  | 0, _ => none
  | n + 1, s5 => (bif ltb ((s5 : Nat) : Int) ((list_.length : Nat) : Int) then (list_[s5]?).bind fun y14 => (bif seq y14 s_ then some (Ex.ret ((s5 : Nat) : Int))
 else m_laws_placeOf_L4 N list_ s_ n (s5 + 1))
 else some (Ex.brk (s5)))

def m_laws_placeOf (N : Nat) (list_ : List Str) (s_ : Str) : Option (Int) := (m_laws_placeOf_L4 N list_ s_ N 0).bind fun e4 => e4.go (fun r => r) fun b4 => some (-1)

set_option maxHeartbeats 4000000 in
theorem c_laws_placeOf (N : Nat) (list_ : List Str) (s_ : Str) (res : Int) (h : m_laws_placeOf N list_ s_ = some res) (w : World) {a_list_ : Option Addr} {c_list_ : Nat} (h_list_ : strsL.rd w [] [.slice a_list_ list_.length c_list_] list_) : Ret Try.prog 12 [.slice a_list_ list_.length c_list_, .string s_] w [] fun v w' => v = .int .i64 res := by
  have mh_list_ := rd_max h_list_
  unfold m_laws_placeOf at h
  refine ret_enter Try.func12 rfl Try.ntmps12 rfl (Hp.refl w _) ?_
  refine cw_seq ?_
  refine cw_region ?_
  refine wl_u rfl (ow_y (yh_assign rfl rfl) rfl rfl (kk_wl ?_))
  refine wl_nil ?_
  refine ex_seq ?_
  refine cw_seq ?_
  refine cw_seq ?_
  refine cw_region ?_
  refine wl_u rfl (ow_y (yh_assign rfl rfl) rfl rfl (kk_wl ?_))
  refine wl_nil ?_
  refine ex_seq ?_
  refine cw_block ?_
  obtain ⟨e4, he4, hk4⟩ := bd h
  clear h
  refine cw_loopG (σ := Nat × Nat) (fun s => m_laws_placeOf_L4 N list_ s_ s.1 s.2 = some e4) (fun s => [(0, .slice a_list_ list_.length c_list_), (1, .string s_), (5, .int .i64 ((s.2 : Nat) : Int))]) (fun s => []) (fun s => s.1) (N, 0) [] he4 ⟨rfl, rfl, rfl, trivial⟩ rfl (fun KL s he4 hn4 => ?_)
  obtain ⟨n4, s5⟩ := s
  simp only at he4 hn4 ⊢
  rcases n4 with _ | n4
  · exact nosome he4
  have h := he4; rw [m_laws_placeOf_L4] at h
  refine cw_seq ?_
  refine cw_seq ?_
  refine cw_region ?_
  refine wl_u rfl (ow_y (yh_move rfl rfl) rfl rfl (kk_wl ?_))
  refine wl_u rfl (ow_y (yh_move rfl rfl) rfl rfl (kk_wl ?_))
  refine wl_u rfl (ow_y (yh_lenS Tb rfl rfl rfl rfl) rfl rfl (kk_wl ?_))
  refine wl_u rfl (ow_y (yh_cmpI rfl rfl rfl rfl) rfl rfl (kk_wl ?_))
  refine wl_nil ?_
  refine ex_seq ?_
  refine cw_split rfl (fun c1 => ?_) (fun c1 => ?_)
  · skip
    replace h := bt c1 h
    have q1 := ltb_true.1 c1
    refine cw_skip ?_
    refine ex_seq ?_
    refine cw_seq ?_
    refine cw_block ?_
    refine cw_seq ?_
    refine cw_region ?_
    refine wl_u rfl (ow_y (yh_move rfl rfl) rfl rfl (kk_wl ?_))
    refine wl_u rfl (ow_y (yh_move rfl rfl) rfl rfl (kk_wl ?_))
    obtain ⟨y14, hy14, h⟩ := bd h
    obtain ⟨b14, o14, ha14⟩ := sl_addr h_list_ hy14
    subst ha14
    have hc14 := get_str h_list_ hy14
    refine wl_u rfl (ow_y (yh_idx Tb (k := s5) rfl rfl rfl rfl (get_lt hy14) rfl rfl) rfl rfl (kk_wl ?_))
    refine wl_u rfl (ow_y (yh_loadA0 Tb rfl rfl rfl hc14 rfl) rfl rfl (kk_wl ?_))
    refine wl_u rfl (ow_y (yh_move rfl rfl) rfl rfl (kk_wl ?_))
    refine wl_u rfl (ow_y (yh_cmpS rfl rfl rfl rfl) rfl rfl (kk_wl ?_))
    refine wl_nil ?_
    refine ex_seq ?_
    refine cw_split rfl (fun c2 => ?_) (fun c2 => ?_)
    · skip
      replace h := bt c2 h
      refine cw_seq ?_
      refine cw_region ?_
      refine wl_u rfl (ow_y (yh_move rfl rfl) rfl rfl (kk_wl ?_))
      refine wl_u rfl (ow_y (yh_assign rfl rfl) rfl rfl (kk_wl ?_))
      refine wl_nil ?_
      refine ex_seq ?_
      refine cw_ret ?_
      refine ex_block_ret ?_
      refine ex_then_ret ?_
      refine ex_then_ret ?_
      refine ex_block_ret ?_
      refine ex_then_ret ?_
      obtain rfl := Option.some.inj h
      obtain rfl := go_ret hk4
      exact ex_r1 Tb rfl (.tmp rfl) (fun wq hq => ⟨_, rfl, hq.ext, rfl⟩)
    · skip
      replace h := bf c2 h
      refine cw_skip ?_
      refine ex_block_normal ?_
      refine ex_seq ?_
      refine cw_region ?_
      refine wl_u rfl (ow_y (yh_move rfl rfl) rfl rfl (kk_wl ?_))
      refine wl_u rfl (ow_y (yh_arI rfl rfl rfl rfl (by omega)) rfl rfl (kk_wl ?_))
      refine wl_u rfl (ow_y (yh_assign rfl rfl) rfl rfl (kk_wl ?_))
      refine wl_nil ?_
      exact ex_next [] (hn4 (n4, s5 + 1) (Nat.lt_succ_self _) h) ⟨rfl, rfl, rfl, trivial⟩ (by kernel_rfl)
  · skip
    replace h := bf c1 h
    have q2 := ltb_false.1 c1
    refine cw_exit ?_
    refine ex_then_exit ?_
    refine ex_then_exit ?_
    obtain rfl := Option.some.inj h
    have h := go_brk hk4
    refine ex_block_exit ?_
    refine ex_seq ?_
    refine cw_seq ?_
    refine cw_region ?_
    refine wl_u rfl (ow_y (yh_assign rfl rfl) rfl rfl (kk_wl ?_))
    refine wl_nil ?_
    refine ex_seq ?_
    refine cw_ret ?_
    obtain rfl := Option.some.inj h
    exact ex_r1 Tb rfl (.tmp rfl) (fun wq hq => ⟨_, rfl, hq.ext, rfl⟩)

def m_laws_FnChangeDrop_L35 (N : Nat) (x21 : Flow × Change) (y78 : Step) (x91 : Step × Bool) : Nat → Nat → Option (Ex (Nat) (Bool))
  | 0, _ => none
  | n + 1, s15 => (bif ltb ((s15 : Nat) : Int) ((y78.after.length : Nat) : Int) then (y78.after[s15]?).bind fun y123 => (bif !(seq y123 x21.2.step.name) then (m_laws_placeOf N x91.1.after y123).bind fun x137 => (bif ltb x137 0 then some (Ex.ret false)
 else m_laws_FnChangeDrop_L35 N x21 y78 x91 n (s15 + 1))
 else m_laws_FnChangeDrop_L35 N x21 y78 x91 n (s15 + 1))
 else some (Ex.brk (s15)))

def m_laws_FnChangeDrop_L21 (N : Nat) (x21 : Flow × Change) (x27 : Flow × Bool) (x65 : Step × Bool) : Nat → Nat → Option (Ex (Nat) (Bool))
  | 0, _ => none
  | n + 1, s11 => (bif ltb ((s11 : Nat) : Int) ((x21.1.steps.length : Nat) : Int) then (x21.1.steps[s11]?).bind fun y78 => (m_laws_placeOf N y78.after x21.2.step.name).bind fun x85 => (bif leb 0 x85 then (m_impl_FlowFind N x27.1 y78.name).bind fun x91 => (bif !x91.2 then some (Ex.ret false)
 else (m_impl_NamesHave N x91.1.after x65.1.after).bind fun x101 => (bif !x101 then some (Ex.ret false)
 else (m_laws_placeOf N x91.1.after x21.2.step.name).bind fun x110 => (bif leb 0 x110 then some (Ex.ret false)
 else (m_laws_FnChangeDrop_L35 N x21 y78 x91 N 0).bind fun e35 => e35.go Ex.ret fun b35 => m_laws_FnChangeDrop_L21 N x21 x27 x65 n (s11 + 1))))
 else m_laws_FnChangeDrop_L21 N x21 x27 x65 n (s11 + 1))
 else some (Ex.brk (s11)))

def m_laws_FnChangeDrop (N : Nat) (u0 : List UInt8) : Option (Bool) := (bif ltb 1048576 ((u0.length : Nat) : Int) then some true
 else (m_spec_DrawFlowChange N u0).bind fun x21 => (m_impl_FlowChange N x21.1 x21.2).bind fun x27 => (m_spec_FlowChange N x21.1 x21.2).bind fun x33 => (bif x27.2 != x33.2 then (bif x27.2 == x33.2 then (m_laws_sameFlow N x27.1 x33.1).bind fun x55 => some x55
 else some false)
 else (m_laws_sameFlow N x27.1 x33.1).bind fun x42 => (bif !x42 then (bif x27.2 == x33.2 then (m_laws_sameFlow N x27.1 x33.1).bind fun x55 => some x55
 else some false)
 else (bif !x27.2 then (bif x27.2 == x33.2 then (m_laws_sameFlow N x27.1 x33.1).bind fun x55 => some x55
 else some false)
 else (bif !(eqb x21.2.kind 2) then some true
 else (m_impl_FlowFind N x21.1 x21.2.step.name).bind fun x65 => (m_laws_FnChangeDrop_L21 N x21 x27 x65 N 0).bind fun e21 => e21.go (fun r => r) fun b21 => some x65.2)))))

set_option maxHeartbeats 4000000 in
theorem c_laws_FnChangeDrop (N : Nat) (u0 : List UInt8) (res : Bool) (h : m_laws_FnChangeDrop N u0 = some res) (w : World) {a_u0 : Option Addr} {c_u0 : Nat} (h_u0 : bytesL.rd w [] [.slice a_u0 u0.length c_u0] u0) : Ret Try.prog 3 [.slice a_u0 u0.length c_u0] w [] fun v w' => v = .bool res := by
  have mh_u0 := rd_max h_u0
  unfold m_laws_FnChangeDrop at h
  refine ret_enter Try.func3 rfl Try.ntmps3 rfl (Hp.refl w _) ?_
  refine cw_seq ?_
  refine cw_region ?_
  refine wl_u rfl (ow_y (yh_assign rfl rfl) rfl rfl (kk_wl ?_))
  refine wl_nil ?_
  refine ex_seq ?_
  refine cw_seq ?_
  refine cw_seq ?_
  refine cw_region ?_
  refine wl_u rfl (ow_y (yh_move rfl rfl) rfl rfl (kk_wl ?_))
  refine wl_u rfl (ow_y (yh_lenS Tb rfl rfl rfl rfl) rfl rfl (kk_wl ?_))
  refine wl_u rfl (ow_y (yh_cmpI rfl rfl rfl rfl) rfl rfl (kk_wl ?_))
  refine wl_nil ?_
  refine ex_seq ?_
  refine cw_split rfl (fun c1 => ?_) (fun c1 => ?_)
  · skip
    replace h := bt c1 h
    have q1 := ltb_true.1 c1
    refine cw_seq ?_
    refine cw_region ?_
    refine wl_u rfl (ow_y (yh_assign rfl rfl) rfl rfl (kk_wl ?_))
    refine wl_nil ?_
    refine ex_seq ?_
    refine cw_ret ?_
    refine ex_then_ret ?_
    obtain rfl := Option.some.inj h
    exact ex_r1 Tb rfl (.tmp rfl) (fun wq hq => ⟨_, rfl, hq.ext, rfl⟩)
  · skip
    replace h := bf c1 h
    have q2 := ltb_false.1 c1
    refine cw_skip ?_
    refine ex_seq ?_
    refine cw_seq ?_
    refine cw_region ?_
    refine wl_u rfl (ow_y (yh_move rfl rfl) rfl rfl (kk_wl ?_))
    obtain ⟨x21, hx21, h⟩ := bd h
    refine wl_u rfl (ow_cN2 rfl hb7 rfl (fun w hw => c_spec_DrawFlowChange N _ _ hx21 w (Lay.at_ h_u0 hw)) rfl rfl (fun a21 c21 F21 a21_2 c21_2 F21_2 => kk_wl ?_))
    refine wl_u rfl (ow_y (yh_move rfl rfl) rfl rfl (kk_wl ?_))
    refine wl_u rfl (ow_y (yh_extract rfl rfl rfl) rfl rfl (kk_wl ?_))
    refine wl_u rfl (ow_y (yh_extract rfl rfl rfl) rfl rfl (kk_wl ?_))
    refine wl_u rfl (ow_allocA Tb rfl rfl rfl rfl (fun g3 => kk_wl ?_))
    refine wl_u rfl (ow_allocA Tb rfl rfl rfl rfl (fun g4 => kk_wl ?_))
    refine wl_u rfl (ow_storeA Tb (k := 1) rfl rfl rfl rfl rfl rfl rfl rfl rfl (kk_wl ?_))
    refine wl_u rfl (ow_storeA Tb (k := 1) rfl rfl rfl rfl rfl rfl rfl rfl rfl (kk_wl ?_))
    refine wl_nil ?_
    refine ex_seq ?_
    refine cw_seq ?_
    refine cw_freeze 2 rfl (fun w1 M1 hb1_ hz1 => ?_)
    replace h_u0 := Lay.rb h_u0 hb1_
    have hB1 := hb1_
    have mz1 := rd_max hz1
    refine cw_freeze 2 rfl (fun w2 M2 hb2_ hz2 => ?_)
    replace h_u0 := Lay.rb h_u0 hb2_
    replace hz1 := Lay.rb hz1 hb2_
    have hB2 := hB1.trans hb2_
    have mz2 := rd_max hz2
    refine cw_region ?_
    refine wl_u rfl (ow_y (yh_loadBA Tb (k := 1) rfl rfl rfl rfl rfl rfl) rfl rfl (kk_wl ?_))
    refine wl_u rfl (ow_y (yh_loadBA Tb (k := 0) rfl rfl rfl rfl rfl rfl) rfl rfl (kk_wl ?_))
    obtain ⟨x27, hx27, h⟩ := bd h
    refine wl_u rfl (ow_cN1 rfl hb8 rfl (fun w hw => c_impl_FlowChange N _ _ _ hx27 w (Lay.at_ hz1 hw) (Lay.at_ hz2 hw)) rfl rfl (fun a27 c27 F27 => kk_wl ?_))
    refine wl_u rfl (ow_y (yh_move rfl rfl) rfl rfl (kk_wl ?_))
    refine wl_u rfl (ow_y (yh_extract rfl rfl rfl) rfl rfl (kk_wl ?_))
    refine wl_u rfl (ow_y (yh_extract rfl rfl rfl) rfl rfl (kk_wl ?_))
    refine wl_u rfl (ow_allocA Tb rfl rfl rfl rfl (fun g5 => kk_wl ?_))
    refine wl_u rfl (ow_storeA Tb (k := 0) rfl rfl rfl rfl rfl rfl rfl rfl rfl (kk_wl ?_))
    refine wl_u rfl (ow_y (yh_assign rfl rfl) rfl rfl (kk_wl ?_))
    refine wl_nil ?_
    refine ex_seq ?_
    refine cw_seq ?_
    refine cw_freeze 1 rfl (fun w3 M3 hb3_ hz3 => ?_)
    replace h_u0 := Lay.rb h_u0 hb3_
    replace hz1 := Lay.rb hz1 hb3_
    replace hz2 := Lay.rb hz2 hb3_
    have hB3 := hB2.trans hb3_
    have mz3 := rd_max hz3
    refine cw_region ?_
    refine wl_u rfl (ow_y (yh_loadBA Tb (k := 2) rfl rfl rfl rfl rfl rfl) rfl rfl (kk_wl ?_))
    refine wl_u rfl (ow_y (yh_loadBA Tb (k := 1) rfl rfl rfl rfl rfl rfl) rfl rfl (kk_wl ?_))
    obtain ⟨x33, hx33, h⟩ := bd h
    refine wl_u rfl (ow_cN1 rfl hb9 rfl (fun w hw => c_spec_FlowChange N _ _ _ hx33 w (Lay.at_ hz1 hw) (Lay.at_ hz2 hw)) rfl rfl (fun a33 c33 F33 => kk_wl ?_))
    refine wl_u rfl (ow_y (yh_move rfl rfl) rfl rfl (kk_wl ?_))
    refine wl_u rfl (ow_y (yh_extract rfl rfl rfl) rfl rfl (kk_wl ?_))
    refine wl_u rfl (ow_y (yh_extract rfl rfl rfl) rfl rfl (kk_wl ?_))
    refine wl_u rfl (ow_allocA Tb rfl rfl rfl rfl (fun g7 => kk_wl ?_))
    refine wl_u rfl (ow_storeA Tb (k := 0) rfl rfl rfl rfl rfl rfl rfl rfl rfl (kk_wl ?_))
    refine wl_u rfl (ow_y (yh_assign rfl rfl) rfl rfl (kk_wl ?_))
    refine wl_nil ?_
    refine ex_seq ?_
    refine cw_seq ?_
    refine cw_seq ?_
    refine cw_freeze 1 rfl (fun w4 M4 hb4_ hz4 => ?_)
    replace h_u0 := Lay.rb h_u0 hb4_
    replace hz1 := Lay.rb hz1 hb4_
    replace hz2 := Lay.rb hz2 hb4_
    replace hz3 := Lay.rb hz3 hb4_
    have hB4 := hB3.trans hb4_
    have mz4 := rd_max hz4
    refine cw_region ?_
    refine wl_u rfl (ow_y (yh_move rfl rfl) rfl rfl (kk_wl ?_))
    refine wl_u rfl (ow_y (yh_move rfl rfl) rfl rfl (kk_wl ?_))
    refine wl_u rfl (ow_y (yh_cmpB rfl rfl rfl rfl (by kernel_rfl)) rfl rfl (kk_wl ?_))
    refine wl_u rfl (ow_y (yh_move rfl rfl) rfl rfl (kk_wl ?_))
    refine wl_s rfl rfl (fun c2 => ?_) (fun c2 => ?_)
    · skip
      replace h := bt c2 h
      refine wl_n rfl rfl rfl rfl ?_
      refine wl_n rfl rfl rfl rfl ?_
      refine wl_n rfl rfl rfl rfl ?_
      refine wl_n rfl rfl rfl rfl ?_
      refine wl_u rfl (ow_y (yh_pickT rfl rfl rfl) rfl rfl (kk_wl ?_))
      refine wl_u rfl (ow_y (yh_move rfl rfl) rfl rfl (kk_wl ?_))
      refine wl_s rfl rfl (fun _ => ?_) nofun
      refine wl_n rfl rfl rfl rfl ?_
      refine wl_n rfl rfl rfl rfl ?_
      refine wl_u rfl (ow_y (yh_pickT rfl rfl rfl) rfl rfl (kk_wl ?_))
      refine wl_nil ?_
      refine ex_seq ?_
      refine cw_true rfl ?_
      refine cw_seq ?_
      refine cw_region ?_
      refine wl_u rfl (ow_y (yh_move rfl rfl) rfl rfl (kk_wl ?_))
      refine wl_u rfl (ow_y (yh_move rfl rfl) rfl rfl (kk_wl ?_))
      refine wl_u rfl (ow_y (yh_cmpB rfl rfl rfl rfl (by kernel_rfl)) rfl rfl (kk_wl ?_))
      refine wl_u rfl (ow_y (yh_move rfl rfl) rfl rfl (kk_wl ?_))
      refine wl_s rfl rfl (fun c3 => ?_) (fun c3 => ?_)
      · skip
        replace h := bt c3 h
        refine wl_g rfl rfl (ow_y (yh_loadBA Tb (k := 1) rfl rfl rfl rfl rfl rfl) rfl rfl (kk_wl ?_))
        refine wl_g rfl rfl (ow_y (yh_loadBA Tb (k := 0) rfl rfl rfl rfl rfl rfl) rfl rfl (kk_wl ?_))
        obtain ⟨x55, hx55, h⟩ := bd h
        refine wl_g rfl rfl (ow_cV rfl hb10 rfl (fun w hw => c_laws_sameFlow N _ _ _ hx55 w (Lay.at_ hz3 hw) (Lay.at_ hz4 hw)) rfl rfl (kk_wl ?_))
        refine wl_u rfl (ow_y (yh_pickT rfl rfl rfl) rfl rfl (kk_wl ?_))
        refine wl_u rfl (ow_y (yh_assign rfl rfl) rfl rfl (kk_wl ?_))
        refine wl_nil ?_
        refine ex_seq ?_
        refine cw_ret ?_
        refine ex_then_ret ?_
        obtain rfl := Option.some.inj h
        exact ex_r1 Tb rfl (.tmp rfl) (fun wq hq => ⟨_, rfl, (hB4.back hq).ext, rfl⟩)
      · skip
        replace h := bf c3 h
        refine wl_n rfl rfl rfl rfl ?_
        refine wl_n rfl rfl rfl rfl ?_
        refine wl_n rfl rfl rfl rfl ?_
        refine wl_u rfl (ow_y (yh_pickF rfl rfl rfl) rfl rfl (kk_wl ?_))
        refine wl_u rfl (ow_y (yh_assign rfl rfl) rfl rfl (kk_wl ?_))
        refine wl_nil ?_
        refine ex_seq ?_
        refine cw_ret ?_
        refine ex_then_ret ?_
        obtain rfl := Option.some.inj h
        exact ex_r1 Tb rfl (.tmp rfl) (fun wq hq => ⟨_, rfl, (hB4.back hq).ext, rfl⟩)
    · skip
      replace h := bf c2 h
      refine wl_g rfl rfl (ow_y (yh_loadBA Tb (k := 1) rfl rfl rfl rfl rfl rfl) rfl rfl (kk_wl ?_))
      refine wl_g rfl rfl (ow_y (yh_loadBA Tb (k := 0) rfl rfl rfl rfl rfl rfl) rfl rfl (kk_wl ?_))
      obtain ⟨x42, hx42, h⟩ := bd h
      refine wl_g rfl rfl (ow_cV rfl hb10 rfl (fun w hw => c_laws_sameFlow N _ _ _ hx42 w (Lay.at_ hz3 hw) (Lay.at_ hz4 hw)) rfl rfl (kk_wl ?_))
      refine wl_g rfl rfl (ow_y (yh_not rfl rfl) rfl rfl (kk_wl ?_))
      refine wl_u rfl (ow_y (yh_pickF rfl rfl rfl) rfl rfl (kk_wl ?_))
      refine wl_u rfl (ow_y (yh_move rfl rfl) rfl rfl (kk_wl ?_))
      refine wl_s rfl rfl (fun c4 => ?_) (fun c4 => ?_)
      · skip
        replace h := bt c4 h
        refine wl_n rfl rfl rfl rfl ?_
        refine wl_n rfl rfl rfl rfl ?_
        refine wl_u rfl (ow_y (yh_pickT rfl rfl rfl) rfl rfl (kk_wl ?_))
        refine wl_nil ?_
        refine ex_seq ?_
        refine cw_true rfl ?_
        refine cw_seq ?_
        refine cw_region ?_
        refine wl_u rfl (ow_y (yh_move rfl rfl) rfl rfl (kk_wl ?_))
        refine wl_u rfl (ow_y (yh_move rfl rfl) rfl rfl (kk_wl ?_))
        refine wl_u rfl (ow_y (yh_cmpB rfl rfl rfl rfl (by kernel_rfl)) rfl rfl (kk_wl ?_))
        refine wl_u rfl (ow_y (yh_move rfl rfl) rfl rfl (kk_wl ?_))
        refine wl_s rfl rfl (fun c5 => ?_) (fun c5 => ?_)
        · skip
          replace h := bt c5 h
          refine wl_g rfl rfl (ow_y (yh_loadBA Tb (k := 1) rfl rfl rfl rfl rfl rfl) rfl rfl (kk_wl ?_))
          refine wl_g rfl rfl (ow_y (yh_loadBA Tb (k := 0) rfl rfl rfl rfl rfl rfl) rfl rfl (kk_wl ?_))
          obtain ⟨x55, hx55, h⟩ := bd h
          refine wl_g rfl rfl (ow_cV rfl hb10 rfl (fun w hw => c_laws_sameFlow N _ _ _ hx55 w (Lay.at_ hz3 hw) (Lay.at_ hz4 hw)) rfl rfl (kk_wl ?_))
          refine wl_u rfl (ow_y (yh_pickT rfl rfl rfl) rfl rfl (kk_wl ?_))
          refine wl_u rfl (ow_y (yh_assign rfl rfl) rfl rfl (kk_wl ?_))
          refine wl_nil ?_
          refine ex_seq ?_
          refine cw_ret ?_
          refine ex_then_ret ?_
          obtain rfl := Option.some.inj h
          exact ex_r1 Tb rfl (.tmp rfl) (fun wq hq => ⟨_, rfl, (hB4.back hq).ext, rfl⟩)
        · skip
          replace h := bf c5 h
          refine wl_n rfl rfl rfl rfl ?_
          refine wl_n rfl rfl rfl rfl ?_
          refine wl_n rfl rfl rfl rfl ?_
          refine wl_u rfl (ow_y (yh_pickF rfl rfl rfl) rfl rfl (kk_wl ?_))
          refine wl_u rfl (ow_y (yh_assign rfl rfl) rfl rfl (kk_wl ?_))
          refine wl_nil ?_
          refine ex_seq ?_
          refine cw_ret ?_
          refine ex_then_ret ?_
          obtain rfl := Option.some.inj h
          exact ex_r1 Tb rfl (.tmp rfl) (fun wq hq => ⟨_, rfl, (hB4.back hq).ext, rfl⟩)
      · skip
        replace h := bf c4 h
        refine wl_g rfl rfl (ow_y (yh_move rfl rfl) rfl rfl (kk_wl ?_))
        refine wl_g rfl rfl (ow_y (yh_not rfl rfl) rfl rfl (kk_wl ?_))
        refine wl_u rfl (ow_y (yh_pickF rfl rfl rfl) rfl rfl (kk_wl ?_))
        refine wl_nil ?_
        refine ex_seq ?_
        refine cw_split rfl (fun c6 => ?_) (fun c6 => ?_)
        · skip
          replace h := bt c6 h
          refine cw_seq ?_
          refine cw_region ?_
          refine wl_u rfl (ow_y (yh_move rfl rfl) rfl rfl (kk_wl ?_))
          refine wl_u rfl (ow_y (yh_move rfl rfl) rfl rfl (kk_wl ?_))
          refine wl_u rfl (ow_y (yh_cmpB rfl rfl rfl rfl (by kernel_rfl)) rfl rfl (kk_wl ?_))
          refine wl_u rfl (ow_y (yh_move rfl rfl) rfl rfl (kk_wl ?_))
          refine wl_s rfl rfl (fun c7 => ?_) (fun c7 => ?_)
          · skip
            replace h := bt c7 h
            refine wl_g rfl rfl (ow_y (yh_loadBA Tb (k := 1) rfl rfl rfl rfl rfl rfl) rfl rfl (kk_wl ?_))
            refine wl_g rfl rfl (ow_y (yh_loadBA Tb (k := 0) rfl rfl rfl rfl rfl rfl) rfl rfl (kk_wl ?_))
            obtain ⟨x55, hx55, h⟩ := bd h
            refine wl_g rfl rfl (ow_cV rfl hb10 rfl (fun w hw => c_laws_sameFlow N _ _ _ hx55 w (Lay.at_ hz3 hw) (Lay.at_ hz4 hw)) rfl rfl (kk_wl ?_))
            refine wl_u rfl (ow_y (yh_pickT rfl rfl rfl) rfl rfl (kk_wl ?_))
            refine wl_u rfl (ow_y (yh_assign rfl rfl) rfl rfl (kk_wl ?_))
            refine wl_nil ?_
            refine ex_seq ?_
            refine cw_ret ?_
            refine ex_then_ret ?_
            obtain rfl := Option.some.inj h
            exact ex_r1 Tb rfl (.tmp rfl) (fun wq hq => ⟨_, rfl, (hB4.back hq).ext, rfl⟩)
          · skip
            replace h := bf c7 h
            refine wl_n rfl rfl rfl rfl ?_
            refine wl_n rfl rfl rfl rfl ?_
            refine wl_n rfl rfl rfl rfl ?_
            refine wl_u rfl (ow_y (yh_pickF rfl rfl rfl) rfl rfl (kk_wl ?_))
            refine wl_u rfl (ow_y (yh_assign rfl rfl) rfl rfl (kk_wl ?_))
            refine wl_nil ?_
            refine ex_seq ?_
            refine cw_ret ?_
            refine ex_then_ret ?_
            obtain rfl := Option.some.inj h
            exact ex_r1 Tb rfl (.tmp rfl) (fun wq hq => ⟨_, rfl, (hB4.back hq).ext, rfl⟩)
        · skip
          replace h := bf c6 h
          refine cw_skip ?_
          refine ex_seq ?_
          refine cw_seq ?_
          refine cw_seq ?_
          refine cw_region ?_
          refine wl_u rfl (ow_y (yh_field Tb rfl rfl rfl) rfl rfl (kk_wl ?_))
          refine wl_u rfl (ow_y (yh_loadB Tb (k := 2) rfl rfl rfl rfl rfl) rfl rfl (kk_wl ?_))
          refine wl_u rfl (ow_y (yh_cmpI rfl rfl rfl rfl) rfl rfl (kk_wl ?_))
          refine wl_nil ?_
          refine ex_seq ?_
          refine cw_split rfl (fun c8 => ?_) (fun c8 => ?_)
          · skip
            replace h := bt c8 h
            have q3 := eqb_false.1 (nt c8)
            refine cw_seq ?_
            refine cw_region ?_
            refine wl_u rfl (ow_y (yh_assign rfl rfl) rfl rfl (kk_wl ?_))
            refine wl_nil ?_
            refine ex_seq ?_
            refine cw_ret ?_
            refine ex_then_ret ?_
            obtain rfl := Option.some.inj h
            exact ex_r1 Tb rfl (.tmp rfl) (fun wq hq => ⟨_, rfl, (hB4.back hq).ext, rfl⟩)
          · skip
            replace h := bf c8 h
            have q4 := eqb_true.1 (nf c8)
            refine cw_skip ?_
            refine ex_seq ?_
            refine cw_seq ?_
            refine cw_region ?_
            refine wl_u rfl (ow_y (yh_loadBA Tb (k := 3) rfl rfl rfl rfl rfl rfl) rfl rfl (kk_wl ?_))
            refine wl_u rfl (ow_y (yh_field Tb rfl rfl rfl) rfl rfl (kk_wl ?_))
            refine wl_u rfl (ow_y (yh_field Tb rfl rfl rfl) rfl rfl (kk_wl ?_))
            refine wl_u rfl (ow_y (yh_loadB Tb (k := 2) rfl rfl rfl rfl rfl) rfl rfl (kk_wl ?_))
            obtain ⟨x65, hx65, h⟩ := bd h
            refine wl_u rfl (ow_cN1 rfl hb11 rfl (fun w hw => c_impl_FlowFind N _ _ _ hx65 w (Lay.at_ hz1 hw)) rfl rfl (fun a65 c65 F65 => kk_wl ?_))
            refine wl_u rfl (ow_y (yh_move rfl rfl) rfl rfl (kk_wl ?_))
            refine wl_u rfl (ow_y (yh_extract rfl rfl rfl) rfl rfl (kk_wl ?_))
            refine wl_u rfl (ow_y (yh_extract rfl rfl rfl) rfl rfl (kk_wl ?_))
            refine wl_u rfl (ow_allocA Tb rfl rfl rfl rfl (fun g9 => kk_wl ?_))
            refine wl_u rfl (ow_storeA Tb (k := 0) rfl rfl rfl rfl rfl rfl rfl rfl rfl (kk_wl ?_))
            refine wl_u rfl (ow_y (yh_assign rfl rfl) rfl rfl (kk_wl ?_))
            refine wl_nil ?_
            refine ex_seq ?_
            refine cw_seq ?_
            refine cw_seq ?_
            refine cw_freeze 1 rfl (fun w5 M5 hb5_ hz5 => ?_)
            replace h_u0 := Lay.rb h_u0 hb5_
            replace hz1 := Lay.rb hz1 hb5_
            replace hz2 := Lay.rb hz2 hb5_
            replace hz3 := Lay.rb hz3 hb5_
            replace hz4 := Lay.rb hz4 hb5_
            have hB5 := hB4.trans hb5_
            have mz5 := rd_max hz5
            refine cw_region ?_
            refine wl_u rfl (ow_y (yh_assign rfl rfl) rfl rfl (kk_wl ?_))
            refine wl_nil ?_
            refine ex_seq ?_
            refine cw_block ?_
            obtain ⟨e21, he21, hk21⟩ := bd h
            clear h
            refine cw_loopG (σ := Nat × Nat) (fun s => m_laws_FnChangeDrop_L21 N x21 x27 x65 s.1 s.2 = some e21) (fun s => [(3, .pointer (some ⟨g3, 0, none⟩)), (4, .pointer (some ⟨g4, 0, none⟩)), (5, .pointer (some ⟨g5, 0, none⟩)), (9, .pointer (some ⟨g9, 0, none⟩)), (10, .bool x65.2), (11, .int .i64 ((s.2 : Nat) : Int))]) (fun s => [blkC g3 25 [.int .i64 x21.1.ver, .slice a21 x21.1.steps.length c21], blkC g4 30 [.int .i64 x21.2.kind, .string x21.2.step.name, .slice a21_2 x21.2.step.after.length c21_2, .bool x21.2.step.undo], blkC g5 25 [.int .i64 x27.1.ver, .slice a27 x27.1.steps.length c27], blkC g9 28 [.string x65.1.name, .slice a65 x65.1.after.length c65, .bool x65.1.undo]]) (fun s => s.1) (N, 0) [4, 3, 2, 0] he21 ⟨rfl, rfl, rfl, rfl, rfl, rfl, trivial⟩ rfl (fun KL s he21 hn21 => ?_)
            obtain ⟨n21, s11⟩ := s
            simp only at he21 hn21 ⊢
            rcases n21 with _ | n21
            · exact nosome he21
            have h := he21; rw [m_laws_FnChangeDrop_L21] at h
            refine cw_seq ?_
            refine cw_seq ?_
            refine cw_region ?_
            refine wl_u rfl (ow_y (yh_move rfl rfl) rfl rfl (kk_wl ?_))
            refine wl_u rfl (ow_y (yh_field Tb rfl rfl rfl) rfl rfl (kk_wl ?_))
            refine wl_u rfl (ow_y (yh_loadB Tb (k := 0) rfl rfl rfl rfl rfl) rfl rfl (kk_wl ?_))
            refine wl_u rfl (ow_y (yh_lenS Tb rfl rfl rfl rfl) rfl rfl (kk_wl ?_))
            refine wl_u rfl (ow_y (yh_cmpI rfl rfl rfl rfl) rfl rfl (kk_wl ?_))
            refine wl_nil ?_
            refine ex_seq ?_
            refine cw_split rfl (fun c9 => ?_) (fun c9 => ?_)
            · skip
              replace h := bt c9 h
              have q5 := ltb_true.1 c9
              refine cw_skip ?_
              refine ex_seq ?_
              refine cw_seq ?_
              refine cw_block ?_
              refine cw_seq ?_
              refine cw_region ?_
              refine wl_u rfl (ow_y (yh_field Tb rfl rfl rfl) rfl rfl (kk_wl ?_))
              refine wl_u rfl (ow_y (yh_loadB Tb (k := 0) rfl rfl rfl rfl rfl) rfl rfl (kk_wl ?_))
              refine wl_u rfl (ow_y (yh_move rfl rfl) rfl rfl (kk_wl ?_))
              obtain ⟨y78, hy78, h⟩ := bd h
              obtain ⟨b78, o78, ha78⟩ := sl_addr hz1 hy78
              subst ha78
              obtain ⟨a78, e78, hc78, hf78⟩ := get_step hz1 hy78
              have mx78 := rd_max hf78
              refine wl_u rfl (ow_y (yh_idx Tb (k := s11) rfl rfl rfl rfl (get_lt hy78) rfl rfl) rfl rfl (kk_wl ?_))
              refine wl_u rfl (ow_y (yh_loadAN Tb rfl rfl rfl rfl hc78 rfl) rfl rfl (kk_wl ?_))
              refine wl_u rfl (ow_allocA Tb rfl rfl rfl rfl (fun g12 => kk_wl ?_))
              refine wl_u rfl (ow_storeA Tb (k := 0) rfl rfl rfl rfl rfl rfl rfl rfl rfl (kk_wl ?_))
              refine wl_nil ?_
              refine ex_seq ?_
              refine cw_seq ?_
              refine cw_region ?_
              refine wl_u rfl (ow_y (yh_field Tb rfl rfl rfl) rfl rfl (kk_wl ?_))
              refine wl_u rfl (ow_y (yh_loadB Tb (k := 0) rfl rfl rfl rfl rfl) rfl rfl (kk_wl ?_))
              refine wl_u rfl (ow_y (yh_field Tb rfl rfl rfl) rfl rfl (kk_wl ?_))
              refine wl_u rfl (ow_y (yh_field Tb rfl rfl rfl) rfl rfl (kk_wl ?_))
              refine wl_u rfl (ow_y (yh_loadB Tb (k := 2) rfl rfl rfl rfl rfl) rfl rfl (kk_wl ?_))
              obtain ⟨x85, hx85, h⟩ := bd h
              refine wl_u rfl (ow_cV rfl hb12 rfl (fun w hw => c_laws_placeOf N _ _ _ hx85 w (Lay.at_ hf78 hw)) rfl rfl (kk_wl ?_))
              refine wl_u rfl (ow_y (yh_cmpI rfl rfl rfl rfl) rfl rfl (kk_wl ?_))
              refine wl_nil ?_
              refine ex_seq ?_
              refine cw_split rfl (fun c10 => ?_) (fun c10 => ?_)
              · skip
                replace h := bt c10 h
                have q6 := leb_true.1 c10
                refine cw_seq ?_
                refine cw_region ?_
                refine wl_u rfl (ow_y (yh_loadBA Tb (k := 3) rfl rfl rfl rfl rfl rfl) rfl rfl (kk_wl ?_))
                refine wl_u rfl (ow_y (yh_field Tb rfl rfl rfl) rfl rfl (kk_wl ?_))
                refine wl_u rfl (ow_y (yh_loadB Tb (k := 0) rfl rfl rfl rfl rfl) rfl rfl (kk_wl ?_))
                obtain ⟨x91, hx91, h⟩ := bd h
                refine wl_u rfl (ow_cN1 rfl hb11 rfl (fun w hw => c_impl_FlowFind N _ _ _ hx91 w (Lay.at_ hz3 hw)) rfl rfl (fun a91 c91 F91 => kk_wl ?_))
                refine wl_u rfl (ow_y (yh_move rfl rfl) rfl rfl (kk_wl ?_))
                refine wl_u rfl (ow_y (yh_extract rfl rfl rfl) rfl rfl (kk_wl ?_))
                refine wl_u rfl (ow_y (yh_extract rfl rfl rfl) rfl rfl (kk_wl ?_))
                refine wl_u rfl (ow_allocA Tb rfl rfl rfl rfl (fun g13 => kk_wl ?_))
                refine wl_u rfl (ow_storeA Tb (k := 0) rfl rfl rfl rfl rfl rfl rfl rfl rfl (kk_wl ?_))
                refine wl_u rfl (ow_y (yh_assign rfl rfl) rfl rfl (kk_wl ?_))
                refine wl_nil ?_
                refine ex_seq ?_
                refine cw_seq ?_
                refine cw_seq ?_
                refine cw_freeze 1 rfl (fun w6 M6 hb6_ hz6 => ?_)
                replace h_u0 := Lay.rb h_u0 hb6_
                replace hz1 := Lay.rb hz1 hb6_
                replace hz2 := Lay.rb hz2 hb6_
                replace hz3 := Lay.rb hz3 hb6_
                replace hz4 := Lay.rb hz4 hb6_
                replace hz5 := Lay.rb hz5 hb6_
                replace hf78 := Lay.rb hf78 hb6_
                replace hc78 := CellN.rb hc78 (by simp) hb6_
                have hB6 := hB5.trans hb6_
                have mz6 := rd_max hz6
                refine cw_region ?_
                refine wl_u rfl (ow_y (yh_move rfl rfl) rfl rfl (kk_wl ?_))
                refine wl_u rfl (ow_y (yh_not rfl rfl) rfl rfl (kk_wl ?_))
                refine wl_u rfl (ow_y (yh_move rfl rfl) rfl rfl (kk_wl ?_))
                refine wl_s rfl rfl (fun c11 => ?_) (fun c11 => ?_)
                · skip
                  replace h := bt c11 h
                  refine wl_n rfl rfl rfl rfl ?_
                  refine wl_n rfl rfl rfl rfl ?_
                  refine wl_n rfl rfl rfl rfl ?_
                  refine wl_n rfl rfl rfl rfl ?_
                  refine wl_n rfl rfl rfl rfl ?_
                  refine wl_n rfl rfl rfl rfl ?_
                  refine wl_u rfl (ow_y (yh_pickT rfl rfl rfl) rfl rfl (kk_wl ?_))
                  refine wl_u rfl (ow_y (yh_move rfl rfl) rfl rfl (kk_wl ?_))
                  refine wl_s rfl rfl (fun _ => ?_) nofun
                  refine wl_n rfl rfl rfl rfl ?_
                  refine wl_n rfl rfl rfl rfl ?_
                  refine wl_n rfl rfl rfl rfl ?_
                  refine wl_n rfl rfl rfl rfl ?_
                  refine wl_n rfl rfl rfl rfl ?_
                  refine wl_n rfl rfl rfl rfl ?_
                  refine wl_n rfl rfl rfl rfl ?_
                  refine wl_u rfl (ow_y (yh_pickT rfl rfl rfl) rfl rfl (kk_wl ?_))
                  refine wl_nil ?_
                  refine ex_seq ?_
                  refine cw_true rfl ?_
                  refine cw_seq ?_
                  refine cw_region ?_
                  refine wl_u rfl (ow_y (yh_assign rfl rfl) rfl rfl (kk_wl ?_))
                  refine wl_nil ?_
                  refine ex_seq ?_
                  refine cw_ret ?_
                  refine ex_then_ret ?_
                  refine ex_block_ret ?_
                  refine ex_then_ret ?_
                  refine ex_then_ret ?_
                  refine ex_block_ret ?_
                  refine ex_then_ret ?_
                  obtain rfl := Option.some.inj h
                  obtain rfl := go_ret hk21
                  exact ex_r1 Tb rfl (.tmp rfl) (fun wq hq => ⟨_, rfl, (hB6.back hq).ext, rfl⟩)
                · skip
                  replace h := bf c11 h
                  refine wl_g rfl rfl (ow_y (yh_field Tb rfl rfl rfl) rfl rfl (kk_wl ?_))
                  refine wl_g rfl rfl (ow_y (yh_loadB Tb (k := 0) rfl rfl rfl rfl rfl) rfl rfl (kk_wl ?_))
                  refine wl_g rfl rfl (ow_y (yh_field Tb rfl rfl rfl) rfl rfl (kk_wl ?_))
                  refine wl_g rfl rfl (ow_y (yh_loadB Tb (k := 5) rfl rfl rfl rfl rfl) rfl rfl (kk_wl ?_))
                  obtain ⟨x101, hx101, h⟩ := bd h
                  refine wl_g rfl rfl (ow_cV rfl hb13 rfl (fun w hw => c_impl_NamesHave N _ _ _ hx101 w (Lay.at_ hz6 hw) (Lay.at_ hz5 hw)) rfl rfl (kk_wl ?_))
                  refine wl_g rfl rfl (ow_y (yh_not rfl rfl) rfl rfl (kk_wl ?_))
                  refine wl_u rfl (ow_y (yh_pickF rfl rfl rfl) rfl rfl (kk_wl ?_))
                  refine wl_u rfl (ow_y (yh_move rfl rfl) rfl rfl (kk_wl ?_))
                  refine wl_s rfl rfl (fun c12 => ?_) (fun c12 => ?_)
                  · skip
                    replace h := bt c12 h
                    refine wl_n rfl rfl rfl rfl ?_
                    refine wl_n rfl rfl rfl rfl ?_
                    refine wl_n rfl rfl rfl rfl ?_
                    refine wl_n rfl rfl rfl rfl ?_
                    refine wl_n rfl rfl rfl rfl ?_
                    refine wl_n rfl rfl rfl rfl ?_
                    refine wl_n rfl rfl rfl rfl ?_
                    refine wl_u rfl (ow_y (yh_pickT rfl rfl rfl) rfl rfl (kk_wl ?_))
                    refine wl_nil ?_
                    refine ex_seq ?_
                    refine cw_true rfl ?_
                    refine cw_seq ?_
                    refine cw_region ?_
                    refine wl_u rfl (ow_y (yh_assign rfl rfl) rfl rfl (kk_wl ?_))
                    refine wl_nil ?_
                    refine ex_seq ?_
                    refine cw_ret ?_
                    refine ex_then_ret ?_
                    refine ex_block_ret ?_
                    refine ex_then_ret ?_
                    refine ex_then_ret ?_
                    refine ex_block_ret ?_
                    refine ex_then_ret ?_
                    obtain rfl := Option.some.inj h
                    obtain rfl := go_ret hk21
                    exact ex_r1 Tb rfl (.tmp rfl) (fun wq hq => ⟨_, rfl, (hB6.back hq).ext, rfl⟩)
                  · skip
                    replace h := bf c12 h
                    refine wl_g rfl rfl (ow_y (yh_field Tb rfl rfl rfl) rfl rfl (kk_wl ?_))
                    refine wl_g rfl rfl (ow_y (yh_loadB Tb (k := 0) rfl rfl rfl rfl rfl) rfl rfl (kk_wl ?_))
                    refine wl_g rfl rfl (ow_y (yh_field Tb rfl rfl rfl) rfl rfl (kk_wl ?_))
                    refine wl_g rfl rfl (ow_y (yh_field Tb rfl rfl rfl) rfl rfl (kk_wl ?_))
                    refine wl_g rfl rfl (ow_y (yh_loadB Tb (k := 3) rfl rfl rfl rfl rfl) rfl rfl (kk_wl ?_))
                    obtain ⟨x110, hx110, h⟩ := bd h
                    refine wl_g rfl rfl (ow_cV rfl hb12 rfl (fun w hw => c_laws_placeOf N _ _ _ hx110 w (Lay.at_ hz6 hw)) rfl rfl (kk_wl ?_))
                    refine wl_g rfl rfl (ow_y (yh_cmpI rfl rfl rfl rfl) rfl rfl (kk_wl ?_))
                    refine wl_u rfl (ow_y (yh_pickF rfl rfl rfl) rfl rfl (kk_wl ?_))
                    refine wl_nil ?_
                    refine ex_seq ?_
                    refine cw_split rfl (fun c13 => ?_) (fun c13 => ?_)
                    · skip
                      replace h := bt c13 h
                      have q7 := leb_true.1 c13
                      refine cw_seq ?_
                      refine cw_region ?_
                      refine wl_u rfl (ow_y (yh_assign rfl rfl) rfl rfl (kk_wl ?_))
                      refine wl_nil ?_
                      refine ex_seq ?_
                      refine cw_ret ?_
                      refine ex_then_ret ?_
                      refine ex_block_ret ?_
                      refine ex_then_ret ?_
                      refine ex_then_ret ?_
                      refine ex_block_ret ?_
                      refine ex_then_ret ?_
                      obtain rfl := Option.some.inj h
                      obtain rfl := go_ret hk21
                      exact ex_r1 Tb rfl (.tmp rfl) (fun wq hq => ⟨_, rfl, (hB6.back hq).ext, rfl⟩)
                    · skip
                      replace h := bf c13 h
                      have q8 := leb_false.1 c13
                      refine cw_skip ?_
                      refine ex_seq ?_
                      refine cw_seq ?_
                      refine cw_region ?_
                      refine wl_u rfl (ow_y (yh_assign rfl rfl) rfl rfl (kk_wl ?_))
                      refine wl_nil ?_
                      refine ex_seq ?_
                      refine cw_block ?_
                      obtain ⟨e35, he35, hk35⟩ := bd h
                      clear h
                      refine cw_loopG (σ := Nat × Nat) (fun s => m_laws_FnChangeDrop_L35 N x21 y78 x91 s.1 s.2 = some e35) (fun s => [(3, .pointer (some ⟨g3, 0, none⟩)), (4, .pointer (some ⟨g4, 0, none⟩)), (5, .pointer (some ⟨g5, 0, none⟩)), (9, .pointer (some ⟨g9, 0, none⟩)), (10, .bool x65.2), (11, .int .i64 ((s11 : Nat) : Int)), (12, .pointer (some ⟨g12, 0, none⟩)), (13, .pointer (some ⟨g13, 0, none⟩)), (15, .int .i64 ((s.2 : Nat) : Int))]) (fun s => [blkC g3 25 [.int .i64 x21.1.ver, .slice (some ⟨b78, o78, none⟩) x21.1.steps.length c21], blkC g4 30 [.int .i64 x21.2.kind, .string x21.2.step.name, .slice a21_2 x21.2.step.after.length c21_2, .bool x21.2.step.undo], blkC g5 25 [.int .i64 x27.1.ver, .slice a27 x27.1.steps.length c27], blkC g9 28 [.string x65.1.name, .slice a65 x65.1.after.length c65, .bool x65.1.undo], blkC g12 28 [.string y78.name, .slice a78 y78.after.length e78, .bool y78.undo], blkC g13 28 [.string x91.1.name, .slice a91 x91.1.after.length c91, .bool x91.1.undo]]) (fun s => s.1) (N, 0) [2, 3, 4, 5, 1, 0] he35 ⟨rfl, rfl, rfl, rfl, rfl, rfl, rfl, rfl, rfl, trivial⟩ rfl (fun KL s he35 hn35 => ?_)
                      obtain ⟨n35, s15⟩ := s
                      simp only at he35 hn35 ⊢
                      rcases n35 with _ | n35
                      · exact nosome he35
                      have h := he35; rw [m_laws_FnChangeDrop_L35] at h
                      refine cw_seq ?_
                      refine cw_seq ?_
                      refine cw_region ?_
                      refine wl_u rfl (ow_y (yh_move rfl rfl) rfl rfl (kk_wl ?_))
                      refine wl_u rfl (ow_y (yh_field Tb rfl rfl rfl) rfl rfl (kk_wl ?_))
                      refine wl_u rfl (ow_y (yh_loadB Tb (k := 4) rfl rfl rfl rfl rfl) rfl rfl (kk_wl ?_))
                      refine wl_u rfl (ow_y (yh_lenS Tb rfl rfl rfl rfl) rfl rfl (kk_wl ?_))
                      refine wl_u rfl (ow_y (yh_cmpI rfl rfl rfl rfl) rfl rfl (kk_wl ?_))
                      refine wl_nil ?_
                      refine ex_seq ?_
                      refine cw_split rfl (fun c14 => ?_) (fun c14 => ?_)
                      · skip
                        replace h := bt c14 h
                        have q9 := ltb_true.1 c14
                        refine cw_skip ?_
                        refine ex_seq ?_
                        refine cw_seq ?_
                        refine cw_block ?_
                        refine cw_seq ?_
                        refine cw_dr [0, 1, 2, 3, 4, 5, 6, 7, 8, 9, 10, 11, 12, 13, 14, 15, 16, 18, 19] [] [blkC g3 25 [.int .i64 x21.1.ver, .slice (some ⟨b78, o78, none⟩) x21.1.steps.length c21], blkC g4 30 [.int .i64 x21.2.kind, .string x21.2.step.name, .slice a21_2 x21.2.step.after.length c21_2, .bool x21.2.step.undo], blkC g5 25 [.int .i64 x27.1.ver, .slice a27 x27.1.steps.length c27], blkC g9 28 [.string x65.1.name, .slice a65 x65.1.after.length c65, .bool x65.1.undo], blkC g12 28 [.string y78.name, .slice a78 y78.after.length e78, .bool y78.undo], blkC g13 28 [.string x91.1.name, .slice a91 x91.1.after.length c91, .bool x91.1.undo]] (by kernel_rfl) ?_
                        refine wd_take (i := 0) [0, 1, 2, 3, 4, 5] rfl rfl rfl rfl rfl (by kernel_rfl) (by kernel_rfl) (fun _ _ _ _ h => h) (yh_field Tb rfl rfl rfl) ?_
                        refine wd_take (i := 1) [0, 1, 2, 3, 4, 5] rfl rfl rfl rfl rfl (by kernel_rfl) (by kernel_rfl) (fun _ _ _ _ h => h) (yh_loadB Tb (k := 4) rfl rfl rfl rfl rfl) ?_
                        refine wd_take (i := 2) [0, 1, 2, 3, 4, 5] rfl rfl rfl rfl rfl (by kernel_rfl) (by kernel_rfl) (fun _ _ _ _ h => h) (yh_move rfl rfl) ?_
                        obtain ⟨y123, hy123, h⟩ := bd h
                        obtain ⟨b123, o123, ha123⟩ := sl_addr hf78 hy123
                        subst ha123
                        have hc123 := get_str hf78 hy123
                        refine wd_take (i := 3) [0, 1, 2, 3, 4, 5] rfl rfl rfl rfl rfl (by kernel_rfl) (by kernel_rfl) (fun _ _ _ _ h => h) (yh_idx Tb (k := s15) rfl rfl rfl rfl (get_lt hy123) rfl rfl) ?_
                        refine wd_take (i := 4) [0, 1, 2, 3, 4, 5] rfl rfl rfl rfl rfl (by kernel_rfl) (by kernel_rfl) (fun _ _ _ _ h => h) (yh_loadA0 Tb rfl rfl rfl hc123 rfl) ?_
                        refine wd_take (i := 5) [0, 1, 2, 3, 4, 5] rfl rfl rfl rfl rfl (by kernel_rfl) (by kernel_rfl) (fun _ _ _ _ h => h) (yh_field Tb rfl rfl rfl) ?_
                        refine wd_take (i := 6) [0, 1, 2, 3, 4, 5] rfl rfl rfl rfl rfl (by kernel_rfl) (by kernel_rfl) (fun _ _ _ _ h => h) (yh_field Tb rfl rfl rfl) ?_
                        refine wd_take (i := 7) [0, 1, 2, 3, 4, 5] rfl rfl rfl rfl rfl (by kernel_rfl) (by kernel_rfl) (fun _ _ _ _ h => h) (yh_loadB Tb (k := 1) rfl rfl rfl rfl rfl) ?_
                        refine wd_take (i := 8) [0, 1, 2, 3, 4, 5] rfl rfl rfl rfl rfl (by kernel_rfl) (by kernel_rfl) (fun _ _ _ _ h => h) (yh_cmpS rfl rfl rfl rfl) ?_
                        refine wd_take (i := 9) [0, 1, 2, 3, 4, 5] rfl rfl rfl rfl rfl (by kernel_rfl) (by kernel_rfl) (fun _ _ _ _ h => h) (yh_move rfl rfl) ?_
                        refine wd_split 10 rfl rfl rfl (fun c15 => ?_) (fun c15 => ?_)
                        · skip
                          replace h := bt c15 h
                          refine wd_take (i := 10) [0, 1, 2, 3, 4, 5] rfl rfl rfl rfl rfl (by kernel_rfl) (by kernel_rfl) (fun _ _ _ _ h => h) (yh_field Tb rfl rfl rfl) ?_
                          refine wd_take (i := 11) [0, 1, 2, 3, 4, 5] rfl rfl rfl rfl rfl (by kernel_rfl) (by kernel_rfl) (fun _ _ _ _ h => h) (yh_loadB Tb (k := 5) rfl rfl rfl rfl rfl) ?_
                          refine wd_take (i := 12) [0, 1, 2, 3, 4, 5] rfl rfl rfl rfl rfl (by kernel_rfl) (by kernel_rfl) (fun _ _ _ _ h => h) (yh_field Tb rfl rfl rfl) ?_
                          refine wd_take (i := 13) [0, 1, 2, 3, 4, 5] rfl rfl rfl rfl rfl (by kernel_rfl) (by kernel_rfl) (fun _ _ _ _ h => h) (yh_loadB Tb (k := 4) rfl rfl rfl rfl rfl) ?_
                          refine wd_take (i := 14) [0, 1, 2, 3, 4, 5] rfl rfl rfl rfl rfl (by kernel_rfl) (by kernel_rfl) (fun _ _ _ _ h => h) (yh_move rfl rfl) ?_
                          refine wd_take (i := 15) [0, 1, 2, 3, 4, 5] rfl rfl rfl rfl rfl (by kernel_rfl) (by kernel_rfl) (fun _ _ _ _ h => h) (yh_idx Tb (k := s15) rfl rfl rfl rfl (get_lt hy123) rfl rfl) ?_
                          refine wd_take (i := 16) [0, 1, 2, 3, 4, 5] rfl rfl rfl rfl rfl (by kernel_rfl) (by kernel_rfl) (fun _ _ _ _ h => h) (yh_loadA0 Tb rfl rfl rfl hc123 rfl) ?_
                          obtain ⟨x137, hx137, h⟩ := bd h
                          refine wd_one 17 rfl rfl (by kernel_rfl) (ow_cV rfl hb12 rfl (fun w hw => c_laws_placeOf N _ _ _ hx137 w (Lay.at_ hz6 hw)) rfl rfl (kk_wd [0, 1, 2, 3, 4, 5] (by kernel_rfl) ?_))
                          refine wd_take (i := 18) [0, 1, 2, 3, 4, 5] rfl rfl rfl rfl rfl (by kernel_rfl) (by kernel_rfl) (fun _ _ _ _ h => h) (yh_cmpI rfl rfl rfl rfl) ?_
                          refine wd_take (i := 19) [0, 1, 2, 3, 4, 5] rfl rfl rfl rfl rfl (by kernel_rfl) (by kernel_rfl) (fun _ _ _ _ h => h) (yh_pickT rfl rfl rfl) ?_
                          refine wd_done (by kernel_rfl) ?_
                          refine ex_seq ?_
                          refine cw_split rfl (fun c16 => ?_) (fun c16 => ?_)
                          · skip
                            replace h := bt c16 h
                            have q10 := ltb_true.1 c16
                            refine cw_seq ?_
                            refine cw_region ?_
                            refine wl_u rfl (ow_y (yh_assign rfl rfl) rfl rfl (kk_wl ?_))
                            refine wl_nil ?_
                            refine ex_seq ?_
                            refine cw_ret ?_
                            refine ex_block_ret ?_
                            refine ex_then_ret ?_
                            refine ex_then_ret ?_
                            refine ex_block_ret ?_
                            refine ex_block_ret ?_
                            refine ex_then_ret ?_
                            refine ex_then_ret ?_
                            refine ex_block_ret ?_
                            refine ex_then_ret ?_
                            obtain rfl := Option.some.inj h
                            obtain rfl := go_ret hk35
                            obtain rfl := go_ret hk21
                            exact ex_r1 Tb rfl (.tmp rfl) (fun wq hq => ⟨_, rfl, (hB6.back hq).ext, rfl⟩)
                          · skip
                            replace h := bf c16 h
                            have q11 := ltb_false.1 c16
                            refine cw_skip ?_
                            refine ex_block_normal ?_
                            refine ex_seq ?_
                            refine cw_region ?_
                            refine wl_u rfl (ow_y (yh_move rfl rfl) rfl rfl (kk_wl ?_))
                            refine wl_u rfl (ow_y (yh_arI rfl rfl rfl rfl (by omega)) rfl rfl (kk_wl ?_))
                            refine wl_u rfl (ow_y (yh_assign rfl rfl) rfl rfl (kk_wl ?_))
                            refine wl_nil ?_
                            exact ex_next [0, 1, 2, 3, 4, 5] (hn35 (n35, s15 + 1) (Nat.lt_succ_self _) h) ⟨rfl, rfl, rfl, rfl, rfl, rfl, rfl, rfl, rfl, trivial⟩ (by kernel_rfl)
                        · skip
                          replace h := bf c15 h
                          refine wd_skip (i := 10) [0, 1, 2, 3, 4, 5] rfl rfl rfl rfl (by kernel_rfl) (by kernel_rfl) (fun _ _ _ h => h) ?_
                          refine wd_skip (i := 11) [0, 1, 2, 3, 4, 5] rfl rfl rfl rfl (by kernel_rfl) (by kernel_rfl) (fun _ _ _ h => h) ?_
                          refine wd_skip (i := 12) [0, 1, 2, 3, 4, 5] rfl rfl rfl rfl (by kernel_rfl) (by kernel_rfl) (fun _ _ _ h => h) ?_
                          refine wd_skip (i := 13) [0, 1, 2, 3, 4, 5] rfl rfl rfl rfl (by kernel_rfl) (by kernel_rfl) (fun _ _ _ h => h) ?_
                          refine wd_skip (i := 14) [0, 1, 2, 3, 4, 5] rfl rfl rfl rfl (by kernel_rfl) (by kernel_rfl) (fun _ _ _ h => h) ?_
                          refine wd_skip (i := 15) [0, 1, 2, 3, 4, 5] rfl rfl rfl rfl (by kernel_rfl) (by kernel_rfl) (fun _ _ _ h => h) ?_
                          refine wd_skip (i := 16) [0, 1, 2, 3, 4, 5] rfl rfl rfl rfl (by kernel_rfl) (by kernel_rfl) (fun _ _ _ h => h) ?_
                          refine wd_offD 17 rfl rfl rfl rfl (by kernel_rfl) [0, 1, 2, 3, 4, 5] (fun _ => rfl) ?_
                          refine wd_skip (i := 18) [0, 1, 2, 3, 4, 5] rfl rfl rfl rfl (by kernel_rfl) (by kernel_rfl) (fun _ _ _ h => h) ?_
                          refine wd_take (i := 19) [0, 1, 2, 3, 4, 5] rfl rfl rfl rfl rfl (by kernel_rfl) (by kernel_rfl) (fun _ _ _ _ h => h) (yh_pickF rfl rfl rfl) ?_
                          refine wd_done (by kernel_rfl) ?_
                          refine ex_seq ?_
                          refine cw_false rfl ?_
                          refine cw_skip ?_
                          refine ex_block_normal ?_
                          refine ex_seq ?_
                          refine cw_region ?_
                          refine wl_u rfl (ow_y (yh_move rfl rfl) rfl rfl (kk_wl ?_))
                          refine wl_u rfl (ow_y (yh_arI rfl rfl rfl rfl (by omega)) rfl rfl (kk_wl ?_))
                          refine wl_u rfl (ow_y (yh_assign rfl rfl) rfl rfl (kk_wl ?_))
                          refine wl_nil ?_
                          exact ex_next [0, 1, 2, 3, 4, 5] (hn35 (n35, s15 + 1) (Nat.lt_succ_self _) h) ⟨rfl, rfl, rfl, rfl, rfl, rfl, rfl, rfl, rfl, trivial⟩ (by kernel_rfl)
                      · skip
                        replace h := bf c14 h
                        have q12 := ltb_false.1 c14
                        refine cw_exit ?_
                        refine ex_then_exit ?_
                        refine ex_then_exit ?_
                        obtain rfl := Option.some.inj h
                        have h := go_brk hk35
                        refine ex_block_exit ?_
                        refine ex_block_normal ?_
                        refine ex_seq ?_
                        refine cw_region ?_
                        refine wl_u rfl (ow_y (yh_move rfl rfl) rfl rfl (kk_wl ?_))
                        refine wl_u rfl (ow_y (yh_arI rfl rfl rfl rfl (by omega)) rfl rfl (kk_wl ?_))
                        refine wl_u rfl (ow_y (yh_assign rfl rfl) rfl rfl (kk_wl ?_))
                        refine wl_nil ?_
                        exact ex_nextB hb6_ [0, 1, 2, 3] (hn21 (n21, s11 + 1) (Nat.lt_succ_self _) h) ⟨rfl, rfl, rfl, rfl, rfl, rfl, trivial⟩ (by kernel_rfl)
              · skip
                replace h := bf c10 h
                have q13 := leb_false.1 c10
                refine cw_skip ?_
                refine ex_block_normal ?_
                refine ex_seq ?_
                refine cw_region ?_
                refine wl_u rfl (ow_y (yh_move rfl rfl) rfl rfl (kk_wl ?_))
                refine wl_u rfl (ow_y (yh_arI rfl rfl rfl rfl (by omega)) rfl rfl (kk_wl ?_))
                refine wl_u rfl (ow_y (yh_assign rfl rfl) rfl rfl (kk_wl ?_))
                refine wl_nil ?_
                exact ex_next [1, 2, 3, 4] (hn21 (n21, s11 + 1) (Nat.lt_succ_self _) h) ⟨rfl, rfl, rfl, rfl, rfl, rfl, trivial⟩ (by kernel_rfl)
            · skip
              replace h := bf c9 h
              have q14 := ltb_false.1 c9
              refine cw_exit ?_
              refine ex_then_exit ?_
              refine ex_then_exit ?_
              obtain rfl := Option.some.inj h
              have h := go_brk hk21
              refine ex_block_exit ?_
              refine ex_seq ?_
              refine cw_seq ?_
              refine cw_region ?_
              refine wl_u rfl (ow_y (yh_move rfl rfl) rfl rfl (kk_wl ?_))
              refine wl_u rfl (ow_y (yh_assign rfl rfl) rfl rfl (kk_wl ?_))
              refine wl_nil ?_
              refine ex_seq ?_
              refine cw_ret ?_
              obtain rfl := Option.some.inj h
              exact ex_r1 Tb rfl (.tmp rfl) (fun wq hq => ⟨_, rfl, (hB5.back hq).ext, rfl⟩)

def m_impl_FlowBehind_L17 (N : Nat) (y30 : Str) (y37 : Step) : Nat → (List Str) → Nat → Option (Ex (List Str × Nat) (List Str))
  | 0, _, _ => none
  | n + 1, s5, s41 => (bif ltb ((s41 : Nat) : Int) ((y37.after.length : Nat) : Int) then (y37.after[s41]?).bind fun y43 => (bif s5.any fun u => seq u y43 then m_impl_FlowBehind_L17 N y30 y37 n (addS s5 y30) (s41 + 1)
 else m_impl_FlowBehind_L17 N y30 y37 n s5 (s41 + 1))
 else some (Ex.brk (s5, s41)))

def m_impl_FlowBehind_L10 (N : Nat) (u0 : Flow) (x26 : List Str) : Nat → (List Str) → Nat → Option (Ex (List Str × Nat) (List Str))
  | 0, _, _ => none
  | n + 1, s5, s28 => (bif ltb ((s28 : Nat) : Int) ((x26.length : Nat) : Int) then (x26[s28]?).bind fun y30 => (m_impl_Flow_at N u0 y30).bind fun x36 => (geti u0.steps x36).bind fun y37 => (m_impl_FlowBehind_L17 N y30 y37 N s5 0).bind fun e17 => e17.go Ex.ret fun b17 => m_impl_FlowBehind_L10 N u0 x26 n b17.1 (s28 + 1)
 else some (Ex.brk (s5, s28)))

def m_impl_FlowBehind_L26 (N : Nat) (u1 : Str) (b10 : List Str × Nat) (x53 : List Str) : Nat → (List Str) → Nat → Option (Ex (List Str × Nat) (List Str))
  | 0, _, _ => none
  | n + 1, s10, s55 => (bif ltb ((s55 : Nat) : Int) ((x53.length : Nat) : Int) then (x53[s55]?).bind fun y57 => (bif b10.1.any fun u => seq u y57 then (bif !(seq y57 u1) then (appd s10 ([y57] : List Str)).bind fun l70 => m_impl_FlowBehind_L26 N u1 b10 x53 n (s10 ++ ([y57] : List Str)) (s55 + 1)
 else m_impl_FlowBehind_L26 N u1 b10 x53 n s10 (s55 + 1))
 else m_impl_FlowBehind_L26 N u1 b10 x53 n s10 (s55 + 1))
 else some (Ex.brk (s10, s55)))

def m_impl_FlowBehind (N : Nat) (u0 : Flow) (u1 : Str) : Option (List Str) := (m_impl_FlowValid N u0).bind fun x14 => (bif !x14 then some ([] : List Str)
 else (m_impl_Flow_at N u0 u1).bind fun x19 => (bif ltb x19 0 then some ([] : List Str)
 else (m_impl_Flow_order N u0).bind fun x26 => (m_impl_FlowBehind_L10 N u0 x26 N (addS ([] : List Str) u1) 0).bind fun e10 => e10.go (fun r => r) fun b10 => (m_impl_Flow_names N u0).bind fun x53 => (m_impl_FlowBehind_L26 N u1 b10 x53 N ([] : List Str) 0).bind fun e26 => e26.go (fun r => r) fun b26 => some b26.1))

set_option maxHeartbeats 4000000 in
theorem c_impl_FlowBehind (N : Nat) (u0 : Flow) (u1 : Str) (res : List Str) (h : m_impl_FlowBehind N u0 u1 = some res) (w : World) {a_u0_steps : Option Addr} {c_u0_steps : Nat} (h_u0_steps : stepsL.rd w [] [.slice a_u0_steps u0.steps.length c_u0_steps] u0.steps) : Ret Try.prog 14 [.agg #[.int .i64 u0.ver, .slice a_u0_steps u0.steps.length c_u0_steps], .string u1] w [] fun v w' => ∃ a1 c1 F1, v = .slice a1 res.length c1 ∧ NewC w w' [owC strsL F1 [.slice a1 res.length c1] res] := by
  have mh_u0_steps := rd_max h_u0_steps
  unfold m_impl_FlowBehind at h
  refine ret_enter Try.func14 rfl Try.ntmps14 rfl (Hp.refl w _) ?_
  refine cw_seq ?_
  refine cw_region ?_
  refine wl_u rfl (ow_boxA rfl rfl rfl rfl (fun g2 => kk_wl ?_))
  refine wl_u rfl (ow_y (yh_assign rfl rfl) rfl rfl (kk_wl ?_))
  refine wl_nil ?_
  refine ex_seq ?_
  refine cw_seq ?_
  refine cw_seq ?_
  refine cw_region ?_
  refine wl_u rfl (ow_y (yh_loadBA Tb (k := 0) rfl rfl rfl rfl rfl rfl) rfl rfl (kk_wl ?_))
  obtain ⟨x14, hx14, h⟩ := bd h
  refine wl_u rfl (ow_cV rfl hb28 rfl (fun w hw => c_impl_FlowValid N _ _ hx14 w (Lay.at_ h_u0_steps hw)) rfl rfl (kk_wl ?_))
  refine wl_u rfl (ow_y (yh_not rfl rfl) rfl rfl (kk_wl ?_))
  refine wl_u rfl (ow_y (yh_move rfl rfl) rfl rfl (kk_wl ?_))
  refine wl_s rfl rfl (fun c1 => ?_) (fun c1 => ?_)
  · skip
    replace h := bt c1 h
    refine wl_n rfl rfl rfl rfl ?_
    refine wl_n rfl rfl rfl rfl ?_
    refine wl_n rfl rfl rfl rfl ?_
    refine wl_n rfl rfl rfl rfl ?_
    refine wl_u rfl (ow_y (yh_pickT rfl rfl rfl) rfl rfl (kk_wl ?_))
    refine wl_nil ?_
    refine ex_seq ?_
    refine cw_true rfl ?_
    refine cw_seq ?_
    refine cw_region ?_
    refine wl_u rfl (ow_y (yh_assign rfl rfl) rfl rfl (kk_wl ?_))
    refine wl_nil ?_
    refine ex_seq ?_
    refine cw_ret ?_
    refine ex_then_ret ?_
    refine ex_nilS strsL rfl ?_
    obtain rfl := Option.some.inj h
    exact ex_r1 Tb rfl (.tmp rfl) (fun wq hq => ⟨_, rfl, hq.ext, ⟨none, 0, [], rfl, NewC.sel [0] hq rfl⟩⟩)
  · skip
    replace h := bf c1 h
    refine wl_g rfl rfl (ow_y (yh_loadBA Tb (k := 0) rfl rfl rfl rfl rfl rfl) rfl rfl (kk_wl ?_))
    refine wl_g rfl rfl (ow_y (yh_move rfl rfl) rfl rfl (kk_wl ?_))
    obtain ⟨x19, hx19, h⟩ := bd h
    refine wl_g rfl rfl (ow_cV rfl hb30 rfl (fun w hw => c_impl_Flow_at N _ _ _ hx19 w (Lay.at_ h_u0_steps hw)) rfl rfl (kk_wl ?_))
    refine wl_g rfl rfl (ow_y (yh_cmpI rfl rfl rfl rfl) rfl rfl (kk_wl ?_))
    refine wl_u rfl (ow_y (yh_pickF rfl rfl rfl) rfl rfl (kk_wl ?_))
    refine wl_nil ?_
    refine ex_seq ?_
    refine cw_split rfl (fun c2 => ?_) (fun c2 => ?_)
    · skip
      replace h := bt c2 h
      have q1 := ltb_true.1 c2
      refine cw_seq ?_
      refine cw_region ?_
      refine wl_u rfl (ow_y (yh_assign rfl rfl) rfl rfl (kk_wl ?_))
      refine wl_nil ?_
      refine ex_seq ?_
      refine cw_ret ?_
      refine ex_then_ret ?_
      refine ex_nilS strsL rfl ?_
      obtain rfl := Option.some.inj h
      exact ex_r1 Tb rfl (.tmp rfl) (fun wq hq => ⟨_, rfl, hq.ext, ⟨none, 0, [], rfl, NewC.sel [0] hq rfl⟩⟩)
    · skip
      replace h := bf c2 h
      have q2 := ltb_false.1 c2
      refine cw_skip ?_
      refine ex_seq ?_
      refine cw_seq ?_
      refine cw_region ?_
      refine wl_u rfl (ow_mkmap rfl rfl rfl (fun r22 => kk_wl ?_))
      refine wl_u rfl (ow_y (yh_move rfl rfl) rfl rfl (kk_wl ?_))
      refine wl_u rfl (ow_insert rfl (ow_putSetA (i := 0) rfl rfl rfl rfl rfl (by kernel_rfl) rfl (kk_wl ?_)))
      refine wl_u rfl (ow_y (yh_move rfl rfl) rfl rfl (kk_wl ?_))
      refine wl_u rfl (ow_y (yh_assign rfl rfl) rfl rfl (kk_wl ?_))
      refine wl_nil ?_
      refine ex_seq ?_
      refine cw_seq ?_
      refine cw_seq ?_
      refine cw_region ?_
      refine wl_u rfl (ow_y (yh_loadBA Tb (k := 1) rfl rfl rfl rfl rfl rfl) rfl rfl (kk_wl ?_))
      obtain ⟨x26, hx26, h⟩ := bd h
      refine wl_u rfl (ow_cN1 rfl hb43 rfl (fun w hw => c_impl_Flow_order N _ _ hx26 w (Lay.at_ h_u0_steps hw)) rfl rfl (fun a26 c26 F26 => kk_wl ?_))
      refine wl_know (x26.length ≤ 9223372036854775807) (fun w hw => own_max 0 rfl hw) (fun mo27 => ?_)
      refine wl_u rfl (ow_y (yh_lenS Tb rfl rfl rfl rfl) rfl rfl (kk_wl ?_))
      refine wl_u rfl (ow_y (yh_move rfl rfl) rfl rfl (kk_wl ?_))
      refine wl_nil ?_
      refine ex_seq ?_
      refine cw_block ?_
      obtain ⟨e10, he10, hk10⟩ := bd h
      clear h
      refine cw_loopG (σ := Nat × (List Str) × Nat) (fun s => m_impl_FlowBehind_L10 N u0 x26 s.1 s.2.1 s.2.2 = some e10) (fun s => [(1, .string u1), (2, .pointer (some ⟨g2, 0, none⟩)), (5, .map (some r22)), (26, .slice a26 x26.length c26), (27, .int .i64 ((x26.length : Nat) : Int)), (28, .int .i64 ((s.2.2 : Nat) : Int))]) (fun s => [blkC g2 25 [.int .i64 u0.ver, .slice a_u0_steps u0.steps.length c_u0_steps], mapC r22 s.2.1, owC strsL F26 [.slice a26 x26.length c26] x26]) (fun s => s.1) (N, (addS ([] : List Str) u1), 0) [2, 1, 0] he10 ⟨rfl, rfl, rfl, rfl, rfl, rfl, trivial⟩ rfl (fun KL s he10 hn10 => ?_)
      obtain ⟨n10, s5, s28⟩ := s
      simp only at he10 hn10 ⊢
      rcases n10 with _ | n10
      · exact nosome he10
      have h := he10; rw [m_impl_FlowBehind_L10] at h
      refine cw_seq ?_
      refine cw_region ?_
      refine wl_u rfl (ow_y (yh_cmpI rfl rfl rfl rfl) rfl rfl (kk_wl ?_))
      refine wl_nil ?_
      refine ex_seq ?_
      refine cw_seq ?_
      refine cw_split rfl (fun c3 => ?_) (fun c3 => ?_)
      · skip
        replace h := bt c3 h
        have q3 := ltb_true.1 c3
        refine cw_skip ?_
        refine ex_seq ?_
        refine cw_seq ?_
        refine cw_block ?_
        refine cw_seq ?_
        refine cw_region ?_
        obtain ⟨y30, hy30, h⟩ := bd h
        refine wl_ex (fun g => a26 = some ⟨g, 0, none⟩) (fun w hw => by exact own_addrK 2 rfl hy30 hw) (fun g30 hg30 => ?_)
        subst hg30
        refine wl_u rfl (ow_y (yh_idx Tb (k := s28) rfl rfl rfl rfl (get_lt hy30) rfl rfl) rfl rfl (kk_wl ?_))
        refine wl_u rfl (ow_y (yh_loadO0 Tb 2 rfl rfl rfl rfl rfl hy30 rfl) rfl rfl (kk_wl ?_))
        refine wl_u rfl (ow_y (yh_assign rfl rfl) rfl rfl (kk_wl ?_))
        refine wl_nil ?_
        refine ex_seq ?_
        refine cw_seq ?_
        refine cw_dr [0, 1, 2, 3, 5, 6, 7, 8, 9] [] [blkC g2 25 [.int .i64 u0.ver, .slice a_u0_steps u0.steps.length c_u0_steps], mapC r22 s5, owC strsL F26 [.slice (some ⟨g30, 0, none⟩) x26.length c26] x26] (by kernel_rfl) ?_
        refine wd_take (i := 0) [0, 1, 2] rfl rfl rfl rfl rfl (by kernel_rfl) (by kernel_rfl) (fun _ _ _ _ h => h) (yh_field Tb rfl rfl rfl) ?_
        refine wd_take (i := 1) [0, 1, 2] rfl rfl rfl rfl rfl (by kernel_rfl) (by kernel_rfl) (fun _ _ _ _ h => h) (yh_loadB Tb (k := 0) rfl rfl rfl rfl rfl) ?_
        refine wd_take (i := 2) [0, 1, 2] rfl rfl rfl rfl rfl (by kernel_rfl) (by kernel_rfl) (fun _ _ _ _ h => h) (yh_loadBA Tb (k := 0) rfl rfl rfl rfl rfl rfl) ?_
        refine wd_take (i := 3) [0, 1, 2] rfl rfl rfl rfl rfl (by kernel_rfl) (by kernel_rfl) (fun _ _ _ _ h => h) (yh_move rfl rfl) ?_
        refine wd_take (i := 9) [0, 1, 2] rfl rfl rfl rfl rfl (by kernel_rfl) (by kernel_rfl) (fun _ _ _ _ h => h) (yh_move rfl rfl) ?_
        obtain ⟨x36, hx36, h⟩ := bd h
        refine wd_one 4 rfl rfl (by kernel_rfl) (ow_cV rfl hb30 rfl (fun w hw => c_impl_Flow_at N _ _ _ hx36 w (Lay.at_ h_u0_steps hw)) rfl rfl (kk_wd [0, 1, 2] (by kernel_rfl) ?_))
        obtain ⟨y37, zy37, h⟩ := bd h
        obtain ⟨iy37, hy37⟩ := geti_some zy37
        obtain ⟨b37, o37, ha37⟩ := sl_addr h_u0_steps hy37
        subst ha37
        obtain ⟨a37, e37, hc37, hf37⟩ := get_step h_u0_steps hy37
        have mx37 := rd_max hf37
        refine wd_take (i := 5) [0, 1, 2] rfl rfl rfl rfl rfl (by kernel_rfl) (by kernel_rfl) (fun _ _ _ _ h => h) (yh_idx Tb (k := x36.toNat) rfl rfl rfl iy37 (get_lt hy37) rfl rfl) ?_
        refine wd_take (i := 6) [0, 1, 2] rfl rfl rfl rfl rfl (by kernel_rfl) (by kernel_rfl) (fun _ _ _ _ h => h) (yh_field Tb rfl rfl rfl) ?_
        refine wd_take (i := 7) [0, 1, 2] rfl rfl rfl rfl rfl (by kernel_rfl) (by kernel_rfl) (fun _ _ _ _ h => h) (yh_loadAF Tb (j := 1) rfl rfl rfl hc37 rfl) ?_
        refine wd_take (i := 8) [0, 1, 2] rfl rfl rfl rfl rfl (by kernel_rfl) (by kernel_rfl) (fun _ _ _ _ h => h) (yh_lenS Tb rfl rfl rfl rfl) ?_
        refine wd_done (by kernel_rfl) ?_
        refine ex_seq ?_
        refine cw_block ?_
        obtain ⟨e17, he17, hk17⟩ := bd h
        clear h
        refine cw_loopG (σ := Nat × (List Str) × Nat) (fun s => m_impl_FlowBehind_L17 N y30 y37 s.1 s.2.1 s.2.2 = some e17) (fun s => [(1, .string u1), (2, .pointer (some ⟨g2, 0, none⟩)), (5, .map (some r22)), (7, .string y30), (26, .slice (some ⟨g30, 0, none⟩) x26.length c26), (27, .int .i64 ((x26.length : Nat) : Int)), (28, .int .i64 ((s28 : Nat) : Int)), (39, .slice a37 y37.after.length e37), (40, .int .i64 ((y37.after.length : Nat) : Int)), (41, .int .i64 ((s.2.2 : Nat) : Int))]) (fun s => [blkC g2 25 [.int .i64 u0.ver, .slice (some ⟨b37, o37, none⟩) u0.steps.length c_u0_steps], mapC r22 s.2.1, owC strsL F26 [.slice (some ⟨g30, 0, none⟩) x26.length c26] x26]) (fun s => s.1) (N, s5, 0) [0, 1, 2] he17 ⟨rfl, rfl, rfl, rfl, rfl, rfl, rfl, rfl, rfl, rfl, trivial⟩ rfl (fun KL s he17 hn17 => ?_)
        obtain ⟨n17, s5, s41⟩ := s
        simp only at he17 hn17 ⊢
        rcases n17 with _ | n17
        · exact nosome he17
        have h := he17; rw [m_impl_FlowBehind_L17] at h
        refine cw_seq ?_
        refine cw_region ?_
        refine wl_u rfl (ow_y (yh_cmpI rfl rfl rfl rfl) rfl rfl (kk_wl ?_))
        refine wl_nil ?_
        refine ex_seq ?_
        refine cw_seq ?_
        refine cw_split rfl (fun c4 => ?_) (fun c4 => ?_)
        · skip
          replace h := bt c4 h
          have q4 := ltb_true.1 c4
          refine cw_skip ?_
          refine ex_seq ?_
          refine cw_seq ?_
          refine cw_block ?_
          refine cw_seq ?_
          refine cw_region ?_
          obtain ⟨y43, hy43, h⟩ := bd h
          obtain ⟨b43, o43, ha43⟩ := sl_addr hf37 hy43
          subst ha43
          have hc43 := get_str hf37 hy43
          refine wl_u rfl (ow_y (yh_idx Tb (k := s41) rfl rfl rfl rfl (get_lt hy43) rfl rfl) rfl rfl (kk_wl ?_))
          refine wl_u rfl (ow_y (yh_loadA0 Tb rfl rfl rfl hc43 rfl) rfl rfl (kk_wl ?_))
          refine wl_u rfl (ow_y (yh_assign rfl rfl) rfl rfl (kk_wl ?_))
          refine wl_nil ?_
          refine ex_seq ?_
          refine cw_seq ?_
          refine cw_region ?_
          refine wl_u rfl (ow_y (yh_move rfl rfl) rfl rfl (kk_wl ?_))
          refine wl_u rfl (ow_y (yh_move rfl rfl) rfl rfl (kk_wl ?_))
          refine wl_u rfl (ow_y (yh_lookSet (i := 1) rfl rfl rfl rfl (by kernel_rfl)) rfl rfl (kk_wl ?_))
          refine wl_nil ?_
          refine ex_seq ?_
          refine cw_split rfl (fun c5 => ?_) (fun c5 => ?_)
          · skip
            replace h := bt c5 h
            refine cw_region ?_
            refine wl_u rfl (ow_y (yh_move rfl rfl) rfl rfl (kk_wl ?_))
            refine wl_u rfl (ow_y (yh_move rfl rfl) rfl rfl (kk_wl ?_))
            refine wl_u rfl (ow_putSetA (i := 1) rfl rfl rfl rfl rfl (by kernel_rfl) rfl (kk_wl ?_))
            refine wl_nil ?_
            refine ex_block_normal ?_
            refine ex_seq ?_
            refine cw_region ?_
            refine wl_u rfl (ow_y (yh_arI rfl rfl rfl rfl (by omega)) rfl rfl (kk_wl ?_))
            refine wl_u rfl (ow_y (yh_move rfl rfl) rfl rfl (kk_wl ?_))
            refine wl_nil ?_
            exact ex_next [1, 0, 2] (hn17 (n17, (addS s5 y30), s41 + 1) (Nat.lt_succ_self _) h) ⟨rfl, rfl, rfl, rfl, rfl, rfl, rfl, rfl, rfl, rfl, trivial⟩ (by kernel_rfl)
          · skip
            replace h := bf c5 h
            refine cw_skip ?_
            refine ex_block_normal ?_
            refine ex_seq ?_
            refine cw_region ?_
            refine wl_u rfl (ow_y (yh_arI rfl rfl rfl rfl (by omega)) rfl rfl (kk_wl ?_))
            refine wl_u rfl (ow_y (yh_move rfl rfl) rfl rfl (kk_wl ?_))
            refine wl_nil ?_
            exact ex_next [0, 1, 2] (hn17 (n17, s5, s41 + 1) (Nat.lt_succ_self _) h) ⟨rfl, rfl, rfl, rfl, rfl, rfl, rfl, rfl, rfl, rfl, trivial⟩ (by kernel_rfl)
        · skip
          replace h := bf c4 h
          have q5 := ltb_false.1 c4
          refine cw_exit ?_
          refine ex_then_exit ?_
          refine ex_then_exit ?_
          obtain rfl := Option.some.inj h
          have h := go_brk hk17
          refine ex_block_exit ?_
          refine ex_block_normal ?_
          refine ex_seq ?_
          refine cw_region ?_
          refine wl_u rfl (ow_y (yh_arI rfl rfl rfl rfl (by omega)) rfl rfl (kk_wl ?_))
          refine wl_u rfl (ow_y (yh_move rfl rfl) rfl rfl (kk_wl ?_))
          refine wl_nil ?_
          exact ex_next [0, 1, 2] (hn10 (n10, s5, s28 + 1) (Nat.lt_succ_self _) h) ⟨rfl, rfl, rfl, rfl, rfl, rfl, trivial⟩ (by kernel_rfl)
      · skip
        replace h := bf c3 h
        have q6 := ltb_false.1 c3
        refine cw_exit ?_
        refine ex_then_exit ?_
        refine ex_then_exit ?_
        obtain rfl := Option.some.inj h
        have h := go_brk hk10
        refine ex_block_exit ?_
        refine ex_seq ?_
        refine cw_seq ?_
        refine cw_region ?_
        refine wl_u rfl (ow_y (yh_assign rfl rfl) rfl rfl (kk_wl ?_))
        refine wl_nil ?_
        refine ex_seq ?_
        refine cw_seq ?_
        refine cw_seq ?_
        refine cw_region ?_
        refine wl_u rfl (ow_y (yh_loadBA Tb (k := 0) rfl rfl rfl rfl rfl rfl) rfl rfl (kk_wl ?_))
        obtain ⟨x53, hx53, h⟩ := bd h
        refine wl_u rfl (ow_cN1 rfl hb44 rfl (fun w hw => c_impl_Flow_names N _ _ hx53 w (Lay.at_ h_u0_steps hw)) rfl rfl (fun a53 c53 F53 => kk_wl ?_))
        refine wl_know (x53.length ≤ 9223372036854775807) (fun w hw => own_max 0 rfl hw) (fun mo54 => ?_)
        refine wl_u rfl (ow_y (yh_lenS Tb rfl rfl rfl rfl) rfl rfl (kk_wl ?_))
        refine wl_u rfl (ow_y (yh_move rfl rfl) rfl rfl (kk_wl ?_))
        refine wl_nil ?_
        refine ex_seq ?_
        refine cw_block ?_
        obtain ⟨e26, he26, hk26⟩ := bd h
        clear h
        refine cw_nilS strsL rfl ?_
        refine cw_loopG (σ := Nat × (List Str) × Nat × (Option Addr) × Nat × (List Nat)) (fun s => m_impl_FlowBehind_L26 N u1 (s5, s28) x53 s.1 s.2.1 s.2.2.1 = some e26) (fun s => [(1, .string u1), (5, .map (some r22)), (10, .slice s.2.2.2.1 s.2.1.length s.2.2.2.2.1), (53, .slice a53 x53.length c53), (54, .int .i64 ((x53.length : Nat) : Int)), (55, .int .i64 ((s.2.2.1 : Nat) : Int))]) (fun s => [mapC r22 s5, owC strsL s.2.2.2.2.2 [.slice s.2.2.2.1 s.2.1.length s.2.2.2.2.1] s.2.1, owC strsL F53 [.slice a53 x53.length c53] x53]) (fun s => s.1) (N, ([] : List Str), 0, none, 0, []) [3, 0, 1] he26 ⟨rfl, rfl, rfl, rfl, rfl, rfl, trivial⟩ rfl (fun KL s he26 hn26 => ?_)
        obtain ⟨n26, s10, s55, as10, cs10, Fs10⟩ := s
        simp only at he26 hn26 ⊢
        rcases n26 with _ | n26
        · exact nosome he26
        have h := he26; rw [m_impl_FlowBehind_L26] at h
        refine cw_seq ?_
        refine cw_region ?_
        refine wl_u rfl (ow_y (yh_cmpI rfl rfl rfl rfl) rfl rfl (kk_wl ?_))
        refine wl_nil ?_
        refine ex_seq ?_
        refine cw_seq ?_
        refine cw_split rfl (fun c6 => ?_) (fun c6 => ?_)
        · skip
          replace h := bt c6 h
          have q7 := ltb_true.1 c6
          refine cw_skip ?_
          refine ex_seq ?_
          refine cw_seq ?_
          refine cw_block ?_
          refine cw_seq ?_
          refine cw_region ?_
          obtain ⟨y57, hy57, h⟩ := bd h
          refine wl_ex (fun g => a53 = some ⟨g, 0, none⟩) (fun w hw => by exact own_addrK 2 rfl hy57 hw) (fun g57 hg57 => ?_)
          subst hg57
          refine wl_u rfl (ow_y (yh_idx Tb (k := s55) rfl rfl rfl rfl (get_lt hy57) rfl rfl) rfl rfl (kk_wl ?_))
          refine wl_u rfl (ow_y (yh_loadO0 Tb 2 rfl rfl rfl rfl rfl hy57 rfl) rfl rfl (kk_wl ?_))
          refine wl_u rfl (ow_y (yh_assign rfl rfl) rfl rfl (kk_wl ?_))
          refine wl_nil ?_
          refine ex_seq ?_
          refine cw_seq ?_
          refine cw_region ?_
          refine wl_u rfl (ow_y (yh_move rfl rfl) rfl rfl (kk_wl ?_))
          refine wl_u rfl (ow_y (yh_move rfl rfl) rfl rfl (kk_wl ?_))
          refine wl_u rfl (ow_y (yh_lookSet (i := 0) rfl rfl rfl rfl (by kernel_rfl)) rfl rfl (kk_wl ?_))
          refine wl_u rfl (ow_y (yh_move rfl rfl) rfl rfl (kk_wl ?_))
          refine wl_s rfl rfl (fun c7 => ?_) (fun c7 => ?_)
          · skip
            replace h := bt c7 h
            refine wl_g rfl rfl (ow_y (yh_move rfl rfl) rfl rfl (kk_wl ?_))
            refine wl_g rfl rfl (ow_y (yh_move rfl rfl) rfl rfl (kk_wl ?_))
            refine wl_g rfl rfl (ow_y (yh_cmpS rfl rfl rfl rfl) rfl rfl (kk_wl ?_))
            refine wl_u rfl (ow_y (yh_pickT rfl rfl rfl) rfl rfl (kk_wl ?_))
            refine wl_nil ?_
            refine ex_seq ?_
            refine cw_split rfl (fun c8 => ?_) (fun c8 => ?_)
            · skip
              replace h := bt c8 h
              refine cw_region ?_
              refine wl_u rfl (ow_y (yh_move rfl rfl) rfl rfl (kk_wl ?_))
              refine wl_u rfl (ow_y (yh_move rfl rfl) rfl rfl (kk_wl ?_))
              refine wl_u rfl (ow_lit1 Tb rfl rfl rfl rfl rfl rfl rfl rfl rfl rfl (fun g69 => kk_chg (c' := owC strsL [g69] [.slice (some ⟨g69, 0, none⟩) 1 1] ([y57] : List Str)) 0 rfl (fun w hA => own_strsL ([y57] : List Str) hA rfl (by simp [maxLen])) rfl (kk_wl ?_)))
              obtain ⟨hll70, h⟩ := bd_appd h
              refine wl_u rfl (ow_appP Tb (i := 2) rfl rfl rfl rfl rfl (fun w hw => rdo (A := strsL) 0 rfl hw) rfl rfl rfl rfl hll70 (by decide) rfl rfl (fun a70 c70 F70 => kk_wl ?_))
              refine wl_u rfl (ow_y (yh_assign rfl rfl) rfl rfl (kk_wl ?_))
              refine wl_nil ?_
              refine ex_block_normal ?_
              refine ex_seq ?_
              refine cw_region ?_
              refine wl_u rfl (ow_y (yh_arI rfl rfl rfl rfl (by omega)) rfl rfl (kk_wl ?_))
              refine wl_u rfl (ow_y (yh_move rfl rfl) rfl rfl (kk_wl ?_))
              refine wl_nil ?_
              exact ex_next [2, 0, 3] (hn26 (n26, (s10 ++ ([y57] : List Str)), s55 + 1, a70, c70, F70) (Nat.lt_succ_self _) h) ⟨rfl, rfl, rfl, rfl, rfl, rfl, trivial⟩ (by kernel_rfl)
            · skip
              replace h := bf c8 h
              refine cw_skip ?_
              refine ex_block_normal ?_
              refine ex_seq ?_
              refine cw_region ?_
              refine wl_u rfl (ow_y (yh_arI rfl rfl rfl rfl (by omega)) rfl rfl (kk_wl ?_))
              refine wl_u rfl (ow_y (yh_move rfl rfl) rfl rfl (kk_wl ?_))
              refine wl_nil ?_
              exact ex_next [0, 1, 2] (hn26 (n26, s10, s55 + 1, as10, cs10, Fs10) (Nat.lt_succ_self _) h) ⟨rfl, rfl, rfl, rfl, rfl, rfl, trivial⟩ (by kernel_rfl)
          · skip
            replace h := bf c7 h
            refine wl_n rfl rfl rfl rfl ?_
            refine wl_n rfl rfl rfl rfl ?_
            refine wl_n rfl rfl rfl rfl ?_
            refine wl_u rfl (ow_y (yh_pickF rfl rfl rfl) rfl rfl (kk_wl ?_))
            refine wl_nil ?_
            refine ex_seq ?_
            refine cw_false rfl ?_
            refine cw_skip ?_
            refine ex_block_normal ?_
            refine ex_seq ?_
            refine cw_region ?_
            refine wl_u rfl (ow_y (yh_arI rfl rfl rfl rfl (by omega)) rfl rfl (kk_wl ?_))
            refine wl_u rfl (ow_y (yh_move rfl rfl) rfl rfl (kk_wl ?_))
            refine wl_nil ?_
            exact ex_next [0, 1, 2] (hn26 (n26, s10, s55 + 1, as10, cs10, Fs10) (Nat.lt_succ_self _) h) ⟨rfl, rfl, rfl, rfl, rfl, rfl, trivial⟩ (by kernel_rfl)
        · skip
          replace h := bf c6 h
          have q8 := ltb_false.1 c6
          refine cw_exit ?_
          refine ex_then_exit ?_
          refine ex_then_exit ?_
          obtain rfl := Option.some.inj h
          have h := go_brk hk26
          refine ex_block_exit ?_
          refine ex_seq ?_
          refine cw_seq ?_
          refine cw_region ?_
          refine wl_u rfl (ow_y (yh_move rfl rfl) rfl rfl (kk_wl ?_))
          refine wl_u rfl (ow_y (yh_assign rfl rfl) rfl rfl (kk_wl ?_))
          refine wl_nil ?_
          refine ex_seq ?_
          refine cw_ret ?_
          obtain rfl := Option.some.inj h
          exact ex_r1 Tb rfl (.tmp rfl) (fun wq hq => ⟨_, rfl, hq.ext, ⟨as10, cs10, Fs10, rfl, NewC.sel [1] hq rfl⟩⟩)

def m_laws_FnChangeBehind_L32 (N : Nat) (x18 : Flow × Change) (x72 : List Str) : Nat → (List Str) → Nat → Option (Ex (List Str × Nat) (Bool))
  | 0, _, _ => none
  | n + 1, s10, s12 => (bif ltb ((s12 : Nat) : Int) ((x72.length : Nat) : Int) then (x72[s12]?).bind fun y81 => (bif !(seq y81 x18.2.step.name) then (appd s10 ([y81] : List Str)).bind fun l93 => m_laws_FnChangeBehind_L32 N x18 x72 n (s10 ++ ([y81] : List Str)) (s12 + 1)
 else m_laws_FnChangeBehind_L32 N x18 x72 n s10 (s12 + 1))
 else some (Ex.brk (s10, s12)))

def m_laws_FnChangeBehind_L22 (N : Nat) (x18 : Flow × Change) (x24 : Flow × Bool) : Nat → Nat → Option (Ex (Nat) (Bool))
  | 0, _ => none
  | n + 1, s9 => (bif ltb ((s9 : Nat) : Int) ((x24.1.steps.length : Nat) : Int) then (x24.1.steps[s9]?).bind fun y69 => (m_impl_FlowBehind N x18.1 y69.name).bind fun x72 => (m_laws_FnChangeBehind_L32 N x18 x72 N ([] : List Str) 0).bind fun e32 => e32.go Ex.ret fun b32 => (m_impl_FlowBehind N x24.1 y69.name).bind fun x102 => (m_laws_sameTexts N b32.1 x102).bind fun x103 => (bif !x103 then some (Ex.ret false)
 else m_laws_FnChangeBehind_L22 N x18 x24 n (s9 + 1))
 else some (Ex.brk (s9)))

def m_laws_FnChangeBehind (N : Nat) (u0 : List UInt8) : Option (Bool) := (bif ltb 1048576 ((u0.length : Nat) : Int) then some true
 else (m_spec_DrawFlowChange N u0).bind fun x18 => (m_impl_FlowChange N x18.1 x18.2).bind fun x24 => (m_spec_FlowChange N x18.1 x18.2).bind fun x30 => (bif x24.2 != x30.2 then (bif x24.2 == x30.2 then (m_laws_sameFlow N x24.1 x30.1).bind fun x52 => some x52
 else some false)
 else (m_laws_sameFlow N x24.1 x30.1).bind fun x39 => (bif !x39 then (bif x24.2 == x30.2 then (m_laws_sameFlow N x24.1 x30.1).bind fun x52 => some x52
 else some false)
 else (bif !x24.2 then (bif x24.2 == x30.2 then (m_laws_sameFlow N x24.1 x30.1).bind fun x52 => some x52
 else some false)
 else (bif !(eqb x18.2.kind 2) then some true
 else (m_laws_FnChangeBehind_L22 N x18 x24 N 0).bind fun e22 => e22.go (fun r => r) fun b22 => some true)))))

set_option maxHeartbeats 4000000 in
theorem c_laws_FnChangeBehind (N : Nat) (u0 : List UInt8) (res : Bool) (h : m_laws_FnChangeBehind N u0 = some res) (w : World) {a_u0 : Option Addr} {c_u0 : Nat} (h_u0 : bytesL.rd w [] [.slice a_u0 u0.length c_u0] u0) : Ret Try.prog 4 [.slice a_u0 u0.length c_u0] w [] fun v w' => v = .bool res := by
  have mh_u0 := rd_max h_u0
  unfold m_laws_FnChangeBehind at h
  refine ret_enter Try.func4 rfl Try.ntmps4 rfl (Hp.refl w _) ?_
  refine cw_seq ?_
  refine cw_region ?_
  refine wl_u rfl (ow_y (yh_assign rfl rfl) rfl rfl (kk_wl ?_))
  refine wl_nil ?_
  refine ex_seq ?_
  refine cw_seq ?_
  refine cw_seq ?_
  refine cw_region ?_
  refine wl_u rfl (ow_y (yh_move rfl rfl) rfl rfl (kk_wl ?_))
  refine wl_u rfl (ow_y (yh_lenS Tb rfl rfl rfl rfl) rfl rfl (kk_wl ?_))
  refine wl_u rfl (ow_y (yh_cmpI rfl rfl rfl rfl) rfl rfl (kk_wl ?_))
  refine wl_nil ?_
  refine ex_seq ?_
  refine cw_split rfl (fun c1 => ?_) (fun c1 => ?_)
  · skip
    replace h := bt c1 h
    have q1 := ltb_true.1 c1
    refine cw_seq ?_
    refine cw_region ?_
    refine wl_u rfl (ow_y (yh_assign rfl rfl) rfl rfl (kk_wl ?_))
    refine wl_nil ?_
    refine ex_seq ?_
    refine cw_ret ?_
    refine ex_then_ret ?_
    obtain rfl := Option.some.inj h
    exact ex_r1 Tb rfl (.tmp rfl) (fun wq hq => ⟨_, rfl, hq.ext, rfl⟩)
  · skip
    replace h := bf c1 h
    have q2 := ltb_false.1 c1
    refine cw_skip ?_
    refine ex_seq ?_
    refine cw_seq ?_
    refine cw_region ?_
    refine wl_u rfl (ow_y (yh_move rfl rfl) rfl rfl (kk_wl ?_))
    obtain ⟨x18, hx18, h⟩ := bd h
    refine wl_u rfl (ow_cN2 rfl hb7 rfl (fun w hw => c_spec_DrawFlowChange N _ _ hx18 w (Lay.at_ h_u0 hw)) rfl rfl (fun a18 c18 F18 a18_2 c18_2 F18_2 => kk_wl ?_))
    refine wl_u rfl (ow_y (yh_move rfl rfl) rfl rfl (kk_wl ?_))
    refine wl_u rfl (ow_y (yh_extract rfl rfl rfl) rfl rfl (kk_wl ?_))
    refine wl_u rfl (ow_y (yh_extract rfl rfl rfl) rfl rfl (kk_wl ?_))
    refine wl_u rfl (ow_allocA Tb rfl rfl rfl rfl (fun g3 => kk_wl ?_))
    refine wl_u rfl (ow_allocA Tb rfl rfl rfl rfl (fun g4 => kk_wl ?_))
    refine wl_u rfl (ow_storeA Tb (k := 1) rfl rfl rfl rfl rfl rfl rfl rfl rfl (kk_wl ?_))
    refine wl_u rfl (ow_storeA Tb (k := 1) rfl rfl rfl rfl rfl rfl rfl rfl rfl (kk_wl ?_))
    refine wl_nil ?_
    refine ex_seq ?_
    refine cw_seq ?_
    refine cw_freeze 2 rfl (fun w1 M1 hb1_ hz1 => ?_)
    replace h_u0 := Lay.rb h_u0 hb1_
    have hB1 := hb1_
    have mz1 := rd_max hz1
    refine cw_freeze 2 rfl (fun w2 M2 hb2_ hz2 => ?_)
    replace h_u0 := Lay.rb h_u0 hb2_
    replace hz1 := Lay.rb hz1 hb2_
    have hB2 := hB1.trans hb2_
    have mz2 := rd_max hz2
    refine cw_region ?_
    refine wl_u rfl (ow_y (yh_loadBA Tb (k := 1) rfl rfl rfl rfl rfl rfl) rfl rfl (kk_wl ?_))
    refine wl_u rfl (ow_y (yh_loadBA Tb (k := 0) rfl rfl rfl rfl rfl rfl) rfl rfl (kk_wl ?_))
    obtain ⟨x24, hx24, h⟩ := bd h
    refine wl_u rfl (ow_cN1 rfl hb8 rfl (fun w hw => c_impl_FlowChange N _ _ _ hx24 w (Lay.at_ hz1 hw) (Lay.at_ hz2 hw)) rfl rfl (fun a24 c24 F24 => kk_wl ?_))
    refine wl_u rfl (ow_y (yh_move rfl rfl) rfl rfl (kk_wl ?_))
    refine wl_u rfl (ow_y (yh_extract rfl rfl rfl) rfl rfl (kk_wl ?_))
    refine wl_u rfl (ow_y (yh_extract rfl rfl rfl) rfl rfl (kk_wl ?_))
    refine wl_u rfl (ow_allocA Tb rfl rfl rfl rfl (fun g5 => kk_wl ?_))
    refine wl_u rfl (ow_storeA Tb (k := 0) rfl rfl rfl rfl rfl rfl rfl rfl rfl (kk_wl ?_))
    refine wl_u rfl (ow_y (yh_assign rfl rfl) rfl rfl (kk_wl ?_))
    refine wl_nil ?_
    refine ex_seq ?_
    refine cw_seq ?_
    refine cw_freeze 1 rfl (fun w3 M3 hb3_ hz3 => ?_)
    replace h_u0 := Lay.rb h_u0 hb3_
    replace hz1 := Lay.rb hz1 hb3_
    replace hz2 := Lay.rb hz2 hb3_
    have hB3 := hB2.trans hb3_
    have mz3 := rd_max hz3
    refine cw_region ?_
    refine wl_u rfl (ow_y (yh_loadBA Tb (k := 2) rfl rfl rfl rfl rfl rfl) rfl rfl (kk_wl ?_))
    refine wl_u rfl (ow_y (yh_loadBA Tb (k := 1) rfl rfl rfl rfl rfl rfl) rfl rfl (kk_wl ?_))
    obtain ⟨x30, hx30, h⟩ := bd h
    refine wl_u rfl (ow_cN1 rfl hb9 rfl (fun w hw => c_spec_FlowChange N _ _ _ hx30 w (Lay.at_ hz1 hw) (Lay.at_ hz2 hw)) rfl rfl (fun a30 c30 F30 => kk_wl ?_))
    refine wl_u rfl (ow_y (yh_move rfl rfl) rfl rfl (kk_wl ?_))
    refine wl_u rfl (ow_y (yh_extract rfl rfl rfl) rfl rfl (kk_wl ?_))
    refine wl_u rfl (ow_y (yh_extract rfl rfl rfl) rfl rfl (kk_wl ?_))
    refine wl_u rfl (ow_allocA Tb rfl rfl rfl rfl (fun g7 => kk_wl ?_))
    refine wl_u rfl (ow_storeA Tb (k := 0) rfl rfl rfl rfl rfl rfl rfl rfl rfl (kk_wl ?_))
    refine wl_u rfl (ow_y (yh_assign rfl rfl) rfl rfl (kk_wl ?_))
    refine wl_nil ?_
    refine ex_seq ?_
    refine cw_seq ?_
    refine cw_seq ?_
    refine cw_freeze 1 rfl (fun w4 M4 hb4_ hz4 => ?_)
    replace h_u0 := Lay.rb h_u0 hb4_
    replace hz1 := Lay.rb hz1 hb4_
    replace hz2 := Lay.rb hz2 hb4_
    replace hz3 := Lay.rb hz3 hb4_
    have hB4 := hB3.trans hb4_
    have mz4 := rd_max hz4
    refine cw_region ?_
    refine wl_u rfl (ow_y (yh_move rfl rfl) rfl rfl (kk_wl ?_))
    refine wl_u rfl (ow_y (yh_move rfl rfl) rfl rfl (kk_wl ?_))
    refine wl_u rfl (ow_y (yh_cmpB rfl rfl rfl rfl (by kernel_rfl)) rfl rfl (kk_wl ?_))
    refine wl_u rfl (ow_y (yh_move rfl rfl) rfl rfl (kk_wl ?_))
    refine wl_s rfl rfl (fun c2 => ?_) (fun c2 => ?_)
    · skip
      replace h := bt c2 h
      refine wl_n rfl rfl rfl rfl ?_
      refine wl_n rfl rfl rfl rfl ?_
      refine wl_n rfl rfl rfl rfl ?_
      refine wl_n rfl rfl rfl rfl ?_
      refine wl_u rfl (ow_y (yh_pickT rfl rfl rfl) rfl rfl (kk_wl ?_))
      refine wl_u rfl (ow_y (yh_move rfl rfl) rfl rfl (kk_wl ?_))
      refine wl_s rfl rfl (fun _ => ?_) nofun
      refine wl_n rfl rfl rfl rfl ?_
      refine wl_n rfl rfl rfl rfl ?_
      refine wl_u rfl (ow_y (yh_pickT rfl rfl rfl) rfl rfl (kk_wl ?_))
      refine wl_nil ?_
      refine ex_seq ?_
      refine cw_true rfl ?_
      refine cw_seq ?_
      refine cw_region ?_
      refine wl_u rfl (ow_y (yh_move rfl rfl) rfl rfl (kk_wl ?_))
      refine wl_u rfl (ow_y (yh_move rfl rfl) rfl rfl (kk_wl ?_))
      refine wl_u rfl (ow_y (yh_cmpB rfl rfl rfl rfl (by kernel_rfl)) rfl rfl (kk_wl ?_))
      refine wl_u rfl (ow_y (yh_move rfl rfl) rfl rfl (kk_wl ?_))
      refine wl_s rfl rfl (fun c3 => ?_) (fun c3 => ?_)
      · skip
        replace h := bt c3 h
        refine wl_g rfl rfl (ow_y (yh_loadBA Tb (k := 1) rfl rfl rfl rfl rfl rfl) rfl rfl (kk_wl ?_))
        refine wl_g rfl rfl (ow_y (yh_loadBA Tb (k := 0) rfl rfl rfl rfl rfl rfl) rfl rfl (kk_wl ?_))
        obtain ⟨x52, hx52, h⟩ := bd h
        refine wl_g rfl rfl (ow_cV rfl hb10 rfl (fun w hw => c_laws_sameFlow N _ _ _ hx52 w (Lay.at_ hz3 hw) (Lay.at_ hz4 hw)) rfl rfl (kk_wl ?_))
        refine wl_u rfl (ow_y (yh_pickT rfl rfl rfl) rfl rfl (kk_wl ?_))
        refine wl_u rfl (ow_y (yh_assign rfl rfl) rfl rfl (kk_wl ?_))
        refine wl_nil ?_
        refine ex_seq ?_
        refine cw_ret ?_
        refine ex_then_ret ?_
        obtain rfl := Option.some.inj h
        exact ex_r1 Tb rfl (.tmp rfl) (fun wq hq => ⟨_, rfl, (hB4.back hq).ext, rfl⟩)
      · skip
        replace h := bf c3 h
        refine wl_n rfl rfl rfl rfl ?_
        refine wl_n rfl rfl rfl rfl ?_
        refine wl_n rfl rfl rfl rfl ?_
        refine wl_u rfl (ow_y (yh_pickF rfl rfl rfl) rfl rfl (kk_wl ?_))
        refine wl_u rfl (ow_y (yh_assign rfl rfl) rfl rfl (kk_wl ?_))
        refine wl_nil ?_
        refine ex_seq ?_
        refine cw_ret ?_
        refine ex_then_ret ?_
        obtain rfl := Option.some.inj h
        exact ex_r1 Tb rfl (.tmp rfl) (fun wq hq => ⟨_, rfl, (hB4.back hq).ext, rfl⟩)
    · skip
      replace h := bf c2 h
      refine wl_g rfl rfl (ow_y (yh_loadBA Tb (k := 1) rfl rfl rfl rfl rfl rfl) rfl rfl (kk_wl ?_))
      refine wl_g rfl rfl (ow_y (yh_loadBA Tb (k := 0) rfl rfl rfl rfl rfl rfl) rfl rfl (kk_wl ?_))
      obtain ⟨x39, hx39, h⟩ := bd h
      refine wl_g rfl rfl (ow_cV rfl hb10 rfl (fun w hw => c_laws_sameFlow N _ _ _ hx39 w (Lay.at_ hz3 hw) (Lay.at_ hz4 hw)) rfl rfl (kk_wl ?_))
      refine wl_g rfl rfl (ow_y (yh_not rfl rfl) rfl rfl (kk_wl ?_))
      refine wl_u rfl (ow_y (yh_pickF rfl rfl rfl) rfl rfl (kk_wl ?_))
      refine wl_u rfl (ow_y (yh_move rfl rfl) rfl rfl (kk_wl ?_))
      refine wl_s rfl rfl (fun c4 => ?_) (fun c4 => ?_)
      · skip
        replace h := bt c4 h
        refine wl_n rfl rfl rfl rfl ?_
        refine wl_n rfl rfl rfl rfl ?_
        refine wl_u rfl (ow_y (yh_pickT rfl rfl rfl) rfl rfl (kk_wl ?_))
        refine wl_nil ?_
        refine ex_seq ?_
        refine cw_true rfl ?_
        refine cw_seq ?_
        refine cw_region ?_
        refine wl_u rfl (ow_y (yh_move rfl rfl) rfl rfl (kk_wl ?_))
        refine wl_u rfl (ow_y (yh_move rfl rfl) rfl rfl (kk_wl ?_))
        refine wl_u rfl (ow_y (yh_cmpB rfl rfl rfl rfl (by kernel_rfl)) rfl rfl (kk_wl ?_))
        refine wl_u rfl (ow_y (yh_move rfl rfl) rfl rfl (kk_wl ?_))
        refine wl_s rfl rfl (fun c5 => ?_) (fun c5 => ?_)
        · skip
          replace h := bt c5 h
          refine wl_g rfl rfl (ow_y (yh_loadBA Tb (k := 1) rfl rfl rfl rfl rfl rfl) rfl rfl (kk_wl ?_))
          refine wl_g rfl rfl (ow_y (yh_loadBA Tb (k := 0) rfl rfl rfl rfl rfl rfl) rfl rfl (kk_wl ?_))
          obtain ⟨x52, hx52, h⟩ := bd h
          refine wl_g rfl rfl (ow_cV rfl hb10 rfl (fun w hw => c_laws_sameFlow N _ _ _ hx52 w (Lay.at_ hz3 hw) (Lay.at_ hz4 hw)) rfl rfl (kk_wl ?_))
          refine wl_u rfl (ow_y (yh_pickT rfl rfl rfl) rfl rfl (kk_wl ?_))
          refine wl_u rfl (ow_y (yh_assign rfl rfl) rfl rfl (kk_wl ?_))
          refine wl_nil ?_
          refine ex_seq ?_
          refine cw_ret ?_
          refine ex_then_ret ?_
          obtain rfl := Option.some.inj h
          exact ex_r1 Tb rfl (.tmp rfl) (fun wq hq => ⟨_, rfl, (hB4.back hq).ext, rfl⟩)
        · skip
          replace h := bf c5 h
          refine wl_n rfl rfl rfl rfl ?_
          refine wl_n rfl rfl rfl rfl ?_
          refine wl_n rfl rfl rfl rfl ?_
          refine wl_u rfl (ow_y (yh_pickF rfl rfl rfl) rfl rfl (kk_wl ?_))
          refine wl_u rfl (ow_y (yh_assign rfl rfl) rfl rfl (kk_wl ?_))
          refine wl_nil ?_
          refine ex_seq ?_
          refine cw_ret ?_
          refine ex_then_ret ?_
          obtain rfl := Option.some.inj h
          exact ex_r1 Tb rfl (.tmp rfl) (fun wq hq => ⟨_, rfl, (hB4.back hq).ext, rfl⟩)
      · skip
        replace h := bf c4 h
        refine wl_g rfl rfl (ow_y (yh_move rfl rfl) rfl rfl (kk_wl ?_))
        refine wl_g rfl rfl (ow_y (yh_not rfl rfl) rfl rfl (kk_wl ?_))
        refine wl_u rfl (ow_y (yh_pickF rfl rfl rfl) rfl rfl (kk_wl ?_))
        refine wl_nil ?_
        refine ex_seq ?_
        refine cw_split rfl (fun c6 => ?_) (fun c6 => ?_)
        · skip
          replace h := bt c6 h
          refine cw_seq ?_
          refine cw_region ?_
          refine wl_u rfl (ow_y (yh_move rfl rfl) rfl rfl (kk_wl ?_))
          refine wl_u rfl (ow_y (yh_move rfl rfl) rfl rfl (kk_wl ?_))
          refine wl_u rfl (ow_y (yh_cmpB rfl rfl rfl rfl (by kernel_rfl)) rfl rfl (kk_wl ?_))
          refine wl_u rfl (ow_y (yh_move rfl rfl) rfl rfl (kk_wl ?_))
          refine wl_s rfl rfl (fun c7 => ?_) (fun c7 => ?_)
          · skip
            replace h := bt c7 h
            refine wl_g rfl rfl (ow_y (yh_loadBA Tb (k := 1) rfl rfl rfl rfl rfl rfl) rfl rfl (kk_wl ?_))
            refine wl_g rfl rfl (ow_y (yh_loadBA Tb (k := 0) rfl rfl rfl rfl rfl rfl) rfl rfl (kk_wl ?_))
            obtain ⟨x52, hx52, h⟩ := bd h
            refine wl_g rfl rfl (ow_cV rfl hb10 rfl (fun w hw => c_laws_sameFlow N _ _ _ hx52 w (Lay.at_ hz3 hw) (Lay.at_ hz4 hw)) rfl rfl (kk_wl ?_))
            refine wl_u rfl (ow_y (yh_pickT rfl rfl rfl) rfl rfl (kk_wl ?_))
            refine wl_u rfl (ow_y (yh_assign rfl rfl) rfl rfl (kk_wl ?_))
            refine wl_nil ?_
            refine ex_seq ?_
            refine cw_ret ?_
            refine ex_then_ret ?_
            obtain rfl := Option.some.inj h
            exact ex_r1 Tb rfl (.tmp rfl) (fun wq hq => ⟨_, rfl, (hB4.back hq).ext, rfl⟩)
          · skip
            replace h := bf c7 h
            refine wl_n rfl rfl rfl rfl ?_
            refine wl_n rfl rfl rfl rfl ?_
            refine wl_n rfl rfl rfl rfl ?_
            refine wl_u rfl (ow_y (yh_pickF rfl rfl rfl) rfl rfl (kk_wl ?_))
            refine wl_u rfl (ow_y (yh_assign rfl rfl) rfl rfl (kk_wl ?_))
            refine wl_nil ?_
            refine ex_seq ?_
            refine cw_ret ?_
            refine ex_then_ret ?_
            obtain rfl := Option.some.inj h
            exact ex_r1 Tb rfl (.tmp rfl) (fun wq hq => ⟨_, rfl, (hB4.back hq).ext, rfl⟩)
        · skip
          replace h := bf c6 h
          refine cw_skip ?_
          refine ex_seq ?_
          refine cw_seq ?_
          refine cw_seq ?_
          refine cw_region ?_
          refine wl_u rfl (ow_y (yh_field Tb rfl rfl rfl) rfl rfl (kk_wl ?_))
          refine wl_u rfl (ow_y (yh_loadB Tb (k := 2) rfl rfl rfl rfl rfl) rfl rfl (kk_wl ?_))
          refine wl_u rfl (ow_y (yh_cmpI rfl rfl rfl rfl) rfl rfl (kk_wl ?_))
          refine wl_nil ?_
          refine ex_seq ?_
          refine cw_split rfl (fun c8 => ?_) (fun c8 => ?_)
          · skip
            replace h := bt c8 h
            have q3 := eqb_false.1 (nt c8)
            refine cw_seq ?_
            refine cw_region ?_
            refine wl_u rfl (ow_y (yh_assign rfl rfl) rfl rfl (kk_wl ?_))
            refine wl_nil ?_
            refine ex_seq ?_
            refine cw_ret ?_
            refine ex_then_ret ?_
            obtain rfl := Option.some.inj h
            exact ex_r1 Tb rfl (.tmp rfl) (fun wq hq => ⟨_, rfl, (hB4.back hq).ext, rfl⟩)
          · skip
            replace h := bf c8 h
            have q4 := eqb_true.1 (nf c8)
            refine cw_skip ?_
            refine ex_seq ?_
            refine cw_seq ?_
            refine cw_seq ?_
            refine cw_region ?_
            refine wl_u rfl (ow_y (yh_assign rfl rfl) rfl rfl (kk_wl ?_))
            refine wl_nil ?_
            refine ex_seq ?_
            refine cw_block ?_
            obtain ⟨e22, he22, hk22⟩ := bd h
            clear h
            refine cw_loopG (σ := Nat × Nat) (fun s => m_laws_FnChangeBehind_L22 N x18 x24 s.1 s.2 = some e22) (fun s => [(3, .pointer (some ⟨g3, 0, none⟩)), (4, .pointer (some ⟨g4, 0, none⟩)), (5, .pointer (some ⟨g5, 0, none⟩)), (9, .int .i64 ((s.2 : Nat) : Int))]) (fun s => [blkC g3 25 [.int .i64 x18.1.ver, .slice a18 x18.1.steps.length c18], blkC g4 30 [.int .i64 x18.2.kind, .string x18.2.step.name, .slice a18_2 x18.2.step.after.length c18_2, .bool x18.2.step.undo], blkC g5 25 [.int .i64 x24.1.ver, .slice a24 x24.1.steps.length c24]]) (fun s => s.1) (N, 0) [3, 2, 1] he22 ⟨rfl, rfl, rfl, rfl, trivial⟩ rfl (fun KL s he22 hn22 => ?_)
            obtain ⟨n22, s9⟩ := s
            simp only at he22 hn22 ⊢
            rcases n22 with _ | n22
            · exact nosome he22
            have h := he22; rw [m_laws_FnChangeBehind_L22] at h
            refine cw_seq ?_
            refine cw_seq ?_
            refine cw_region ?_
            refine wl_u rfl (ow_y (yh_move rfl rfl) rfl rfl (kk_wl ?_))
            refine wl_u rfl (ow_y (yh_field Tb rfl rfl rfl) rfl rfl (kk_wl ?_))
            refine wl_u rfl (ow_y (yh_loadB Tb (k := 2) rfl rfl rfl rfl rfl) rfl rfl (kk_wl ?_))
            refine wl_u rfl (ow_y (yh_lenS Tb rfl rfl rfl rfl) rfl rfl (kk_wl ?_))
            refine wl_u rfl (ow_y (yh_cmpI rfl rfl rfl rfl) rfl rfl (kk_wl ?_))
            refine wl_nil ?_
            refine ex_seq ?_
            refine cw_split rfl (fun c9 => ?_) (fun c9 => ?_)
            · skip
              replace h := bt c9 h
              have q5 := ltb_true.1 c9
              refine cw_skip ?_
              refine ex_seq ?_
              refine cw_seq ?_
              refine cw_block ?_
              refine cw_seq ?_
              refine cw_region ?_
              refine wl_u rfl (ow_lit0 Tb rfl rfl rfl rfl rfl rfl (fun g64 => kk_chg (c' := owC strsL [g64] [.slice (some ⟨g64, 0, none⟩) 0 0] ([] : List Str)) 0 rfl (fun w hA => own_strsL ([] : List Str) hA rfl (by simp [maxLen])) rfl (kk_wl ?_)))
              refine wl_u rfl (ow_y (yh_assign rfl rfl) rfl rfl (kk_wl ?_))
              refine wl_nil ?_
              refine ex_seq ?_
              refine cw_seq ?_
              refine cw_dr [0, 1, 2, 3, 4, 5, 6, 8] [] [owC strsL [g64] [.slice (some ⟨g64, 0, none⟩) 0 0] ([] : List Str), blkC g3 25 [.int .i64 x18.1.ver, .slice a18 x18.1.steps.length c18], blkC g4 30 [.int .i64 x18.2.kind, .string x18.2.step.name, .slice a18_2 x18.2.step.after.length c18_2, .bool x18.2.step.undo], blkC g5 25 [.int .i64 x24.1.ver, .slice a24 x24.1.steps.length c24]] (by kernel_rfl) ?_
              refine wd_take (i := 0) [0, 1, 2, 3] rfl rfl rfl rfl rfl (by kernel_rfl) (by kernel_rfl) (fun _ _ _ _ h => h) (yh_loadBA Tb (k := 1) rfl rfl rfl rfl rfl rfl) ?_
              refine wd_take (i := 1) [0, 1, 2, 3] rfl rfl rfl rfl rfl (by kernel_rfl) (by kernel_rfl) (fun _ _ _ _ h => h) (yh_field Tb rfl rfl rfl) ?_
              refine wd_take (i := 2) [0, 1, 2, 3] rfl rfl rfl rfl rfl (by kernel_rfl) (by kernel_rfl) (fun _ _ _ _ h => h) (yh_loadB Tb (k := 3) rfl rfl rfl rfl rfl) ?_
              refine wd_take (i := 3) [0, 1, 2, 3] rfl rfl rfl rfl rfl (by kernel_rfl) (by kernel_rfl) (fun _ _ _ _ h => h) (yh_move rfl rfl) ?_
              obtain ⟨y69, hy69, h⟩ := bd h
              obtain ⟨b69, o69, ha69⟩ := sl_addr hz3 hy69
              subst ha69
              obtain ⟨a69, e69, hc69, hf69⟩ := get_step hz3 hy69
              have mx69 := rd_max hf69
              refine wd_take (i := 4) [0, 1, 2, 3] rfl rfl rfl rfl rfl (by kernel_rfl) (by kernel_rfl) (fun _ _ _ _ h => h) (yh_idx Tb (k := s9) rfl rfl rfl rfl (get_lt hy69) rfl rfl) ?_
              refine wd_take (i := 5) [0, 1, 2, 3] rfl rfl rfl rfl rfl (by kernel_rfl) (by kernel_rfl) (fun _ _ _ _ h => h) (yh_field Tb rfl rfl rfl) ?_
              refine wd_take (i := 6) [0, 1, 2, 3] rfl rfl rfl rfl rfl (by kernel_rfl) (by kernel_rfl) (fun _ _ _ _ h => h) (yh_loadAF Tb (j := 0) rfl rfl rfl hc69 rfl) ?_
              obtain ⟨x72, hx72, h⟩ := bd h
              refine wd_one 7 rfl rfl (by kernel_rfl) (ow_cN1 rfl hb14 rfl (fun w hw => c_impl_FlowBehind N _ _ _ hx72 w (Lay.at_ hz1 hw)) rfl rfl (fun a72 c72 F72 => kk_wd [1, 2, 3, 4] (by kernel_rfl) ?_))
              refine wd_take (i := 8) [1, 2, 3, 4] rfl rfl rfl rfl rfl (by kernel_rfl) (by kernel_rfl) (fun _ _ _ _ h => h) (yh_assign rfl rfl) ?_
              refine wd_done (by kernel_rfl) ?_
              refine ex_seq ?_
              refine cw_seq ?_
              refine cw_seq ?_
              refine cw_freeze 0 rfl (fun w5 M5 hb5_ hz5 => ?_)
              replace h_u0 := Lay.rb h_u0 hb5_
              replace hz1 := Lay.rb hz1 hb5_
              replace hz2 := Lay.rb hz2 hb5_
              replace hz3 := Lay.rb hz3 hb5_
              replace hz4 := Lay.rb hz4 hb5_
              replace hf69 := Lay.rb hf69 hb5_
              replace hc69 := CellN.rb hc69 (by simp) hb5_
              have hB5 := hB4.trans hb5_
              have mz5 := rd_max hz5
              refine cw_region ?_
              refine wl_u rfl (ow_y (yh_assign rfl rfl) rfl rfl (kk_wl ?_))
              refine wl_nil ?_
              refine ex_seq ?_
              refine cw_block ?_
              obtain ⟨e32, he32, hk32⟩ := bd h
              clear h
              refine cw_loopG (σ := Nat × (List Str) × Nat × (Option Addr) × Nat × (List Nat)) (fun s => m_laws_FnChangeBehind_L32 N x18 x72 s.1 s.2.1 s.2.2.1 = some e32) (fun s => [(3, .pointer (some ⟨g3, 0, none⟩)), (4, .pointer (some ⟨g4, 0, none⟩)), (5, .pointer (some ⟨g5, 0, none⟩)), (9, .int .i64 ((s9 : Nat) : Int)), (10, .slice s.2.2.2.1 s.2.1.length s.2.2.2.2.1), (11, .slice a72 x72.length c72), (12, .int .i64 ((s.2.2.1 : Nat) : Int))]) (fun s => [blkC g3 25 [.int .i64 x18.1.ver, .slice a18 x18.1.steps.length c18], blkC g4 30 [.int .i64 x18.2.kind, .string x18.2.step.name, .slice a18_2 x18.2.step.after.length c18_2, .bool x18.2.step.undo], blkC g5 25 [.int .i64 x24.1.ver, .slice (some ⟨b69, o69, none⟩) x24.1.steps.length c24], owC strsL s.2.2.2.2.2 [.slice s.2.2.2.1 s.2.1.length s.2.2.2.2.1] s.2.1]) (fun s => s.1) (N, ([] : List Str), 0, (some ⟨g64, 0, none⟩), 0, [g64]) [1, 2, 3, 0] he32 ⟨rfl, rfl, rfl, rfl, rfl, rfl, rfl, trivial⟩ rfl (fun KL s he32 hn32 => ?_)
              obtain ⟨n32, s10, s12, as10, cs10, Fs10⟩ := s
              simp only at he32 hn32 ⊢
              rcases n32 with _ | n32
              · exact nosome he32
              have h := he32; rw [m_laws_FnChangeBehind_L32] at h
              refine cw_seq ?_
              refine cw_seq ?_
              refine cw_region ?_
              refine wl_u rfl (ow_y (yh_move rfl rfl) rfl rfl (kk_wl ?_))
              refine wl_u rfl (ow_y (yh_move rfl rfl) rfl rfl (kk_wl ?_))
              refine wl_u rfl (ow_y (yh_lenS Tb rfl rfl rfl rfl) rfl rfl (kk_wl ?_))
              refine wl_u rfl (ow_y (yh_cmpI rfl rfl rfl rfl) rfl rfl (kk_wl ?_))
              refine wl_nil ?_
              refine ex_seq ?_
              refine cw_split rfl (fun c10 => ?_) (fun c10 => ?_)
              · skip
                replace h := bt c10 h
                have q6 := ltb_true.1 c10
                refine cw_skip ?_
                refine ex_seq ?_
                refine cw_seq ?_
                refine cw_block ?_
                refine cw_seq ?_
                refine cw_dr [0, 1, 2, 3, 4, 5, 6, 7] [] [blkC g3 25 [.int .i64 x18.1.ver, .slice a18 x18.1.steps.length c18], blkC g4 30 [.int .i64 x18.2.kind, .string x18.2.step.name, .slice a18_2 x18.2.step.after.length c18_2, .bool x18.2.step.undo], blkC g5 25 [.int .i64 x24.1.ver, .slice (some ⟨b69, o69, none⟩) x24.1.steps.length c24], owC strsL Fs10 [.slice as10 s10.length cs10] s10] (by kernel_rfl) ?_
                refine wd_take (i := 0) [0, 1, 2, 3] rfl rfl rfl rfl rfl (by kernel_rfl) (by kernel_rfl) (fun _ _ _ _ h => h) (yh_move rfl rfl) ?_
                refine wd_take (i := 1) [0, 1, 2, 3] rfl rfl rfl rfl rfl (by kernel_rfl) (by kernel_rfl) (fun _ _ _ _ h => h) (yh_move rfl rfl) ?_
                obtain ⟨y81, hy81, h⟩ := bd h
                obtain ⟨b81, o81, ha81⟩ := sl_addr hz5 hy81
                subst ha81
                have hc81 := get_str hz5 hy81
                refine wd_take (i := 2) [0, 1, 2, 3] rfl rfl rfl rfl rfl (by kernel_rfl) (by kernel_rfl) (fun _ _ _ _ h => h) (yh_idx Tb (k := s12) rfl rfl rfl rfl (get_lt hy81) rfl rfl) ?_
                refine wd_take (i := 3) [0, 1, 2, 3] rfl rfl rfl rfl rfl (by kernel_rfl) (by kernel_rfl) (fun _ _ _ _ h => h) (yh_loadA0 Tb rfl rfl rfl hc81 rfl) ?_
                refine wd_take (i := 4) [0, 1, 2, 3] rfl rfl rfl rfl rfl (by kernel_rfl) (by kernel_rfl) (fun _ _ _ _ h => h) (yh_field Tb rfl rfl rfl) ?_
                refine wd_take (i := 5) [0, 1, 2, 3] rfl rfl rfl rfl rfl (by kernel_rfl) (by kernel_rfl) (fun _ _ _ _ h => h) (yh_field Tb rfl rfl rfl) ?_
                refine wd_take (i := 6) [0, 1, 2, 3] rfl rfl rfl rfl rfl (by kernel_rfl) (by kernel_rfl) (fun _ _ _ _ h => h) (yh_loadB Tb (k := 1) rfl rfl rfl rfl rfl) ?_
                refine wd_take (i := 7) [0, 1, 2, 3] rfl rfl rfl rfl rfl (by kernel_rfl) (by kernel_rfl) (fun _ _ _ _ h => h) (yh_cmpS rfl rfl rfl rfl) ?_
                refine wd_done (by kernel_rfl) ?_
                refine ex_seq ?_
                refine cw_split rfl (fun c11 => ?_) (fun c11 => ?_)
                · skip
                  replace h := bt c11 h
                  refine cw_region ?_
                  refine wl_u rfl (ow_y (yh_move rfl rfl) rfl rfl (kk_wl ?_))
                  refine wl_u rfl (ow_y (yh_move rfl rfl) rfl rfl (kk_wl ?_))
                  refine wl_u rfl (ow_y (yh_move rfl rfl) rfl rfl (kk_wl ?_))
                  refine wl_u rfl (ow_y (yh_idx Tb (k := s12) rfl rfl rfl rfl (get_lt hy81) rfl rfl) rfl rfl (kk_wl ?_))
                  refine wl_u rfl (ow_y (yh_loadA0 Tb rfl rfl rfl hc81 rfl) rfl rfl (kk_wl ?_))
                  refine wl_u rfl (ow_lit1 Tb rfl rfl rfl rfl rfl rfl rfl rfl rfl rfl (fun g92 => kk_chg (c' := owC strsL [g92] [.slice (some ⟨g92, 0, none⟩) 1 1] ([y81] : List Str)) 0 rfl (fun w hA => own_strsL ([y81] : List Str) hA rfl (by simp [maxLen])) rfl (kk_wl ?_)))
                  obtain ⟨hll93, h⟩ := bd_appd h
                  refine wl_u rfl (ow_appP Tb (i := 4) rfl rfl rfl rfl rfl (fun w hw => rdo (A := strsL) 0 rfl hw) rfl rfl rfl rfl hll93 (by decide) rfl rfl (fun a93 c93 F93 => kk_wl ?_))
                  refine wl_u rfl (ow_y (yh_assign rfl rfl) rfl rfl (kk_wl ?_))
                  refine wl_nil ?_
                  refine ex_block_normal ?_
                  refine ex_seq ?_
                  refine cw_region ?_
                  refine wl_u rfl (ow_y (yh_move rfl rfl) rfl rfl (kk_wl ?_))
                  refine wl_u rfl (ow_y (yh_arI rfl rfl rfl rfl (by omega)) rfl rfl (kk_wl ?_))
                  refine wl_u rfl (ow_y (yh_assign rfl rfl) rfl rfl (kk_wl ?_))
                  refine wl_nil ?_
                  exact ex_next [2, 3, 4, 0] (hn32 (n32, (s10 ++ ([y81] : List Str)), s12 + 1, a93, c93, F93) (Nat.lt_succ_self _) h) ⟨rfl, rfl, rfl, rfl, rfl, rfl, rfl, trivial⟩ (by kernel_rfl)
                · skip
                  replace h := bf c11 h
                  refine cw_skip ?_
                  refine ex_block_normal ?_
                  refine ex_seq ?_
                  refine cw_region ?_
                  refine wl_u rfl (ow_y (yh_move rfl rfl) rfl rfl (kk_wl ?_))
                  refine wl_u rfl (ow_y (yh_arI rfl rfl rfl rfl (by omega)) rfl rfl (kk_wl ?_))
                  refine wl_u rfl (ow_y (yh_assign rfl rfl) rfl rfl (kk_wl ?_))
                  refine wl_nil ?_
                  exact ex_next [0, 1, 2, 3] (hn32 (n32, s10, s12 + 1, as10, cs10, Fs10) (Nat.lt_succ_self _) h) ⟨rfl, rfl, rfl, rfl, rfl, rfl, rfl, trivial⟩ (by kernel_rfl)
              · skip
                replace h := bf c10 h
                have q7 := ltb_false.1 c10
                refine cw_exit ?_
                refine ex_then_exit ?_
                refine ex_then_exit ?_
                obtain rfl := Option.some.inj h
                have h := go_brk hk32
                refine ex_block_exit ?_
                refine ex_seq ?_
                refine cw_seq ?_
                refine cw_dr [0, 1, 2, 3, 4, 5, 6, 7, 10] [] [blkC g3 25 [.int .i64 x18.1.ver, .slice a18 x18.1.steps.length c18], blkC g4 30 [.int .i64 x18.2.kind, .string x18.2.step.name, .slice a18_2 x18.2.step.after.length c18_2, .bool x18.2.step.undo], blkC g5 25 [.int .i64 x24.1.ver, .slice (some ⟨b69, o69, none⟩) x24.1.steps.length c24], owC strsL Fs10 [.slice as10 s10.length cs10] s10] (by kernel_rfl) ?_
                refine wd_take (i := 0) [0, 1, 2, 3] rfl rfl rfl rfl rfl (by kernel_rfl) (by kernel_rfl) (fun _ _ _ _ h => h) (yh_move rfl rfl) ?_
                refine wd_take (i := 1) [0, 1, 2, 3] rfl rfl rfl rfl rfl (by kernel_rfl) (by kernel_rfl) (fun _ _ _ _ h => h) (yh_loadBA Tb (k := 2) rfl rfl rfl rfl rfl rfl) ?_
                refine wd_take (i := 2) [0, 1, 2, 3] rfl rfl rfl rfl rfl (by kernel_rfl) (by kernel_rfl) (fun _ _ _ _ h => h) (yh_field Tb rfl rfl rfl) ?_
                refine wd_take (i := 3) [0, 1, 2, 3] rfl rfl rfl rfl rfl (by kernel_rfl) (by kernel_rfl) (fun _ _ _ _ h => h) (yh_loadB Tb (k := 2) rfl rfl rfl rfl rfl) ?_
                refine wd_take (i := 4) [0, 1, 2, 3] rfl rfl rfl rfl rfl (by kernel_rfl) (by kernel_rfl) (fun _ _ _ _ h => h) (yh_move rfl rfl) ?_
                refine wd_take (i := 5) [0, 1, 2, 3] rfl rfl rfl rfl rfl (by kernel_rfl) (by kernel_rfl) (fun _ _ _ _ h => h) (yh_idx Tb (k := s9) rfl rfl rfl rfl (get_lt hy69) rfl rfl) ?_
                refine wd_take (i := 6) [0, 1, 2, 3] rfl rfl rfl rfl rfl (by kernel_rfl) (by kernel_rfl) (fun _ _ _ _ h => h) (yh_field Tb rfl rfl rfl) ?_
                refine wd_take (i := 7) [0, 1, 2, 3] rfl rfl rfl rfl rfl (by kernel_rfl) (by kernel_rfl) (fun _ _ _ _ h => h) (yh_loadAF Tb (j := 0) rfl rfl rfl hc69 rfl) ?_
                obtain ⟨x102, hx102, h⟩ := bd h
                refine wd_one 8 rfl rfl (by kernel_rfl) (ow_cN1 rfl hb14 rfl (fun w hw => c_impl_FlowBehind N _ _ _ hx102 w (Lay.at_ hz3 hw)) rfl rfl (fun a102 c102 F102 => kk_wd [1, 2, 3, 4] (by kernel_rfl) ?_))
                obtain ⟨x103, hx103, h⟩ := bd h
                refine wd_one 9 rfl rfl (by kernel_rfl) (ow_cV rfl hb15 rfl (fun w hw => c_laws_sameTexts N _ _ _ hx103 w (rdo (A := strsL) 4 rfl hw) (rdo (A := strsL) 0 rfl hw)) rfl rfl (kk_wd [1, 2, 3, 4] (by kernel_rfl) ?_))
                refine wd_take (i := 10) [1, 2, 3, 4] rfl rfl rfl rfl rfl (by kernel_rfl) (by kernel_rfl) (fun _ _ _ _ h => h) (yh_not rfl rfl) ?_
                refine wd_done (by kernel_rfl) ?_
                refine ex_seq ?_
                refine cw_split rfl (fun c12 => ?_) (fun c12 => ?_)
                · skip
                  replace h := bt c12 h
                  refine cw_seq ?_
                  refine cw_freeze 0 rfl (fun w6 M6 hb6_ hz6 => ?_)
                  replace h_u0 := Lay.rb h_u0 hb6_
                  replace hz1 := Lay.rb hz1 hb6_
                  replace hz2 := Lay.rb hz2 hb6_
                  replace hz3 := Lay.rb hz3 hb6_
                  replace hz4 := Lay.rb hz4 hb6_
                  replace hf69 := Lay.rb hf69 hb6_
                  replace hc69 := CellN.rb hc69 (by simp) hb6_
                  replace hz5 := Lay.rb hz5 hb6_
                  have hB6 := hB5.trans hb6_
                  have mz6 := rd_max hz6
                  refine cw_region ?_
                  refine wl_u rfl (ow_y (yh_assign rfl rfl) rfl rfl (kk_wl ?_))
                  refine wl_nil ?_
                  refine ex_seq ?_
                  refine cw_ret ?_
                  refine ex_block_ret ?_
                  refine ex_then_ret ?_
                  refine ex_then_ret ?_
                  refine ex_block_ret ?_
                  refine ex_then_ret ?_
                  obtain rfl := Option.some.inj h
                  obtain rfl := go_ret hk22
                  exact ex_r1 Tb rfl (.tmp rfl) (fun wq hq => ⟨_, rfl, (hB6.back hq).ext, rfl⟩)
                · skip
                  replace h := bf c12 h
                  refine cw_skip ?_
                  refine ex_block_normal ?_
                  refine ex_seq ?_
                  refine cw_freeze 0 rfl (fun w7 M7 hb7_ hz7 => ?_)
                  replace h_u0 := Lay.rb h_u0 hb7_
                  replace hz1 := Lay.rb hz1 hb7_
                  replace hz2 := Lay.rb hz2 hb7_
                  replace hz3 := Lay.rb hz3 hb7_
                  replace hz4 := Lay.rb hz4 hb7_
                  replace hf69 := Lay.rb hf69 hb7_
                  replace hc69 := CellN.rb hc69 (by simp) hb7_
                  replace hz5 := Lay.rb hz5 hb7_
                  have hB7 := hB5.trans hb7_
                  have mz7 := rd_max hz7
                  refine cw_region ?_
                  refine wl_u rfl (ow_y (yh_move rfl rfl) rfl rfl (kk_wl ?_))
                  refine wl_u rfl (ow_y (yh_arI rfl rfl rfl rfl (by omega)) rfl rfl (kk_wl ?_))
                  refine wl_u rfl (ow_y (yh_assign rfl rfl) rfl rfl (kk_wl ?_))
                  refine wl_nil ?_
                  exact ex_nextB (hb5_.trans hb7_) [0, 1, 2] (hn22 (n22, s9 + 1) (Nat.lt_succ_self _) h) ⟨rfl, rfl, rfl, rfl, trivial⟩ (by kernel_rfl)
            · skip
              replace h := bf c9 h
              have q8 := ltb_false.1 c9
              refine cw_exit ?_
              refine ex_then_exit ?_
              refine ex_then_exit ?_
              obtain rfl := Option.some.inj h
              have h := go_brk hk22
              refine ex_block_exit ?_
              refine ex_seq ?_
              refine cw_seq ?_
              refine cw_region ?_
              refine wl_u rfl (ow_y (yh_assign rfl rfl) rfl rfl (kk_wl ?_))
              refine wl_nil ?_
              refine ex_seq ?_
              refine cw_ret ?_
              obtain rfl := Option.some.inj h
              exact ex_r1 Tb rfl (.tmp rfl) (fun wq hq => ⟨_, rfl, (hB4.back hq).ext, rfl⟩)

end Go.Proofs.Ytmnhnldnnniglaa
