/- Mirrors and contracts, printed by a program: what each function computes as a plain term, and that it does. -/
import Derived.Test.YtlcckcifnpjbpaaR
import Derived.Test.YtlcckcifnpjbpaaE
import Derived.Test.YtlcckcifnpjbpaaWG0
set_option linter.all false
set_option maxRecDepth 100000
namespace Go.Proofs.Ytlcckcifnpjbpaa
open Go.RowKit

def m_impl_RegistryValid_L5 (N : Nat) (list_ : List Flow) : Nat → Nat → Option (Ex (Nat) (Bool))
  | 0, _ => none
  | n + 1, s7 => (bif ltb ((s7 : Nat) : Int) ((list_.length : Nat) : Int) then (list_[s7]?).bind fun y10 => (m_impl_FlowValid N y10).bind fun x13 => (bif !x13 then some (Ex.ret false)
 else (bif ltb 0 ((s7 : Nat) : Int) then (geti list_ (((s7 : Nat) : Int) - 1)).bind fun y24 => (bif leb y10.ver y24.ver then some (Ex.ret false)
 else m_impl_RegistryValid_L5 N list_ n (s7 + 1))
 else m_impl_RegistryValid_L5 N list_ n (s7 + 1)))
 else some (Ex.brk (s7)))

def m_impl_RegistryValid (N : Nat) (list_ : List Flow) : Option (Bool) := (m_impl_RegistryValid_L5 N list_ N 0).bind fun e5 => e5.go (fun r => r) fun b5 => some (leb ((list_.length : Nat) : Int) 4)

set_option maxHeartbeats 4000000 in
theorem c_impl_RegistryValid (N : Nat) (list_ : List Flow) (res : Bool) (h : m_impl_RegistryValid N list_ = some res) (w : World) {a_list_ : Option Addr} {c_list_ : Nat} (h_list_ : flowsL.rd w [] [.slice a_list_ list_.length c_list_] list_) : Ret Try.prog 19 [.slice a_list_ list_.length c_list_] w [] fun v w' => v = .bool res := by
  have mh_list_ := rd_max h_list_
  unfold m_impl_RegistryValid at h
  refine ret_enter Try.func19 rfl Try.ntmps19 rfl (Hp.refl w _) ?_
  refine cw_seq ?_
  refine cw_region ?_
  refine wl_u rfl (ow_y (yh_assign rfl rfl) rfl rfl (kk_wl ?_))
  refine wl_nil ?_
  refine ex_seq ?_
  refine cw_seq ?_
  refine cw_seq ?_
  refine cw_region ?_
  refine wl_u rfl (ow_y (yh_move rfl rfl) rfl rfl (kk_wl ?_))
  refine wl_u rfl (ow_y (yh_lenS Tb rfl rfl rfl rfl) rfl rfl (kk_wl ?_))
  refine wl_u rfl (ow_y (yh_move rfl rfl) rfl rfl (kk_wl ?_))
  refine wl_nil ?_
  refine ex_seq ?_
  refine cw_block ?_
  obtain ⟨e5, he5, hk5⟩ := bd h
  clear h
  refine cw_loopG (σ := Nat × Nat) (fun s => m_impl_RegistryValid_L5 N list_ s.1 s.2 = some e5) (fun s => [(0, .slice a_list_ list_.length c_list_), (5, .slice a_list_ list_.length c_list_), (6, .int .i64 ((list_.length : Nat) : Int)), (7, .int .i64 ((s.2 : Nat) : Int))]) (fun s => []) (fun s => s.1) (N, 0) [] he5 ⟨rfl, rfl, rfl, rfl, trivial⟩ rfl (fun KL s he5 hn5 => ?_)
  obtain ⟨n5, s7⟩ := s
  simp only at he5 hn5 ⊢
  rcases n5 with _ | n5
  · exact nosome he5
  have h := he5; rw [m_impl_RegistryValid_L5] at h
  refine cw_seq ?_
  refine cw_region ?_
  refine wl_u rfl (ow_y (yh_cmpI rfl rfl rfl rfl) rfl rfl (kk_wl ?_))
  refine wl_nil ?_
  refine ex_seq ?_
  refine cw_seq ?_
  refine cw_split rfl (fun c1 => ?_) (fun c1 => ?_)
  · skip
    replace h := bt c1 h
    have q1 := ltb_true.1 c1
    refine cw_skip ?_
    refine ex_seq ?_
    refine cw_seq ?_
    refine cw_block ?_
    refine cw_seq ?_
    refine cw_region ?_
    refine wl_u rfl (ow_y (yh_move rfl rfl) rfl rfl (kk_wl ?_))
    obtain ⟨y10, hy10, h⟩ := bd h
    obtain ⟨b10, o10, ha10⟩ := sl_addr h_list_ hy10
    subst ha10
    obtain ⟨a10, e10, hc10, hf10⟩ := get_flow h_list_ hy10
    have mx10 := rd_max hf10
    refine wl_u rfl (ow_y (yh_idx Tb (k := s7) rfl rfl rfl rfl (get_lt hy10) rfl rfl) rfl rfl (kk_wl ?_))
    refine wl_u rfl (ow_y (yh_loadAN Tb rfl rfl rfl rfl hc10 rfl) rfl rfl (kk_wl ?_))
    refine wl_u rfl (ow_allocA Tb rfl rfl rfl rfl (fun g4 => kk_wl ?_))
    refine wl_u rfl (ow_y (yh_assign rfl rfl) rfl rfl (kk_wl ?_))
    refine wl_u rfl (ow_storeA Tb (k := 0) rfl rfl rfl rfl rfl rfl rfl rfl rfl (kk_wl ?_))
    refine wl_nil ?_
    refine ex_seq ?_
    refine cw_seq ?_
    refine cw_dr [0, 2, 3, 4, 5, 6, 7, 8, 9, 10, 11, 12, 13, 14, 15, 16, 17] [] [blkC g4 26 [.int .i64 y10.ver, .slice a10 y10.steps.length e10]] (by kernel_rfl) ?_
    refine wd_take (i := 0) [0] rfl rfl rfl rfl rfl (by kernel_rfl) (by kernel_rfl) (fun _ _ _ _ h => h) (yh_loadBA Tb (k := 0) rfl rfl rfl rfl rfl rfl) ?_
    obtain ⟨x13, hx13, h⟩ := bd h
    refine wd_one 1 rfl rfl (by kernel_rfl) (ow_cV rfl hb62 rfl (fun w hw => c_impl_FlowValid N _ _ hx13 w (Lay.at_ hf10 hw)) rfl rfl (kk_wd [0] (by kernel_rfl) ?_))
    refine wd_take (i := 2) [0] rfl rfl rfl rfl rfl (by kernel_rfl) (by kernel_rfl) (fun _ _ _ _ h => h) (yh_not rfl rfl) ?_
    refine wd_take (i := 3) [0] rfl rfl rfl rfl rfl (by kernel_rfl) (by kernel_rfl) (fun _ _ _ _ h => h) (yh_move rfl rfl) ?_
    refine wd_split 4 rfl rfl rfl (fun c2 => ?_) (fun c2 => ?_)
    · skip
      replace h := bt c2 h
      refine wd_skip (i := 4) [0] rfl rfl rfl rfl (by kernel_rfl) (by kernel_rfl) (fun _ _ _ h => h) ?_
      refine wd_skip (i := 5) [0] rfl rfl rfl rfl (by kernel_rfl) (by kernel_rfl) (fun _ _ _ h => h) ?_
      refine wd_skip (i := 6) [0] rfl rfl rfl rfl (by kernel_rfl) (by kernel_rfl) (fun _ _ _ h => h) ?_
      refine wd_skip (i := 7) [0] rfl rfl rfl rfl (by kernel_rfl) (by kernel_rfl) (fun _ _ _ h => h) ?_
      refine wd_skip (i := 8) [0] rfl rfl rfl rfl (by kernel_rfl) (by kernel_rfl) (fun _ _ _ h => h) ?_
      refine wd_skip (i := 9) [0] rfl rfl rfl rfl (by kernel_rfl) (by kernel_rfl) (fun _ _ _ h => h) ?_
      refine wd_skip (i := 10) [0] rfl rfl rfl rfl (by kernel_rfl) (by kernel_rfl) (fun _ _ _ h => h) ?_
      refine wd_skip (i := 11) [0] rfl rfl rfl rfl (by kernel_rfl) (by kernel_rfl) (fun _ _ _ h => h) ?_
      refine wd_skip (i := 12) [0] rfl rfl rfl rfl (by kernel_rfl) (by kernel_rfl) (fun _ _ _ h => h) ?_
      refine wd_skip (i := 13) [0] rfl rfl rfl rfl (by kernel_rfl) (by kernel_rfl) (fun _ _ _ h => h) ?_
      refine wd_skip (i := 14) [0] rfl rfl rfl rfl (by kernel_rfl) (by kernel_rfl) (fun _ _ _ h => h) ?_
      refine wd_skip (i := 15) [0] rfl rfl rfl rfl (by kernel_rfl) (by kernel_rfl) (fun _ _ _ h => h) ?_
      refine wd_skip (i := 16) [0] rfl rfl rfl rfl (by kernel_rfl) (by kernel_rfl) (fun _ _ _ h => h) ?_
      refine wd_take (i := 17) [0] rfl rfl rfl rfl rfl (by kernel_rfl) (by kernel_rfl) (fun _ _ _ _ h => h) (yh_pickT rfl rfl rfl) ?_
      refine wd_done (by kernel_rfl) ?_
      refine ex_seq ?_
      refine cw_true rfl ?_
      refine cw_seq ?_
      refine cw_region ?_
      refine wl_u rfl (ow_y (yh_assign rfl rfl) rfl rfl (kk_wl ?_))
      refine wl_nil ?_
      refine ex_seq ?_
      refine cw_ret ?_
      refine ex_block_ret ?_
      refine ex_then_ret ?_
      refine ex_then_ret ?_
      refine ex_block_ret ?_
      refine ex_then_ret ?_
      obtain rfl := Option.some.inj h
      obtain rfl := go_ret hk5
      exact ex_r1 Tb rfl (.tmp rfl) (fun wq hq => ⟨_, rfl, hq.ext, rfl⟩)
    · skip
      replace h := bf c2 h
      refine wd_take (i := 4) [0] rfl rfl rfl rfl rfl (by kernel_rfl) (by kernel_rfl) (fun _ _ _ _ h => h) (yh_move rfl rfl) ?_
      refine wd_take (i := 5) [0] rfl rfl rfl rfl rfl (by kernel_rfl) (by kernel_rfl) (fun _ _ _ _ h => h) (yh_cmpI rfl rfl rfl rfl) ?_
      refine wd_take (i := 6) [0] rfl rfl rfl rfl rfl (by kernel_rfl) (by kernel_rfl) (fun _ _ _ _ h => h) (yh_move rfl rfl) ?_
      refine wd_split 7 rfl rfl rfl (fun c3 => ?_) (fun c3 => ?_)
      · skip
        replace h := bt c3 h
        have q2 := ltb_true.1 c3
        refine wd_take (i := 7) [0] rfl rfl rfl rfl rfl (by kernel_rfl) (by kernel_rfl) (fun _ _ _ _ h => h) (yh_field Tb rfl rfl rfl) ?_
        refine wd_take (i := 8) [0] rfl rfl rfl rfl rfl (by kernel_rfl) (by kernel_rfl) (fun _ _ _ _ h => h) (yh_loadB Tb (k := 0) rfl rfl rfl rfl rfl) ?_
        refine wd_take (i := 9) [0] rfl rfl rfl rfl rfl (by kernel_rfl) (by kernel_rfl) (fun _ _ _ _ h => h) (yh_move rfl rfl) ?_
        refine wd_take (i := 10) [0] rfl rfl rfl rfl rfl (by kernel_rfl) (by kernel_rfl) (fun _ _ _ _ h => h) (yh_move rfl rfl) ?_
        refine wd_take (i := 11) [0] rfl rfl rfl rfl rfl (by kernel_rfl) (by kernel_rfl) (fun _ _ _ _ h => h) (yh_arI rfl rfl rfl rfl (by omega)) ?_
        obtain ⟨y24, zy24, h⟩ := bd h
        obtain ⟨iy24, hy24⟩ := geti_some zy24
        obtain ⟨a24, e24, hc24, hf24⟩ := get_flow h_list_ hy24
        have mx24 := rd_max hf24
        refine wd_take (i := 12) [0] rfl rfl rfl rfl rfl (by kernel_rfl) (by kernel_rfl) (fun _ _ _ _ h => h) (yh_idx Tb (k := (((s7 : Nat) : Int) - 1).toNat) rfl rfl rfl iy24 (get_lt hy24) rfl rfl) ?_
        refine wd_take (i := 13) [0] rfl rfl rfl rfl rfl (by kernel_rfl) (by kernel_rfl) (fun _ _ _ _ h => h) (yh_field Tb rfl rfl rfl) ?_
        refine wd_take (i := 14) [0] rfl rfl rfl rfl rfl (by kernel_rfl) (by kernel_rfl) (fun _ _ _ _ h => h) (yh_loadAF Tb (j := 0) rfl rfl rfl hc24 rfl) ?_
        refine wd_take (i := 15) [0] rfl rfl rfl rfl rfl (by kernel_rfl) (by kernel_rfl) (fun _ _ _ _ h => h) (yh_cmpI rfl rfl rfl rfl) ?_
        refine wd_take (i := 16) [0] rfl rfl rfl rfl rfl (by kernel_rfl) (by kernel_rfl) (fun _ _ _ _ h => h) (yh_pickT rfl rfl rfl) ?_
        refine wd_take (i := 17) [0] rfl rfl rfl rfl rfl (by kernel_rfl) (by kernel_rfl) (fun _ _ _ _ h => h) (yh_pickF rfl rfl rfl) ?_
        refine wd_done (by kernel_rfl) ?_
        refine ex_seq ?_
        refine cw_split rfl (fun c4 => ?_) (fun c4 => ?_)
        · skip
          replace h := bt c4 h
          have q3 := leb_true.1 c4
          refine cw_seq ?_
          refine cw_region ?_
          refine wl_u rfl (ow_y (yh_assign rfl rfl) rfl rfl (kk_wl ?_))
          refine wl_nil ?_
          refine ex_seq ?_
          refine cw_ret ?_
          refine ex_block_ret ?_
          refine ex_then_ret ?_
          refine ex_then_ret ?_
          refine ex_block_ret ?_
          refine ex_then_ret ?_
          obtain rfl := Option.some.inj h
          obtain rfl := go_ret hk5
          exact ex_r1 Tb rfl (.tmp rfl) (fun wq hq => ⟨_, rfl, hq.ext, rfl⟩)
        · skip
          replace h := bf c4 h
          have q4 := leb_false.1 c4
          refine cw_skip ?_
          refine ex_block_normal ?_
          refine ex_seq ?_
          refine cw_region ?_
          refine wl_u rfl (ow_y (yh_arI rfl rfl rfl rfl (by omega)) rfl rfl (kk_wl ?_))
          refine wl_u rfl (ow_y (yh_move rfl rfl) rfl rfl (kk_wl ?_))
          refine wl_nil ?_
          exact ex_next [] (hn5 (n5, s7 + 1) (Nat.lt_succ_self _) h) ⟨rfl, rfl, rfl, rfl, trivial⟩ (by kernel_rfl)
      · skip
        replace h := bf c3 h
        have q5 := ltb_false.1 c3
        refine wd_skip (i := 7) [0] rfl rfl rfl rfl (by kernel_rfl) (by kernel_rfl) (fun _ _ _ h => h) ?_
        refine wd_skip (i := 8) [0] rfl rfl rfl rfl (by kernel_rfl) (by kernel_rfl) (fun _ _ _ h => h) ?_
        refine wd_skip (i := 9) [0] rfl rfl rfl rfl (by kernel_rfl) (by kernel_rfl) (fun _ _ _ h => h) ?_
        refine wd_skip (i := 10) [0] rfl rfl rfl rfl (by kernel_rfl) (by kernel_rfl) (fun _ _ _ h => h) ?_
        refine wd_skip (i := 11) [0] rfl rfl rfl rfl (by kernel_rfl) (by kernel_rfl) (fun _ _ _ h => h) ?_
        refine wd_skip (i := 12) [0] rfl rfl rfl rfl (by kernel_rfl) (by kernel_rfl) (fun _ _ _ h => h) ?_
        refine wd_skip (i := 13) [0] rfl rfl rfl rfl (by kernel_rfl) (by kernel_rfl) (fun _ _ _ h => h) ?_
        refine wd_skip (i := 14) [0] rfl rfl rfl rfl (by kernel_rfl) (by kernel_rfl) (fun _ _ _ h => h) ?_
        refine wd_skip (i := 15) [0] rfl rfl rfl rfl (by kernel_rfl) (by kernel_rfl) (fun _ _ _ h => h) ?_
        refine wd_take (i := 16) [0] rfl rfl rfl rfl rfl (by kernel_rfl) (by kernel_rfl) (fun _ _ _ _ h => h) (yh_pickF rfl rfl rfl) ?_
        refine wd_take (i := 17) [0] rfl rfl rfl rfl rfl (by kernel_rfl) (by kernel_rfl) (fun _ _ _ _ h => h) (yh_pickF rfl rfl rfl) ?_
        refine wd_done (by kernel_rfl) ?_
        refine ex_seq ?_
        refine cw_false rfl ?_
        refine cw_skip ?_
        refine ex_block_normal ?_
        refine ex_seq ?_
        refine cw_region ?_
        refine wl_u rfl (ow_y (yh_arI rfl rfl rfl rfl (by omega)) rfl rfl (kk_wl ?_))
        refine wl_u rfl (ow_y (yh_move rfl rfl) rfl rfl (kk_wl ?_))
        refine wl_nil ?_
        exact ex_next [] (hn5 (n5, s7 + 1) (Nat.lt_succ_self _) h) ⟨rfl, rfl, rfl, rfl, trivial⟩ (by kernel_rfl)
  · skip
    replace h := bf c1 h
    have q6 := ltb_false.1 c1
    refine cw_exit ?_
    refine ex_then_exit ?_
    refine ex_then_exit ?_
    obtain rfl := Option.some.inj h
    have h := go_brk hk5
    refine ex_block_exit ?_
    refine ex_seq ?_
    refine cw_seq ?_
    refine cw_region ?_
    refine wl_u rfl (ow_y (yh_move rfl rfl) rfl rfl (kk_wl ?_))
    refine wl_u rfl (ow_y (yh_lenS Tb rfl rfl rfl rfl) rfl rfl (kk_wl ?_))
    refine wl_u rfl (ow_y (yh_cmpI rfl rfl rfl rfl) rfl rfl (kk_wl ?_))
    refine wl_u rfl (ow_y (yh_assign rfl rfl) rfl rfl (kk_wl ?_))
    refine wl_nil ?_
    refine ex_seq ?_
    refine cw_ret ?_
    obtain rfl := Option.some.inj h
    exact ex_r1 Tb rfl (.tmp rfl) (fun wq hq => ⟨_, rfl, hq.ext, rfl⟩)

def m_impl_versionAt_f1 (N : Nat) (f : Flow) (version : Int) : Option (Bool) := some (eqb f.ver version)

set_option maxHeartbeats 4000000 in
theorem c_impl_versionAt_f1 (N : Nat) (f : Flow) (version : Int) (res : Bool) (h : m_impl_versionAt_f1 N f version = some res) (w : World) {a_f_steps : Option Addr} {c_f_steps : Nat} {g_version : Nat} (h_f_steps : stepsL.rd w [] [.slice a_f_steps f.steps.length c_f_steps] f.steps) (hg_version : CellN w [] g_version 0 [.int .i64 version]) : Ret Try.prog 113 [.agg #[.int .i64 f.ver, .slice a_f_steps f.steps.length c_f_steps], .pointer (some ⟨g_version, 0, none⟩)] w [] fun v w' => v = .bool res := by
  have mh_f_steps := rd_max h_f_steps
  unfold m_impl_versionAt_f1 at h
  refine ret_enter Try.func113 rfl Try.ntmps113 rfl (Hp.refl w _) ?_
  refine cw_seq ?_
  refine cw_region ?_
  refine wl_u rfl (ow_boxA rfl rfl rfl rfl (fun g2 => kk_wl ?_))
  refine wl_u rfl (ow_y (yh_assign rfl rfl) rfl rfl (kk_wl ?_))
  refine wl_nil ?_
  refine ex_seq ?_
  refine cw_seq ?_
  refine cw_region ?_
  refine wl_u rfl (ow_y (yh_field Tb rfl rfl rfl) rfl rfl (kk_wl ?_))
  refine wl_u rfl (ow_y (yh_loadB Tb (k := 0) rfl rfl rfl rfl rfl) rfl rfl (kk_wl ?_))
  refine wl_u rfl (ow_y (yh_loadA0 Tb rfl rfl rfl hg_version rfl) rfl rfl (kk_wl ?_))
  refine wl_u rfl (ow_y (yh_cmpI rfl rfl rfl rfl) rfl rfl (kk_wl ?_))
  refine wl_u rfl (ow_y (yh_assign rfl rfl) rfl rfl (kk_wl ?_))
  refine wl_nil ?_
  refine ex_seq ?_
  refine cw_ret ?_
  obtain rfl := Option.some.inj h
  exact ex_r1 Tb rfl (.tmp rfl) (fun wq hq => ⟨_, rfl, hq.ext, rfl⟩)

def m_slices_IndexFunc_Flow_L4 (N : Nat) (s_ : List Flow) (f : Flow → Option Bool) : Nat → Nat → Option (Ex (Nat) (Int))
  | 0, _ => none
  | n + 1, s8 => (bif ltb ((s8 : Nat) : Int) ((s_.length : Nat) : Int) then (s_[s8]?).bind fun y14 => (f y14).bind fun x16 => (bif x16 then some (Ex.ret ((s8 : Nat) : Int))
 else m_slices_IndexFunc_Flow_L4 N s_ f n (s8 + 1))
 else some (Ex.brk (s8)))

def m_slices_IndexFunc_Flow (N : Nat) (s_ : List Flow) (f : Flow → Option Bool) : Option (Int) := (m_slices_IndexFunc_Flow_L4 N s_ f N 0).bind fun e4 => e4.go (fun r => r) fun b4 => some (-1)

set_option maxHeartbeats 4000000 in
theorem c_slices_IndexFunc_Flow (N : Nat) (s_ : List Flow) (f : Flow → Option Bool) (res : Int) (h : m_slices_IndexFunc_Flow N s_ f = some res) (w : World) {a_s_ : Option Addr} {c_s_ : Nat} {k_f : FuncId} {caps_f : List Value} (h_s_ : flowsL.rd w [] [.slice a_s_ s_.length c_s_] s_) (hb_f : hasBody Try.prog k_f) (hf_f : ∀ x0 b, f x0 = some b → ∀ w', ExtM [] w w' → ∀ a1 c1, stepsL.rd w' [] [.slice a1 x0.steps.length c1] x0.steps → Ret Try.prog k_f ([.agg #[.int .i64 x0.ver, .slice a1 x0.steps.length c1]] ++ caps_f) w' [] fun v _ => v = .bool b) : Ret Try.prog 112 [.slice a_s_ s_.length c_s_, .func (.func k_f) #[] caps_f.toArray] w [] fun v w' => v = .int .i64 res := by
  have mh_s_ := rd_max h_s_
  unfold m_slices_IndexFunc_Flow at h
  refine ret_enter Try.func112 rfl Try.ntmps112 rfl (Hp.refl w _) ?_
  refine cw_seq ?_
  refine cw_region ?_
  refine wl_u rfl (ow_y (yh_assign rfl rfl) rfl rfl (kk_wl ?_))
  refine wl_nil ?_
  refine ex_seq ?_
  refine cw_seq ?_
  refine cw_seq ?_
  refine cw_region ?_
  refine wl_u rfl (ow_y (yh_move rfl rfl) rfl rfl (kk_wl ?_))
  refine wl_u rfl (ow_y (yh_lenS Tb rfl rfl rfl rfl) rfl rfl (kk_wl ?_))
  refine wl_u rfl (ow_y (yh_move rfl rfl) rfl rfl (kk_wl ?_))
  refine wl_nil ?_
  refine ex_seq ?_
  refine cw_block ?_
  obtain ⟨e4, he4, hk4⟩ := bd h
  clear h
  refine cw_loopG (σ := Nat × Nat) (fun s => m_slices_IndexFunc_Flow_L4 N s_ f s.1 s.2 = some e4) (fun s => [(0, .slice a_s_ s_.length c_s_), (1, .func (.func k_f) #[] caps_f.toArray), (7, .int .i64 ((s_.length : Nat) : Int)), (8, .int .i64 ((s.2 : Nat) : Int))]) (fun s => []) (fun s => s.1) (N, 0) [] he4 ⟨rfl, rfl, rfl, rfl, trivial⟩ rfl (fun KL s he4 hn4 => ?_)
  obtain ⟨n4, s8⟩ := s
  simp only at he4 hn4 ⊢
  rcases n4 with _ | n4
  · exact nosome he4
  have h := he4; rw [m_slices_IndexFunc_Flow_L4] at h
  refine cw_seq ?_
  refine cw_region ?_
  refine wl_u rfl (ow_y (yh_cmpI rfl rfl rfl rfl) rfl rfl (kk_wl ?_))
  refine wl_nil ?_
  refine ex_seq ?_
  refine cw_seq ?_
  refine cw_split rfl (fun c1 => ?_) (fun c1 => ?_)
  · skip
    replace h := bt c1 h
    have q1 := ltb_true.1 c1
    refine cw_skip ?_
    refine ex_seq ?_
    refine cw_seq ?_
    refine cw_block ?_
    refine cw_seq ?_
    refine cw_region ?_
    refine wl_u rfl (ow_y (yh_move rfl rfl) rfl rfl (kk_wl ?_))
    refine wl_u rfl (ow_y (yh_assign rfl rfl) rfl rfl (kk_wl ?_))
    refine wl_nil ?_
    refine ex_seq ?_
    refine cw_seq ?_
    refine cw_region ?_
    refine wl_u rfl (ow_y (yh_move rfl rfl) rfl rfl (kk_wl ?_))
    refine wl_u rfl (ow_y (yh_move rfl rfl) rfl rfl (kk_wl ?_))
    refine wl_u rfl (ow_y (yh_move rfl rfl) rfl rfl (kk_wl ?_))
    obtain ⟨y14, hy14, h⟩ := bd h
    obtain ⟨b14, o14, ha14⟩ := sl_addr h_s_ hy14
    subst ha14
    obtain ⟨a14, e14, hc14, hf14⟩ := get_flow h_s_ hy14
    have mx14 := rd_max hf14
    refine wl_u rfl (ow_y (yh_idx Tb (k := s8) rfl rfl rfl rfl (get_lt hy14) rfl rfl) rfl rfl (kk_wl ?_))
    refine wl_u rfl (ow_y (yh_loadAN Tb rfl rfl rfl rfl hc14 rfl) rfl rfl (kk_wl ?_))
    obtain ⟨x16, hx16, h⟩ := bd h
    refine wl_u rfl (ow_callV rfl rfl hb_f rfl rfl (fun w hw => hf_f _ _ hx16 w hw.ext _ _ (Lay.at_ hf14 hw)) rfl rfl (kk_wl ?_))
    refine wl_nil ?_
    refine ex_seq ?_
    refine cw_split rfl (fun c2 => ?_) (fun c2 => ?_)
    · skip
      replace h := bt c2 h
      refine cw_seq ?_
      refine cw_region ?_
      refine wl_u rfl (ow_y (yh_move rfl rfl) rfl rfl (kk_wl ?_))
      refine wl_u rfl (ow_y (yh_assign rfl rfl) rfl rfl (kk_wl ?_))
      refine wl_nil ?_
      refine ex_seq ?_
      refine cw_ret ?_
      refine ex_block_ret ?_
      refine ex_then_ret ?_
      refine ex_then_ret ?_
      refine ex_block_ret ?_
      refine ex_then_ret ?_
      obtain rfl := Option.some.inj h
      obtain rfl := go_ret hk4
      exact ex_r1 Tb rfl (.tmp rfl) (fun wq hq => ⟨_, rfl, hq.ext, rfl⟩)
    · skip
      replace h := bf c2 h
      refine cw_skip ?_
      refine ex_block_normal ?_
      refine ex_seq ?_
      refine cw_region ?_
      refine wl_u rfl (ow_y (yh_arI rfl rfl rfl rfl (by omega)) rfl rfl (kk_wl ?_))
      refine wl_u rfl (ow_y (yh_move rfl rfl) rfl rfl (kk_wl ?_))
      refine wl_nil ?_
      exact ex_next [] (hn4 (n4, s8 + 1) (Nat.lt_succ_self _) h) ⟨rfl, rfl, rfl, rfl, trivial⟩ (by kernel_rfl)
  · skip
    replace h := bf c1 h
    have q2 := ltb_false.1 c1
    refine cw_exit ?_
    refine ex_then_exit ?_
    refine ex_then_exit ?_
    obtain rfl := Option.some.inj h
    have h := go_brk hk4
    refine ex_block_exit ?_
    refine ex_seq ?_
    refine cw_seq ?_
    refine cw_region ?_
    refine wl_u rfl (ow_y (yh_assign rfl rfl) rfl rfl (kk_wl ?_))
    refine wl_nil ?_
    refine ex_seq ?_
    refine cw_ret ?_
    obtain rfl := Option.some.inj h
    exact ex_r1 Tb rfl (.tmp rfl) (fun wq hq => ⟨_, rfl, hq.ext, rfl⟩)

def m_impl_versionAt (N : Nat) (list_ : List Flow) (version : Int) : Option (Int) := (m_slices_IndexFunc_Flow N list_ (fun x0 => m_impl_versionAt_f1 N x0 version)).bind fun x7 => some x7

set_option maxHeartbeats 4000000 in
theorem c_impl_versionAt (N : Nat) (list_ : List Flow) (version : Int) (res : Int) (h : m_impl_versionAt N list_ version = some res) (w : World) {a_list_ : Option Addr} {c_list_ : Nat} (h_list_ : flowsL.rd w [] [.slice a_list_ list_.length c_list_] list_) : Ret Try.prog 72 [.slice a_list_ list_.length c_list_, .int .i64 version] w [] fun v w' => v = .int .i64 res := by
  have mh_list_ := rd_max h_list_
  unfold m_impl_versionAt at h
  refine ret_enter Try.func72 rfl Try.ntmps72 rfl (Hp.refl w _) ?_
  refine cw_seq ?_
  refine cw_region ?_
  refine wl_u rfl (ow_box1 rfl rfl rfl rfl rfl (fun g3 => kk_wl ?_))
  refine wl_u rfl (ow_y (yh_assign rfl rfl) rfl rfl (kk_wl ?_))
  refine wl_nil ?_
  refine ex_seq ?_
  refine cw_seq ?_
  refine cw_region ?_
  refine wl_u rfl (ow_y (yh_move rfl rfl) rfl rfl (kk_wl ?_))
  refine wl_u rfl (ow_y (yh_mkfn rfl rfl) rfl rfl (kk_wl ?_))
  obtain ⟨x7, hx7, h⟩ := bd h
  refine wl_u rfl (ow_cV rfl hb112 rfl (fun w hw => c_slices_IndexFunc_Flow N _ _ _ hx7 w (Lay.at_ h_list_ hw) hb113 (fun x0 b hb w' hE a1 c1 h1 => c_impl_versionAt_f1 N x0 version b hb w' h1 (cell_blk ((hw.step hE).at (i := 0) rfl)))) rfl rfl (kk_wl ?_))
  refine wl_u rfl (ow_y (yh_assign rfl rfl) rfl rfl (kk_wl ?_))
  refine wl_nil ?_
  refine ex_seq ?_
  refine cw_ret ?_
  obtain rfl := Option.some.inj h
  exact ex_r1 Tb rfl (.tmp rfl) (fun wq hq => ⟨_, rfl, hq.ext, rfl⟩)

def m_slices_Index_int_L4 (N : Nat) (s_ : List Int) (v_ : Int) : Nat → Nat → Option (Ex (Nat) (Int))
  | 0, _ => none
  | n + 1, s8 => (bif ltb ((s8 : Nat) : Int) ((s_.length : Nat) : Int) then (s_[s8]?).bind fun y14 => (bif eqb v_ y14 then some (Ex.ret ((s8 : Nat) : Int))
 else m_slices_Index_int_L4 N s_ v_ n (s8 + 1))
 else some (Ex.brk (s8)))

def m_slices_Index_int (N : Nat) (s_ : List Int) (v_ : Int) : Option (Int) := (m_slices_Index_int_L4 N s_ v_ N 0).bind fun e4 => e4.go (fun r => r) fun b4 => some (-1)

set_option maxHeartbeats 4000000 in
theorem c_slices_Index_int (N : Nat) (s_ : List Int) (v_ : Int) (res : Int) (h : m_slices_Index_int N s_ v_ = some res) (w : World) {a_s_ : Option Addr} {c_s_ : Nat} (h_s_ : intsL.rd w [] [.slice a_s_ s_.length c_s_] s_) : Ret Try.prog 114 [.slice a_s_ s_.length c_s_, .int .i64 v_] w [] fun v w' => v = .int .i64 res := by
  have mh_s_ := rd_max h_s_
  unfold m_slices_Index_int at h
  refine ret_enter Try.func114 rfl Try.ntmps114 rfl (Hp.refl w _) ?_
  refine cw_seq ?_
  refine cw_region ?_
  refine wl_u rfl (ow_y (yh_assign rfl rfl) rfl rfl (kk_wl ?_))
  refine wl_nil ?_
  refine ex_seq ?_
  refine cw_seq ?_
  refine cw_seq ?_
  refine cw_region ?_
  refine wl_u rfl (ow_y (yh_move rfl rfl) rfl rfl (kk_wl ?_))
  refine wl_u rfl (ow_y (yh_lenS Tb rfl rfl rfl rfl) rfl rfl (kk_wl ?_))
  refine wl_u rfl (ow_y (yh_move rfl rfl) rfl rfl (kk_wl ?_))
  refine wl_nil ?_
  refine ex_seq ?_
  refine cw_block ?_
  obtain ⟨e4, he4, hk4⟩ := bd h
  clear h
  refine cw_loopG (σ := Nat × Nat) (fun s => m_slices_Index_int_L4 N s_ v_ s.1 s.2 = some e4) (fun s => [(0, .slice a_s_ s_.length c_s_), (1, .int .i64 v_), (7, .int .i64 ((s_.length : Nat) : Int)), (8, .int .i64 ((s.2 : Nat) : Int))]) (fun s => []) (fun s => s.1) (N, 0) [] he4 ⟨rfl, rfl, rfl, rfl, trivial⟩ rfl (fun KL s he4 hn4 => ?_)
  obtain ⟨n4, s8⟩ := s
  simp only at he4 hn4 ⊢
  rcases n4 with _ | n4
  · exact nosome he4
  have h := he4; rw [m_slices_Index_int_L4] at h
  refine cw_seq ?_
  refine cw_region ?_
  refine wl_u rfl (ow_y (yh_cmpI rfl rfl rfl rfl) rfl rfl (kk_wl ?_))
  refine wl_nil ?_
  refine ex_seq ?_
  refine cw_seq ?_
  refine cw_split rfl (fun c1 => ?_) (fun c1 => ?_)
  · skip
    replace h := bt c1 h
    have q1 := ltb_true.1 c1
    refine cw_skip ?_
    refine ex_seq ?_
    refine cw_seq ?_
    refine cw_block ?_
    refine cw_seq ?_
    refine cw_region ?_
    refine wl_u rfl (ow_y (yh_move rfl rfl) rfl rfl (kk_wl ?_))
    refine wl_u rfl (ow_y (yh_assign rfl rfl) rfl rfl (kk_wl ?_))
    refine wl_nil ?_
    refine ex_seq ?_
    refine cw_seq ?_
    refine cw_region ?_
    refine wl_u rfl (ow_y (yh_move rfl rfl) rfl rfl (kk_wl ?_))
    refine wl_u rfl (ow_y (yh_move rfl rfl) rfl rfl (kk_wl ?_))
    refine wl_u rfl (ow_y (yh_move rfl rfl) rfl rfl (kk_wl ?_))
    obtain ⟨y14, hy14, h⟩ := bd h
    obtain ⟨b14, o14, ha14⟩ := sl_addr h_s_ hy14
    subst ha14
    have hc14 := get_int h_s_ hy14
    refine wl_u rfl (ow_y (yh_idx Tb (k := s8) rfl rfl rfl rfl (get_lt hy14) rfl rfl) rfl rfl (kk_wl ?_))
    refine wl_u rfl (ow_y (yh_loadA0 Tb rfl rfl rfl hc14 rfl) rfl rfl (kk_wl ?_))
    refine wl_u rfl (ow_y (yh_cmpI rfl rfl rfl rfl) rfl rfl (kk_wl ?_))
    refine wl_nil ?_
    refine ex_seq ?_
    refine cw_split rfl (fun c2 => ?_) (fun c2 => ?_)
    · skip
      replace h := bt c2 h
      have q2 := eqb_true.1 c2
      refine cw_seq ?_
      refine cw_region ?_
      refine wl_u rfl (ow_y (yh_move rfl rfl) rfl rfl (kk_wl ?_))
      refine wl_u rfl (ow_y (yh_assign rfl rfl) rfl rfl (kk_wl ?_))
      refine wl_nil ?_
      refine ex_seq ?_
      refine cw_ret ?_
      refine ex_block_ret ?_
      refine ex_then_ret ?_
      refine ex_then_ret ?_
      refine ex_block_ret ?_
      refine ex_then_ret ?_
      obtain rfl := Option.some.inj h
      obtain rfl := go_ret hk4
      exact ex_r1 Tb rfl (.tmp rfl) (fun wq hq => ⟨_, rfl, hq.ext, rfl⟩)
    · skip
      replace h := bf c2 h
      have q3 := eqb_false.1 c2
      refine cw_skip ?_
      refine ex_block_normal ?_
      refine ex_seq ?_
      refine cw_region ?_
      refine wl_u rfl (ow_y (yh_arI rfl rfl rfl rfl (by omega)) rfl rfl (kk_wl ?_))
      refine wl_u rfl (ow_y (yh_move rfl rfl) rfl rfl (kk_wl ?_))
      refine wl_nil ?_
      exact ex_next [] (hn4 (n4, s8 + 1) (Nat.lt_succ_self _) h) ⟨rfl, rfl, rfl, rfl, trivial⟩ (by kernel_rfl)
  · skip
    replace h := bf c1 h
    have q4 := ltb_false.1 c1
    refine cw_exit ?_
    refine ex_then_exit ?_
    refine ex_then_exit ?_
    obtain rfl := Option.some.inj h
    have h := go_brk hk4
    refine ex_block_exit ?_
    refine ex_seq ?_
    refine cw_seq ?_
    refine cw_region ?_
    refine wl_u rfl (ow_y (yh_assign rfl rfl) rfl rfl (kk_wl ?_))
    refine wl_nil ?_
    refine ex_seq ?_
    refine cw_ret ?_
    obtain rfl := Option.some.inj h
    exact ex_r1 Tb rfl (.tmp rfl) (fun wq hq => ⟨_, rfl, hq.ext, rfl⟩)

def m_slices_Contains_int (N : Nat) (s_ : List Int) (v_ : Int) : Option (Bool) := (m_slices_Index_int N s_ v_).bind fun x7 => some (leb 0 x7)

set_option maxHeartbeats 4000000 in
theorem c_slices_Contains_int (N : Nat) (s_ : List Int) (v_ : Int) (res : Bool) (h : m_slices_Contains_int N s_ v_ = some res) (w : World) {a_s_ : Option Addr} {c_s_ : Nat} (h_s_ : intsL.rd w [] [.slice a_s_ s_.length c_s_] s_) : Ret Try.prog 73 [.slice a_s_ s_.length c_s_, .int .i64 v_] w [] fun v w' => v = .bool res := by
  have mh_s_ := rd_max h_s_
  unfold m_slices_Contains_int at h
  refine ret_enter Try.func73 rfl Try.ntmps73 rfl (Hp.refl w _) ?_
  refine cw_seq ?_
  refine cw_region ?_
  refine wl_u rfl (ow_y (yh_assign rfl rfl) rfl rfl (kk_wl ?_))
  refine wl_nil ?_
  refine ex_seq ?_
  refine cw_seq ?_
  refine cw_region ?_
  refine wl_u rfl (ow_y (yh_move rfl rfl) rfl rfl (kk_wl ?_))
  refine wl_u rfl (ow_y (yh_move rfl rfl) rfl rfl (kk_wl ?_))
  obtain ⟨x7, hx7, h⟩ := bd h
  refine wl_u rfl (ow_cV rfl hb114 rfl (fun w hw => c_slices_Index_int N _ _ _ hx7 w (Lay.at_ h_s_ hw)) rfl rfl (kk_wl ?_))
  refine wl_u rfl (ow_y (yh_cmpI rfl rfl rfl rfl) rfl rfl (kk_wl ?_))
  refine wl_u rfl (ow_y (yh_assign rfl rfl) rfl rfl (kk_wl ?_))
  refine wl_nil ?_
  refine ex_seq ?_
  refine cw_ret ?_
  obtain rfl := Option.some.inj h
  exact ex_r1 Tb rfl (.tmp rfl) (fun wq hq => ⟨_, rfl, hq.ext, rfl⟩)

def m_impl_cloneNames (N : Nat) (list_ : List Str) : Option (List Str) := (appd ([] : List Str) list_).bind fun l4 => some (([] : List Str) ++ list_)

set_option maxHeartbeats 4000000 in
theorem c_impl_cloneNames (N : Nat) (list_ : List Str) (res : List Str) (h : m_impl_cloneNames N list_ = some res) (w : World) {a_list_ : Option Addr} {c_list_ : Nat} (h_list_ : strsL.rd w [] [.slice a_list_ list_.length c_list_] list_) : Ret Try.prog 95 [.slice a_list_ list_.length c_list_] w [] fun v w' => ∃ a1 c1 F1, v = .slice a1 res.length c1 ∧ NewC w w' [owC strsL F1 [.slice a1 res.length c1] res] := by
  have mh_list_ := rd_max h_list_
  unfold m_impl_cloneNames at h
  refine ret_enter Try.func95 rfl Try.ntmps95 rfl (Hp.refl w _) ?_
  refine cw_seq ?_
  refine cw_region ?_
  refine wl_u rfl (ow_y (yh_assign rfl rfl) rfl rfl (kk_wl ?_))
  refine wl_nil ?_
  refine ex_seq ?_
  refine cw_seq ?_
  refine cw_region ?_
  refine wl_u rfl (ow_y (yh_move rfl rfl) rfl rfl (kk_wl ?_))
  obtain ⟨hll4, h⟩ := bd_appd h
  refine wl_u rfl (ow_nilS strsL rfl (ow_appP Tb (i := 0) rfl rfl rfl rfl rfl (fun w hw => Lay.at_ h_list_ hw) rfl rfl rfl rfl hll4 (by decide) rfl rfl (fun a4 c4 F4 => kk_wl ?_)))
  refine wl_u rfl (ow_y (yh_assign rfl rfl) rfl rfl (kk_wl ?_))
  refine wl_nil ?_
  refine ex_seq ?_
  refine cw_ret ?_
  obtain rfl := Option.some.inj h
  exact ex_r1 Tb rfl (.tmp rfl) (fun wq hq => ⟨_, rfl, hq.ext, ⟨a4, c4, F4, rfl, NewC.sel [0] hq rfl⟩⟩)

def m_impl_Step_clone (N : Nat) (s_ : Step) : Option (Step) := (m_impl_cloneNames N s_.after).bind fun x5 => some (Step.mk s_.name x5 s_.undo)

set_option maxHeartbeats 4000000 in
theorem c_impl_Step_clone (N : Nat) (s_ : Step) (res : Step) (h : m_impl_Step_clone N s_ = some res) (w : World) {a_s__after : Option Addr} {c_s__after : Nat} (h_s__after : strsL.rd w [] [.slice a_s__after s_.after.length c_s__after] s_.after) : Ret Try.prog 105 [.agg #[.string s_.name, .slice a_s__after s_.after.length c_s__after, .bool s_.undo]] w [] fun v w' => ∃ a1 c1 F1, v = .agg #[.string res.name, .slice a1 res.after.length c1, .bool res.undo] ∧ NewC w w' [owC strsL F1 [.slice a1 res.after.length c1] res.after] := by
  have mh_s__after := rd_max h_s__after
  unfold m_impl_Step_clone at h
  refine ret_enter Try.func105 rfl Try.ntmps105 rfl (Hp.refl w _) ?_
  refine cw_seq ?_
  refine cw_region ?_
  refine wl_u rfl (ow_boxA rfl rfl rfl rfl (fun g1 => kk_wl ?_))
  refine wl_u rfl (ow_allocA Tb rfl rfl rfl rfl (fun g2 => kk_wl ?_))
  refine wl_nil ?_
  refine ex_seq ?_
  refine cw_seq ?_
  refine cw_region ?_
  refine wl_u rfl (ow_y (yh_field Tb rfl rfl rfl) rfl rfl (kk_wl ?_))
  refine wl_u rfl (ow_y (yh_loadB Tb (k := 1) rfl rfl rfl rfl rfl) rfl rfl (kk_wl ?_))
  obtain ⟨x5, hx5, h⟩ := bd h
  refine wl_u rfl (ow_cN1 rfl hb95 rfl (fun w hw => c_impl_cloneNames N _ _ hx5 w (Lay.at_ h_s__after hw)) rfl rfl (fun a5 c5 F5 => kk_wl ?_))
  refine wl_u rfl (ow_y (yh_field Tb rfl rfl rfl) rfl rfl (kk_wl ?_))
  refine wl_u rfl (ow_store1 Tb (k := 2) rfl rfl rfl rfl rfl rfl rfl rfl rfl (kk_wl ?_))
  refine wl_nil ?_
  refine ex_seq ?_
  refine cw_seq ?_
  refine cw_region ?_
  refine wl_u rfl (ow_y (yh_loadBA Tb (k := 0) rfl rfl rfl rfl rfl rfl) rfl rfl (kk_wl ?_))
  refine wl_u rfl (ow_storeA Tb (k := 2) rfl rfl rfl rfl rfl rfl rfl rfl rfl (kk_wl ?_))
  refine wl_nil ?_
  refine ex_seq ?_
  refine cw_ret ?_
  obtain rfl := Option.some.inj h
  exact ex_r1 Tb rfl (.cellA 0 rfl rfl rfl rfl rfl) (fun wq hq => ⟨_, rfl, hq.ext, ⟨a5, c5, F5, rfl, NewC.sel [2] hq rfl⟩⟩)

def m_impl_Flow_clone_L6 (N : Nat) (f : Flow) : Nat → (List Step) → Nat → Option (Ex (List Step × Nat) (Flow))
  | 0, _, _ => none
  | n + 1, s3_c_1, s12 => (bif ltb ((s12 : Nat) : Int) ((f.steps.length : Nat) : Int) then (f.steps[s12]?).bind fun y14 => (m_impl_Step_clone N y14).bind fun x19 => (appd s3_c_1 [x19]).bind fun l21 => m_impl_Flow_clone_L6 N f n (s3_c_1 ++ [x19]) (s12 + 1)
 else some (Ex.brk (s3_c_1, s12)))

def m_impl_Flow_clone (N : Nat) (f : Flow) : Option (Flow) := (m_impl_Flow_clone_L6 N f N ([] : List Step) 0).bind fun e6 => e6.go (fun r => r) fun b6 => some (Flow.mk f.ver b6.1)

set_option maxHeartbeats 4000000 in
theorem c_impl_Flow_clone (N : Nat) (f : Flow) (res : Flow) (h : m_impl_Flow_clone N f = some res) (w : World) {a_f_steps : Option Addr} {c_f_steps : Nat} (h_f_steps : stepsL.rd w [] [.slice a_f_steps f.steps.length c_f_steps] f.steps) : Ret Try.prog 63 [.agg #[.int .i64 f.ver, .slice a_f_steps f.steps.length c_f_steps]] w [] fun v w' => ∃ a1 c1 F1, v = .agg #[.int .i64 res.ver, .slice a1 res.steps.length c1] ∧ NewC w w' [owC stepsL F1 [.slice a1 res.steps.length c1] res.steps] := by
  have mh_f_steps := rd_max h_f_steps
  unfold m_impl_Flow_clone at h
  refine ret_enter Try.func63 rfl Try.ntmps63 rfl (Hp.refl w _) ?_
  refine cw_seq ?_
  refine cw_region ?_
  refine wl_u rfl (ow_boxA rfl rfl rfl rfl (fun g1 => kk_wl ?_))
  refine wl_u rfl (ow_allocA Tb rfl rfl rfl rfl (fun g2 => kk_wl ?_))
  refine wl_nil ?_
  refine ex_seq ?_
  refine cw_seq ?_
  refine cw_region ?_
  refine wl_u rfl (ow_y (yh_field Tb rfl rfl rfl) rfl rfl (kk_wl ?_))
  refine wl_u rfl (ow_y (yh_loadB Tb (k := 1) rfl rfl rfl rfl rfl) rfl rfl (kk_wl ?_))
  refine wl_u rfl (ow_y (yh_build [.int .i64 f.ver, .slice none 0 0] rfl rfl (by kernel_rfl)) rfl rfl (kk_wl ?_))
  refine wl_u rfl (ow_allocA Tb rfl rfl rfl rfl (fun g3 => kk_wl ?_))
  refine wl_u rfl (ow_storeA Tb (k := 0) rfl rfl rfl rfl rfl rfl rfl rfl rfl (kk_wl ?_))
  refine wl_nil ?_
  refine ex_seq ?_
  refine cw_seq ?_
  refine cw_seq ?_
  refine cw_region ?_
  refine wl_u rfl (ow_y (yh_field Tb rfl rfl rfl) rfl rfl (kk_wl ?_))
  refine wl_u rfl (ow_y (yh_loadB Tb (k := 2) rfl rfl rfl rfl rfl) rfl rfl (kk_wl ?_))
  refine wl_u rfl (ow_y (yh_lenS Tb rfl rfl rfl rfl) rfl rfl (kk_wl ?_))
  refine wl_u rfl (ow_y (yh_move rfl rfl) rfl rfl (kk_wl ?_))
  refine wl_nil ?_
  refine ex_seq ?_
  refine cw_block ?_
  obtain ⟨e6, he6, hk6⟩ := bd h
  clear h
  refine cw_nilS stepsL rfl ?_
  refine cw_loopG (σ := Nat × (List Step) × Nat × (Option Addr) × Nat × (List Nat)) (fun s => m_impl_Flow_clone_L6 N f s.1 s.2.1 s.2.2.1 = some e6) (fun s => [(2, .pointer (some ⟨g2, 0, none⟩)), (3, .pointer (some ⟨g3, 0, none⟩)), (10, .slice a_f_steps f.steps.length c_f_steps), (11, .int .i64 ((f.steps.length : Nat) : Int)), (12, .int .i64 ((s.2.2.1 : Nat) : Int))]) (fun s => [blkC g2 26 [.int .i64 0, .slice none 0 0], blkC g3 26 [.int .i64 f.ver, .slice s.2.2.2.1 s.2.1.length s.2.2.2.2.1], owC stepsL s.2.2.2.2.2 [.slice s.2.2.2.1 s.2.1.length s.2.2.2.2.1] s.2.1]) (fun s => s.1) (N, ([] : List Step), 0, none, 0, []) [2, 1, 0] he6 ⟨rfl, rfl, rfl, rfl, rfl, trivial⟩ rfl (fun KL s he6 hn6 => ?_)
  obtain ⟨n6, s3_c_1, s12, as3_c_1, cs3_c_1, Fs3_c_1⟩ := s
  simp only at he6 hn6 ⊢
  rcases n6 with _ | n6
  · exact nosome he6
  have h := he6; rw [m_impl_Flow_clone_L6] at h
  refine cw_seq ?_
  refine cw_region ?_
  refine wl_u rfl (ow_y (yh_cmpI rfl rfl rfl rfl) rfl rfl (kk_wl ?_))
  refine wl_nil ?_
  refine ex_seq ?_
  refine cw_seq ?_
  refine cw_split rfl (fun c1 => ?_) (fun c1 => ?_)
  · skip
    replace h := bt c1 h
    have q1 := ltb_true.1 c1
    refine cw_skip ?_
    refine ex_seq ?_
    refine cw_seq ?_
    refine cw_block ?_
    refine cw_seq ?_
    refine cw_region ?_
    obtain ⟨y14, hy14, h⟩ := bd h
    obtain ⟨b14, o14, ha14⟩ := sl_addr h_f_steps hy14
    subst ha14
    obtain ⟨a14, e14, hc14, hf14⟩ := get_step h_f_steps hy14
    have mx14 := rd_max hf14
    refine wl_u rfl (ow_y (yh_idx Tb (k := s12) rfl rfl rfl rfl (get_lt hy14) rfl rfl) rfl rfl (kk_wl ?_))
    refine wl_u rfl (ow_y (yh_loadAN Tb rfl rfl rfl rfl hc14 rfl) rfl rfl (kk_wl ?_))
    refine wl_u rfl (ow_allocA Tb rfl rfl rfl rfl (fun g5 => kk_wl ?_))
    refine wl_u rfl (ow_storeA Tb (k := 0) rfl rfl rfl rfl rfl rfl rfl rfl rfl (kk_wl ?_))
    refine wl_nil ?_
    refine ex_seq ?_
    refine cw_dr [0, 1, 2] [5, 6, 7] [blkC g5 79 [.string y14.name, .slice a14 y14.after.length e14, .bool y14.undo], blkC g2 26 [.int .i64 0, .slice none 0 0], blkC g3 26 [.int .i64 f.ver, .slice as3_c_1 s3_c_1.length cs3_c_1], owC stepsL Fs3_c_1 [.slice as3_c_1 s3_c_1.length cs3_c_1] s3_c_1] (by kernel_rfl) ?_
    refine wd_take (i := 0) [0, 1, 2, 3] rfl rfl rfl rfl rfl (by kernel_rfl) (by kernel_rfl) (fun _ _ _ _ h => h) (yh_field Tb rfl rfl rfl) ?_
    refine wd_take (i := 1) [0, 1, 2, 3] rfl rfl rfl rfl rfl (by kernel_rfl) (by kernel_rfl) (fun _ _ _ _ h => h) (yh_loadB Tb (k := 2) rfl rfl rfl rfl rfl) ?_
    refine wd_take (i := 2) [0, 1, 2, 3] rfl rfl rfl rfl rfl (by kernel_rfl) (by kernel_rfl) (fun _ _ _ _ h => h) (yh_loadBA Tb (k := 0) rfl rfl rfl rfl rfl rfl) ?_
    obtain ⟨x19, hx19, h⟩ := bd h
    refine wd_one 3 rfl rfl (by kernel_rfl) (ow_cN1 rfl hb105 rfl (fun w hw => c_impl_Step_clone N _ _ hx19 w (Lay.at_ hf14 hw)) rfl rfl (fun a19 c19 F19 => kk_wd [1, 2, 3, 4] (by kernel_rfl) ?_))
    refine wd_one 4 rfl rfl (by kernel_rfl) (ow_litA Tb rfl rfl rfl rfl rfl rfl (by decide) rfl rfl (fun g20 => kk_wd [2, 3, 4, 5] (by kernel_rfl) ?_))
    obtain ⟨hll21, h⟩ := bd_appd h
    refine wd_one 5 rfl rfl (by kernel_rfl) (ow_chg (c' := owC stepL F19 [.string x19.name, .slice a19 x19.after.length c19, .bool x19.undo] x19) 1 rfl (fun w hA => stepL_mk x19 hA) rfl (ow_appE Tb (i := 5) (j := 0) (k := 1) rfl rfl rfl rfl rfl rfl rfl rfl rfl rfl rfl (app1 hll21) (by decide) rfl rfl (fun a21 c21 F21 => kk_wdT rfl ?_)))
    refine wd_one 6 rfl rfl (by kernel_rfl) (ow_y (yh_field Tb rfl rfl rfl) rfl rfl (kk_wdT rfl ?_))
    refine wd_one 7 rfl rfl (by kernel_rfl) (ow_store1 Tb (k := 4) rfl rfl rfl rfl rfl rfl rfl rfl rfl (kk_wdT rfl ?_))
    refine wd_done (by kernel_rfl) ?_
    refine ex_block_normal ?_
    refine ex_seq ?_
    refine cw_region ?_
    refine wl_u rfl (ow_y (yh_arI rfl rfl rfl rfl (by omega)) rfl rfl (kk_wl ?_))
    refine wl_u rfl (ow_y (yh_move rfl rfl) rfl rfl (kk_wl ?_))
    refine wl_nil ?_
    exact ex_next [4, 0, 1] (hn6 (n6, (s3_c_1 ++ [x19]), s12 + 1, a21, c21, F21) (Nat.lt_succ_self _) h) ⟨rfl, rfl, rfl, rfl, rfl, trivial⟩ (by kernel_rfl)
  · skip
    replace h := bf c1 h
    have q2 := ltb_false.1 c1
    refine cw_exit ?_
    refine ex_then_exit ?_
    refine ex_then_exit ?_
    obtain rfl := Option.some.inj h
    have h := go_brk hk6
    refine ex_block_exit ?_
    refine ex_seq ?_
    refine cw_seq ?_
    refine cw_region ?_
    refine wl_u rfl (ow_y (yh_loadBA Tb (k := 1) rfl rfl rfl rfl rfl rfl) rfl rfl (kk_wl ?_))
    refine wl_u rfl (ow_storeA Tb (k := 0) rfl rfl rfl rfl rfl rfl rfl rfl rfl (kk_wl ?_))
    refine wl_nil ?_
    refine ex_seq ?_
    refine cw_ret ?_
    obtain rfl := Option.some.inj h
    exact ex_r1 Tb rfl (.cellA 0 rfl rfl rfl rfl rfl) (fun wq hq => ⟨_, rfl, hq.ext, ⟨as3_c_1, cs3_c_1, Fs3_c_1, rfl, NewC.sel [2] hq rfl⟩⟩)

def m_impl_cloneFlows_L5 (N : Nat) (list_ : List Flow) : Nat → (List Flow) → Nat → Option (Ex (List Flow × Nat) (List Flow))
  | 0, _, _ => none
  | n + 1, s3, s8 => (bif ltb ((s8 : Nat) : Int) ((list_.length : Nat) : Int) then (list_[s8]?).bind fun y10 => (m_impl_Flow_clone N y10).bind fun x14 => (appd s3 [x14]).bind fun l16 => m_impl_cloneFlows_L5 N list_ n (s3 ++ [x14]) (s8 + 1)
 else some (Ex.brk (s3, s8)))

def m_impl_cloneFlows (N : Nat) (list_ : List Flow) : Option (List Flow) := (m_impl_cloneFlows_L5 N list_ N ([] : List Flow) 0).bind fun e5 => e5.go (fun r => r) fun b5 => some b5.1

set_option maxHeartbeats 4000000 in
theorem c_impl_cloneFlows (N : Nat) (list_ : List Flow) (res : List Flow) (h : m_impl_cloneFlows N list_ = some res) (w : World) {a_list_ : Option Addr} {c_list_ : Nat} (h_list_ : flowsL.rd w [] [.slice a_list_ list_.length c_list_] list_) : Ret Try.prog 64 [.slice a_list_ list_.length c_list_] w [] fun v w' => ∃ a1 c1 F1, v = .slice a1 res.length c1 ∧ NewC w w' [owC flowsL F1 [.slice a1 res.length c1] res] := by
  have mh_list_ := rd_max h_list_
  unfold m_impl_cloneFlows at h
  refine ret_enter Try.func64 rfl Try.ntmps64 rfl (Hp.refl w _) ?_
  refine cw_seq ?_
  refine cw_region ?_
  refine wl_u rfl (ow_y (yh_assign rfl rfl) rfl rfl (kk_wl ?_))
  refine wl_nil ?_
  refine ex_seq ?_
  refine cw_seq ?_
  refine cw_region ?_
  refine wl_u rfl (ow_y (yh_assign rfl rfl) rfl rfl (kk_wl ?_))
  refine wl_nil ?_
  refine ex_seq ?_
  refine cw_seq ?_
  refine cw_seq ?_
  refine cw_region ?_
  refine wl_u rfl (ow_y (yh_move rfl rfl) rfl rfl (kk_wl ?_))
  refine wl_u rfl (ow_y (yh_lenS Tb rfl rfl rfl rfl) rfl rfl (kk_wl ?_))
  refine wl_u rfl (ow_y (yh_move rfl rfl) rfl rfl (kk_wl ?_))
  refine wl_nil ?_
  refine ex_seq ?_
  refine cw_block ?_
  obtain ⟨e5, he5, hk5⟩ := bd h
  clear h
  refine cw_nilS flowsL rfl ?_
  refine cw_loopG (σ := Nat × (List Flow) × Nat × (Option Addr) × Nat × (List Nat)) (fun s => m_impl_cloneFlows_L5 N list_ s.1 s.2.1 s.2.2.1 = some e5) (fun s => [(3, .slice s.2.2.2.1 s.2.1.length s.2.2.2.2.1), (6, .slice a_list_ list_.length c_list_), (7, .int .i64 ((list_.length : Nat) : Int)), (8, .int .i64 ((s.2.2.1 : Nat) : Int))]) (fun s => [owC flowsL s.2.2.2.2.2 [.slice s.2.2.2.1 s.2.1.length s.2.2.2.2.1] s.2.1]) (fun s => s.1) (N, ([] : List Flow), 0, none, 0, []) [0] he5 ⟨rfl, rfl, rfl, rfl, trivial⟩ rfl (fun KL s he5 hn5 => ?_)
  obtain ⟨n5, s3, s8, as3, cs3, Fs3⟩ := s
  simp only at he5 hn5 ⊢
  rcases n5 with _ | n5
  · exact nosome he5
  have h := he5; rw [m_impl_cloneFlows_L5] at h
  refine cw_seq ?_
  refine cw_region ?_
  refine wl_u rfl (ow_y (yh_cmpI rfl rfl rfl rfl) rfl rfl (kk_wl ?_))
  refine wl_nil ?_
  refine ex_seq ?_
  refine cw_seq ?_
  refine cw_split rfl (fun c1 => ?_) (fun c1 => ?_)
  · skip
    replace h := bt c1 h
    have q1 := ltb_true.1 c1
    refine cw_skip ?_
    refine ex_seq ?_
    refine cw_seq ?_
    refine cw_block ?_
    refine cw_seq ?_
    refine cw_region ?_
    obtain ⟨y10, hy10, h⟩ := bd h
    obtain ⟨b10, o10, ha10⟩ := sl_addr h_list_ hy10
    subst ha10
    obtain ⟨a10, e10, hc10, hf10⟩ := get_flow h_list_ hy10
    have mx10 := rd_max hf10
    refine wl_u rfl (ow_y (yh_idx Tb (k := s8) rfl rfl rfl rfl (get_lt hy10) rfl rfl) rfl rfl (kk_wl ?_))
    refine wl_u rfl (ow_y (yh_loadAN Tb rfl rfl rfl rfl hc10 rfl) rfl rfl (kk_wl ?_))
    refine wl_u rfl (ow_allocA Tb rfl rfl rfl rfl (fun g5 => kk_wl ?_))
    refine wl_u rfl (ow_storeA Tb (k := 0) rfl rfl rfl rfl rfl rfl rfl rfl rfl (kk_wl ?_))
    refine wl_nil ?_
    refine ex_seq ?_
    refine cw_region ?_
    refine wl_u rfl (ow_y (yh_move rfl rfl) rfl rfl (kk_wl ?_))
    refine wl_u rfl (ow_y (yh_loadBA Tb (k := 0) rfl rfl rfl rfl rfl rfl) rfl rfl (kk_wl ?_))
    obtain ⟨x14, hx14, h⟩ := bd h
    refine wl_u rfl (ow_cN1 rfl hb63 rfl (fun w hw => c_impl_Flow_clone N _ _ hx14 w (Lay.at_ hf10 hw)) rfl rfl (fun a14 c14 F14 => kk_wl ?_))
    refine wl_u rfl (ow_litA Tb rfl rfl rfl rfl rfl rfl (by decide) rfl rfl (fun g15 => kk_wl ?_))
    obtain ⟨hll16, h⟩ := bd_appd h
    refine wl_u rfl (ow_chg (c' := owC flowL F14 [.int .i64 x14.ver, .slice a14 x14.steps.length c14] x14) 1 rfl (fun w hA => flowL_mk x14 hA) rfl (ow_appE Tb (i := 3) (j := 0) (k := 1) rfl rfl rfl rfl rfl rfl rfl rfl rfl rfl rfl (app1 hll16) (by decide) rfl rfl (fun a16 c16 F16 => kk_wl ?_)))
    refine wl_u rfl (ow_y (yh_assign rfl rfl) rfl rfl (kk_wl ?_))
    refine wl_nil ?_
    refine ex_block_normal ?_
    refine ex_seq ?_
    refine cw_region ?_
    refine wl_u rfl (ow_y (yh_arI rfl rfl rfl rfl (by omega)) rfl rfl (kk_wl ?_))
    refine wl_u rfl (ow_y (yh_move rfl rfl) rfl rfl (kk_wl ?_))
    refine wl_nil ?_
    exact ex_next [0] (hn5 (n5, (s3 ++ [x14]), s8 + 1, a16, c16, F16) (Nat.lt_succ_self _) h) ⟨rfl, rfl, rfl, rfl, trivial⟩ (by kernel_rfl)
  · skip
    replace h := bf c1 h
    have q2 := ltb_false.1 c1
    refine cw_exit ?_
    refine ex_then_exit ?_
    refine ex_then_exit ?_
    obtain rfl := Option.some.inj h
    have h := go_brk hk5
    refine ex_block_exit ?_
    refine ex_seq ?_
    refine cw_seq ?_
    refine cw_region ?_
    refine wl_u rfl (ow_y (yh_move rfl rfl) rfl rfl (kk_wl ?_))
    refine wl_u rfl (ow_y (yh_assign rfl rfl) rfl rfl (kk_wl ?_))
    refine wl_nil ?_
    refine ex_seq ?_
    refine cw_ret ?_
    obtain rfl := Option.some.inj h
    exact ex_r1 Tb rfl (.tmp rfl) (fun wq hq => ⟨_, rfl, hq.ext, ⟨as3, cs3, Fs3, rfl, NewC.sel [0] hq rfl⟩⟩)

def m_slices_Delete_Flow (N : Nat) (s_ : List Flow) (i : Int) (j : Int) : Option (List Flow) := (sl3 s_ i j).bind fun l13 => (bif eqb i j then some s_
 else (slTo s_ i).bind fun l22 => (slFrom s_ j).bind fun l25 => (kle i j).bind fun u26 => some (l22 ++ l25))

set_option maxHeartbeats 4000000 in
theorem c_slices_Delete_Flow (N : Nat) (s_ : List Flow) (i : Int) (j : Int) (res : List Flow) (h : m_slices_Delete_Flow N s_ i j = some res) (w : World) {a_s_ : Option Addr} {c_s_ : Nat} {F_s_ : List Nat} (hr : (owC flowsL F_s_ [.slice a_s_ s_.length c_s_] s_).A w) (hnd : F_s_.Nodup) : Ret Try.prog 74 [.slice a_s_ s_.length c_s_, .int .i64 i, .int .i64 j] w F_s_ fun v w' => ∃ a1 c1 F1, v = .slice a1 res.length c1 ∧ NewM w w' F_s_ [owC flowsL F1 [.slice a1 res.length c1] res] := by
  unfold m_slices_Delete_Flow at h
  refine ret_enter Try.func74 rfl Try.ntmps74 rfl (hp_one hr hnd) ?_
  refine cw_seq ?_
  refine cw_region ?_
  refine wl_u rfl (ow_y (yh_assign rfl rfl) rfl rfl (kk_wl ?_))
  refine wl_nil ?_
  refine ex_seq ?_
  refine cw_seq ?_
  refine cw_region ?_
  refine wl_u rfl (ow_y (yh_move rfl rfl) rfl rfl (kk_wl ?_))
  refine wl_u rfl (ow_y (yh_move rfl rfl) rfl rfl (kk_wl ?_))
  refine wl_u rfl (ow_y (yh_move rfl rfl) rfl rfl (kk_wl ?_))
  refine wl_u rfl (ow_y (yh_move rfl rfl) rfl rfl (kk_wl ?_))
  refine wl_know (s_.length ≤ 9223372036854775807) (fun w hw => own_max 0 rfl hw) (fun mo12 => ?_)
  refine wl_u rfl (ow_y (yh_lenS Tb rfl rfl rfl rfl) rfl rfl (kk_wl ?_))
  obtain ⟨l13, zl13, h⟩ := bd h
  refine wl_know (s_.length ≤ c_s_) (fun w hw => own_capK 0 rfl hw) (fun hcp13 => ?_)
  have pl13 := sl3_some zl13
  refine wl_u rfl (ow_y (yh_slice3 Tb zl13 rfl hcp13 rfl rfl rfl rfl rfl rfl rfl rfl) rfl rfl (kk_wl ?_))
  refine wl_nil ?_
  refine ex_seq ?_
  refine cw_seq ?_
  refine cw_seq ?_
  refine cw_region ?_
  refine wl_u rfl (ow_y (yh_move rfl rfl) rfl rfl (kk_wl ?_))
  refine wl_u rfl (ow_y (yh_move rfl rfl) rfl rfl (kk_wl ?_))
  refine wl_u rfl (ow_y (yh_cmpI rfl rfl rfl rfl) rfl rfl (kk_wl ?_))
  refine wl_nil ?_
  refine ex_seq ?_
  refine cw_split rfl (fun c1 => ?_) (fun c1 => ?_)
  · skip
    replace h := bt c1 h
    have q1 := eqb_true.1 c1
    refine cw_seq ?_
    refine cw_region ?_
    refine wl_u rfl (ow_y (yh_move rfl rfl) rfl rfl (kk_wl ?_))
    refine wl_u rfl (ow_y (yh_assign rfl rfl) rfl rfl (kk_wl ?_))
    refine wl_nil ?_
    refine ex_seq ?_
    refine cw_ret ?_
    refine ex_then_ret ?_
    obtain rfl := Option.some.inj h
    exact ex_r1 Tb rfl (.tmp rfl) (fun wq hq => ⟨_, rfl, hq.ext, ⟨a_s_, c_s_, F_s_, rfl, NewM.sel [0] hq rfl⟩⟩)
  · skip
    replace h := bf c1 h
    have q2 := eqb_false.1 c1
    refine cw_skip ?_
    refine ex_seq ?_
    refine cw_seq ?_
    refine cw_region ?_
    refine wl_u rfl (ow_y (yh_move rfl rfl) rfl rfl (kk_wl ?_))
    refine wl_u rfl (ow_y (yh_lenS Tb rfl rfl rfl rfl) rfl rfl (kk_wl ?_))
    refine wl_u rfl (ow_y (yh_assign rfl rfl) rfl rfl (kk_wl ?_))
    refine wl_nil ?_
    refine ex_seq ?_
    refine cw_seq ?_
    refine cw_dr [0, 1, 2, 3, 4, 5] [6, 7] [owC flowsL F_s_ [.slice a_s_ s_.length c_s_] s_] (by kernel_rfl) ?_
    refine wd_take (i := 0) [0] rfl rfl rfl rfl rfl (by kernel_rfl) (by kernel_rfl) (fun _ _ _ _ h => h) (yh_move rfl rfl) ?_
    refine wd_take (i := 1) [0] rfl rfl rfl rfl rfl (by kernel_rfl) (by kernel_rfl) (fun _ _ _ _ h => h) (yh_move rfl rfl) ?_
    obtain ⟨l22, zl22, h⟩ := bd h
    obtain ⟨il22, jl22⟩ := slTo_K zl22
    refine wd_know (s_.length ≤ c_s_) (fun w hw => own_capK 0 rfl hw) (fun hcp22 => ?_)
    refine wd_take (i := 2) [0] rfl rfl rfl rfl rfl (by kernel_rfl) (by kernel_rfl) (fun _ _ _ _ h => h) (yh_sliceH Tb (k := l22.length) rfl rfl rfl il22 (Nat.le_trans jl22 hcp22) rfl rfl) ?_
    refine wd_take (i := 3) [0] rfl rfl rfl rfl rfl (by kernel_rfl) (by kernel_rfl) (fun _ _ _ _ h => h) (yh_move rfl rfl) ?_
    refine wd_take (i := 4) [0] rfl rfl rfl rfl rfl (by kernel_rfl) (by kernel_rfl) (fun _ _ _ _ h => h) (yh_move rfl rfl) ?_
    obtain ⟨l25, zl25, h⟩ := bd h
    obtain ⟨a25, e25, va25, ve25, il25⟩ := sl_dropV a_s_ c_s_ 2 zl25
    refine wd_take (i := 5) [0] rfl rfl rfl rfl rfl (by kernel_rfl) (by kernel_rfl) (fun _ _ _ _ h => h) (yh_sliceLN Tb rfl zl25 va25 ve25 rfl rfl rfl rfl rfl) ?_
    obtain ⟨u26, zu26, h⟩ := bd h
    have hle26 := kle_some zu26
    have hdl26 := del_len zl22 zl25 hle26
    refine wd_one 6 rfl rfl (by kernel_rfl) (ow_del Tb 0 zl22 zl25 hle26 va25 ve25 rfl rfl rfl rfl rfl rfl rfl rfl rfl (fun F26 => kk_wdT rfl ?_))
    refine wd_one 7 rfl rfl (by kernel_rfl) (ow_y (yh_assign rfl rfl) rfl rfl (kk_wdT rfl ?_))
    refine wd_done (by kernel_rfl) ?_
    refine ex_seq ?_
    refine cw_seq ?_
    refine cw_region ?_
    refine wl_u rfl (ow_y (yh_move rfl rfl) rfl rfl (kk_wl ?_))
    refine wl_u rfl (ow_y (yh_move rfl rfl) rfl rfl (kk_wl ?_))
    refine wl_know ((l22 ++ l25).length ≤ 9223372036854775807) (fun w hw => own_max 0 rfl hw) (fun mo29 => ?_)
    refine wl_u rfl (ow_y (yh_lenS Tb rfl rfl rfl rfl) rfl rfl (kk_wl ?_))
    refine wl_u rfl (ow_y (yh_move rfl rfl) rfl rfl (kk_wl ?_))
    obtain ⟨a31, va31⟩ : ∃ a', a' = (if c_s_ = (l22 ++ l25).length then a_s_ else (a_s_ : Option Addr).map (·.add ((l22 ++ l25).length * 2))) := ⟨_, rfl⟩
    refine wl_u rfl (ow_y (yh_slice2 Tb (k := (l22 ++ l25).length) (j := s_.length) va31 rfl rfl hdl26 hcp22 rfl rfl rfl rfl rfl rfl) rfl rfl (kk_wl ?_))
    refine wl_u rfl (ow_clearT Tb 0 rfl va31 (by omega) rfl rfl rfl rfl rfl rfl (by decide) rfl rfl (kk_wl ?_))
    refine wl_nil ?_
    refine ex_seq ?_
    refine cw_seq ?_
    refine cw_region ?_
    refine wl_u rfl (ow_y (yh_move rfl rfl) rfl rfl (kk_wl ?_))
    refine wl_u rfl (ow_y (yh_assign rfl rfl) rfl rfl (kk_wl ?_))
    refine wl_nil ?_
    refine ex_seq ?_
    refine cw_ret ?_
    obtain rfl := Option.some.inj h
    exact ex_r1 Tb rfl (.tmp rfl) (fun wq hq => ⟨_, rfl, hq.ext, ⟨a_s_, c_s_, F26, rfl, NewM.sel [0] hq rfl⟩⟩)

def m_impl_RegistryDrop (N : Nat) (list_ : List Flow) (version : Int) (used : List Int) : Option (List Flow × Bool) := (m_impl_RegistryValid N list_).bind fun x10 => (bif !x10 then some (([] : List Flow), false)
 else (m_impl_versionAt N list_ version).bind fun x14 => (bif ltb x14 0 then some (([] : List Flow), false)
 else (bif eqb x14 (((list_.length : Nat) : Int) - 1) then some (([] : List Flow), false)
 else (m_slices_Contains_int N used version).bind fun x27 => (bif x27 then some (([] : List Flow), false)
 else (m_impl_cloneFlows N list_).bind fun x30 => (m_slices_Delete_Flow N x30 x14 (w64 (x14 + 1))).bind fun x34 => some (x34, true)))))

set_option maxHeartbeats 4000000 in
theorem c_impl_RegistryDrop (N : Nat) (list_ : List Flow) (version : Int) (used : List Int) (res : List Flow × Bool) (h : m_impl_RegistryDrop N list_ version used = some res) (w : World) {a_list_ a_used : Option Addr} {c_list_ c_used : Nat} (h_list_ : flowsL.rd w [] [.slice a_list_ list_.length c_list_] list_) (h_used : intsL.rd w [] [.slice a_used used.length c_used] used) : Ret Try.prog 22 [.slice a_list_ list_.length c_list_, .int .i64 version, .slice a_used used.length c_used] w [] fun v w' => ∃ a1 c1 F1, v = .tuple #[.slice a1 res.1.length c1, .bool res.2] ∧ NewC w w' [owC flowsL F1 [.slice a1 res.1.length c1] res.1] := by
  have mh_list_ := rd_max h_list_
  have mh_used := rd_max h_used
  unfold m_impl_RegistryDrop at h
  refine ret_enter Try.func22 rfl Try.ntmps22 rfl (Hp.refl w _) ?_
  refine cw_seq ?_
  refine cw_region ?_
  refine wl_u rfl (ow_y (yh_assign rfl rfl) rfl rfl (kk_wl ?_))
  refine wl_u rfl (ow_y (yh_assign rfl rfl) rfl rfl (kk_wl ?_))
  refine wl_nil ?_
  refine ex_seq ?_
  refine cw_seq ?_
  refine cw_seq ?_
  refine cw_region ?_
  refine wl_u rfl (ow_y (yh_move rfl rfl) rfl rfl (kk_wl ?_))
  obtain ⟨x10, hx10, h⟩ := bd h
  refine wl_u rfl (ow_cV rfl hb19 rfl (fun w hw => c_impl_RegistryValid N _ _ hx10 w (Lay.at_ h_list_ hw)) rfl rfl (kk_wl ?_))
  refine wl_u rfl (ow_y (yh_not rfl rfl) rfl rfl (kk_wl ?_))
  refine wl_nil ?_
  refine ex_seq ?_
  refine cw_split rfl (fun c1 => ?_) (fun c1 => ?_)
  · skip
    replace h := bt c1 h
    refine cw_seq ?_
    refine cw_region ?_
    refine wl_u rfl (ow_y (yh_assign rfl rfl) rfl rfl (kk_wl ?_))
    refine wl_u rfl (ow_y (yh_assign rfl rfl) rfl rfl (kk_wl ?_))
    refine wl_nil ?_
    refine ex_seq ?_
    refine cw_ret ?_
    refine ex_then_ret ?_
    refine ex_nilS flowsL rfl ?_
    obtain rfl := Option.some.inj h
    exact ex_r2 Tb rfl (.tmp rfl) (.tmp rfl) (fun wq hq => ⟨_, rfl, hq.ext, ⟨none, 0, [], rfl, NewC.sel [0] hq rfl⟩⟩)
  · skip
    replace h := bf c1 h
    refine cw_skip ?_
    refine ex_seq ?_
    refine cw_seq ?_
    refine cw_region ?_
    refine wl_u rfl (ow_y (yh_move rfl rfl) rfl rfl (kk_wl ?_))
    refine wl_u rfl (ow_y (yh_move rfl rfl) rfl rfl (kk_wl ?_))
    obtain ⟨x14, hx14, h⟩ := bd h
    refine wl_u rfl (ow_cV rfl hb72 rfl (fun w hw => c_impl_versionAt N _ _ _ hx14 w (Lay.at_ h_list_ hw)) rfl rfl (kk_wl ?_))
    refine wl_u rfl (ow_y (yh_assign rfl rfl) rfl rfl (kk_wl ?_))
    refine wl_nil ?_
    refine ex_seq ?_
    refine cw_seq ?_
    refine cw_seq ?_
    refine cw_region ?_
    refine wl_u rfl (ow_y (yh_move rfl rfl) rfl rfl (kk_wl ?_))
    refine wl_u rfl (ow_y (yh_cmpI rfl rfl rfl rfl) rfl rfl (kk_wl ?_))
    refine wl_u rfl (ow_y (yh_move rfl rfl) rfl rfl (kk_wl ?_))
    refine wl_s rfl rfl (fun c2 => ?_) (fun c2 => ?_)
    · skip
      replace h := bt c2 h
      have q1 := ltb_true.1 c2
      refine wl_n rfl rfl rfl rfl ?_
      refine wl_n rfl rfl rfl rfl ?_
      refine wl_n rfl rfl rfl rfl ?_
      refine wl_n rfl rfl rfl rfl ?_
      refine wl_n rfl rfl rfl rfl ?_
      refine wl_u rfl (ow_y (yh_pickT rfl rfl rfl) rfl rfl (kk_wl ?_))
      refine wl_u rfl (ow_y (yh_move rfl rfl) rfl rfl (kk_wl ?_))
      refine wl_s rfl rfl (fun _ => ?_) nofun
      refine wl_n rfl rfl rfl rfl ?_
      refine wl_n rfl rfl rfl rfl ?_
      refine wl_n rfl rfl rfl rfl ?_
      refine wl_u rfl (ow_y (yh_pickT rfl rfl rfl) rfl rfl (kk_wl ?_))
      refine wl_nil ?_
      refine ex_seq ?_
      refine cw_true rfl ?_
      refine cw_seq ?_
      refine cw_region ?_
      refine wl_u rfl (ow_y (yh_assign rfl rfl) rfl rfl (kk_wl ?_))
      refine wl_u rfl (ow_y (yh_assign rfl rfl) rfl rfl (kk_wl ?_))
      refine wl_nil ?_
      refine ex_seq ?_
      refine cw_ret ?_
      refine ex_then_ret ?_
      refine ex_nilS flowsL rfl ?_
      obtain rfl := Option.some.inj h
      exact ex_r2 Tb rfl (.tmp rfl) (.tmp rfl) (fun wq hq => ⟨_, rfl, hq.ext, ⟨none, 0, [], rfl, NewC.sel [0] hq rfl⟩⟩)
    · skip
      replace h := bf c2 h
      have q2 := ltb_false.1 c2
      refine wl_g rfl rfl (ow_y (yh_move rfl rfl) rfl rfl (kk_wl ?_))
      refine wl_g rfl rfl (ow_y (yh_move rfl rfl) rfl rfl (kk_wl ?_))
      refine wl_g rfl rfl (ow_y (yh_lenS Tb rfl rfl rfl rfl) rfl rfl (kk_wl ?_))
      refine wl_g rfl rfl (ow_y (yh_arI rfl rfl rfl rfl (by omega)) rfl rfl (kk_wl ?_))
      refine wl_g rfl rfl (ow_y (yh_cmpI rfl rfl rfl rfl) rfl rfl (kk_wl ?_))
      refine wl_u rfl (ow_y (yh_pickF rfl rfl rfl) rfl rfl (kk_wl ?_))
      refine wl_u rfl (ow_y (yh_move rfl rfl) rfl rfl (kk_wl ?_))
      refine wl_s rfl rfl (fun c3 => ?_) (fun c3 => ?_)
      · skip
        replace h := bt c3 h
        have q3 := eqb_true.1 c3
        refine wl_n rfl rfl rfl rfl ?_
        refine wl_n rfl rfl rfl rfl ?_
        refine wl_n rfl rfl rfl rfl ?_
        refine wl_u rfl (ow_y (yh_pickT rfl rfl rfl) rfl rfl (kk_wl ?_))
        refine wl_nil ?_
        refine ex_seq ?_
        refine cw_true rfl ?_
        refine cw_seq ?_
        refine cw_region ?_
        refine wl_u rfl (ow_y (yh_assign rfl rfl) rfl rfl (kk_wl ?_))
        refine wl_u rfl (ow_y (yh_assign rfl rfl) rfl rfl (kk_wl ?_))
        refine wl_nil ?_
        refine ex_seq ?_
        refine cw_ret ?_
        refine ex_then_ret ?_
        refine ex_nilS flowsL rfl ?_
        obtain rfl := Option.some.inj h
        exact ex_r2 Tb rfl (.tmp rfl) (.tmp rfl) (fun wq hq => ⟨_, rfl, hq.ext, ⟨none, 0, [], rfl, NewC.sel [0] hq rfl⟩⟩)
      · skip
        replace h := bf c3 h
        have q4 := eqb_false.1 c3
        refine wl_g rfl rfl (ow_y (yh_move rfl rfl) rfl rfl (kk_wl ?_))
        refine wl_g rfl rfl (ow_y (yh_move rfl rfl) rfl rfl (kk_wl ?_))
        obtain ⟨x27, hx27, h⟩ := bd h
        refine wl_g rfl rfl (ow_cV rfl hb73 rfl (fun w hw => c_slices_Contains_int N _ _ _ hx27 w (Lay.at_ h_used hw)) rfl rfl (kk_wl ?_))
        refine wl_u rfl (ow_y (yh_pickF rfl rfl rfl) rfl rfl (kk_wl ?_))
        refine wl_nil ?_
        refine ex_seq ?_
        refine cw_split rfl (fun c4 => ?_) (fun c4 => ?_)
        · skip
          replace h := bt c4 h
          refine cw_seq ?_
          refine cw_region ?_
          refine wl_u rfl (ow_y (yh_assign rfl rfl) rfl rfl (kk_wl ?_))
          refine wl_u rfl (ow_y (yh_assign rfl rfl) rfl rfl (kk_wl ?_))
          refine wl_nil ?_
          refine ex_seq ?_
          refine cw_ret ?_
          refine ex_then_ret ?_
          refine ex_nilS flowsL rfl ?_
          obtain rfl := Option.some.inj h
          exact ex_r2 Tb rfl (.tmp rfl) (.tmp rfl) (fun wq hq => ⟨_, rfl, hq.ext, ⟨none, 0, [], rfl, NewC.sel [0] hq rfl⟩⟩)
        · skip
          replace h := bf c4 h
          refine cw_skip ?_
          refine ex_seq ?_
          refine cw_seq ?_
          refine cw_region ?_
          refine wl_u rfl (ow_y (yh_move rfl rfl) rfl rfl (kk_wl ?_))
          obtain ⟨x30, hx30, h⟩ := bd h
          refine wl_u rfl (ow_cN1 rfl hb64 rfl (fun w hw => c_impl_cloneFlows N _ _ hx30 w (Lay.at_ h_list_ hw)) rfl rfl (fun a30 c30 F30 => kk_wl ?_))
          refine wl_u rfl (ow_y (yh_move rfl rfl) rfl rfl (kk_wl ?_))
          refine wl_u rfl (ow_y (yh_move rfl rfl) rfl rfl (kk_wl ?_))
          refine wl_u rfl (ow_y (yh_arW rfl rfl rfl rfl) rfl rfl (kk_wl ?_))
          obtain ⟨x34, hx34, h⟩ := bd h
          refine wl_u rfl (ow_cM1 0 rfl hb74 rfl rfl (fun w hw => c_slices_Delete_Flow N _ _ _ _ hx34 w (hw.at (i := 0) rfl) (hw.ndAt (i := 0) rfl)) rfl rfl (fun a34 c34 F34 => kk_wl ?_))
          refine wl_u rfl (ow_y (yh_assign rfl rfl) rfl rfl (kk_wl ?_))
          refine wl_u rfl (ow_y (yh_assign rfl rfl) rfl rfl (kk_wl ?_))
          refine wl_nil ?_
          refine ex_seq ?_
          refine cw_ret ?_
          obtain rfl := Option.some.inj h
          exact ex_r2 Tb rfl (.tmp rfl) (.tmp rfl) (fun wq hq => ⟨_, rfl, hq.ext, ⟨a34, c34, F34, rfl, NewC.sel [0] hq rfl⟩⟩)

def m_spec_l14At_L4 (N : Nat) (list_ : List Flow) (version : Int) : Nat → Nat → Option (Ex (Nat) (Int))
  | 0, _ => none
  | n + 1, s5 => (bif ltb ((s5 : Nat) : Int) ((list_.length : Nat) : Int) then (list_[s5]?).bind fun y14 => (bif eqb y14.ver version then some (Ex.ret ((s5 : Nat) : Int))
 else m_spec_l14At_L4 N list_ version n (s5 + 1))
 else some (Ex.brk (s5)))

def m_spec_l14At (N : Nat) (list_ : List Flow) (version : Int) : Option (Int) := (m_spec_l14At_L4 N list_ version N 0).bind fun e4 => e4.go (fun r => r) fun b4 => some (-1)

set_option maxHeartbeats 4000000 in
theorem c_spec_l14At (N : Nat) (list_ : List Flow) (version : Int) (res : Int) (h : m_spec_l14At N list_ version = some res) (w : World) {a_list_ : Option Addr} {c_list_ : Nat} (h_list_ : flowsL.rd w [] [.slice a_list_ list_.length c_list_] list_) : Ret Try.prog 75 [.slice a_list_ list_.length c_list_, .int .i64 version] w [] fun v w' => v = .int .i64 res := by
  have mh_list_ := rd_max h_list_
  unfold m_spec_l14At at h
  refine ret_enter Try.func75 rfl Try.ntmps75 rfl (Hp.refl w _) ?_
  refine cw_seq ?_
  refine cw_region ?_
  refine wl_u rfl (ow_y (yh_assign rfl rfl) rfl rfl (kk_wl ?_))
  refine wl_nil ?_
  refine ex_seq ?_
  refine cw_seq ?_
  refine cw_seq ?_
  refine cw_region ?_
  refine wl_u rfl (ow_y (yh_assign rfl rfl) rfl rfl (kk_wl ?_))
  refine wl_nil ?_
  refine ex_seq ?_
  refine cw_block ?_
  obtain ⟨e4, he4, hk4⟩ := bd h
  clear h
  refine cw_loopG (σ := Nat × Nat) (fun s => m_spec_l14At_L4 N list_ version s.1 s.2 = some e4) (fun s => [(0, .slice a_list_ list_.length c_list_), (1, .int .i64 version), (5, .int .i64 ((s.2 : Nat) : Int))]) (fun s => []) (fun s => s.1) (N, 0) [] he4 ⟨rfl, rfl, rfl, trivial⟩ rfl (fun KL s he4 hn4 => ?_)
  obtain ⟨n4, s5⟩ := s
  simp only at he4 hn4 ⊢
  rcases n4 with _ | n4
  · exact nosome he4
  have h := he4; rw [m_spec_l14At_L4] at h
  refine cw_seq ?_
  refine cw_seq ?_
  refine cw_region ?_
  refine wl_u rfl (ow_y (yh_move rfl rfl) rfl rfl (kk_wl ?_))
  refine wl_u rfl (ow_y (yh_move rfl rfl) rfl rfl (kk_wl ?_))
  refine wl_u rfl (ow_y (yh_lenS Tb rfl rfl rfl rfl) rfl rfl (kk_wl ?_))
  refine wl_u rfl (ow_y (yh_cmpI rfl rfl rfl rfl) rfl rfl (kk_wl ?_))
  refine wl_nil ?_
  refine ex_seq ?_
  refine cw_split rfl (fun c1 => ?_) (fun c1 => ?_)
  · skip
    replace h := bt c1 h
    have q1 := ltb_true.1 c1
    refine cw_skip ?_
    refine ex_seq ?_
    refine cw_seq ?_
    refine cw_block ?_
    refine cw_seq ?_
    refine cw_region ?_
    refine wl_u rfl (ow_y (yh_move rfl rfl) rfl rfl (kk_wl ?_))
    refine wl_u rfl (ow_y (yh_move rfl rfl) rfl rfl (kk_wl ?_))
    obtain ⟨y14, hy14, h⟩ := bd h
    obtain ⟨b14, o14, ha14⟩ := sl_addr h_list_ hy14
    subst ha14
    obtain ⟨a14, e14, hc14, hf14⟩ := get_flow h_list_ hy14
    have mx14 := rd_max hf14
    refine wl_u rfl (ow_y (yh_idx Tb (k := s5) rfl rfl rfl rfl (get_lt hy14) rfl rfl) rfl rfl (kk_wl ?_))
    refine wl_u rfl (ow_y (yh_field Tb rfl rfl rfl) rfl rfl (kk_wl ?_))
    refine wl_u rfl (ow_y (yh_loadAF Tb (j := 0) rfl rfl rfl hc14 rfl) rfl rfl (kk_wl ?_))
    refine wl_u rfl (ow_y (yh_move rfl rfl) rfl rfl (kk_wl ?_))
    refine wl_u rfl (ow_y (yh_cmpI rfl rfl rfl rfl) rfl rfl (kk_wl ?_))
    refine wl_nil ?_
    refine ex_seq ?_
    refine cw_split rfl (fun c2 => ?_) (fun c2 => ?_)
    · skip
      replace h := bt c2 h
      have q2 := eqb_true.1 c2
      refine cw_seq ?_
      refine cw_region ?_
      refine wl_u rfl (ow_y (yh_move rfl rfl) rfl rfl (kk_wl ?_))
      refine wl_u rfl (ow_y (yh_assign rfl rfl) rfl rfl (kk_wl ?_))
      refine wl_nil ?_
      refine ex_seq ?_
      refine cw_ret ?_
      refine ex_block_ret ?_
      refine ex_then_ret ?_
      refine ex_then_ret ?_
      refine ex_block_ret ?_
      refine ex_then_ret ?_
      obtain rfl := Option.some.inj h
      obtain rfl := go_ret hk4
      exact ex_r1 Tb rfl (.tmp rfl) (fun wq hq => ⟨_, rfl, hq.ext, rfl⟩)
    · skip
      replace h := bf c2 h
      have q3 := eqb_false.1 c2
      refine cw_skip ?_
      refine ex_block_normal ?_
      refine ex_seq ?_
      refine cw_region ?_
      refine wl_u rfl (ow_y (yh_move rfl rfl) rfl rfl (kk_wl ?_))
      refine wl_u rfl (ow_y (yh_arI rfl rfl rfl rfl (by omega)) rfl rfl (kk_wl ?_))
      refine wl_u rfl (ow_y (yh_assign rfl rfl) rfl rfl (kk_wl ?_))
      refine wl_nil ?_
      exact ex_next [] (hn4 (n4, s5 + 1) (Nat.lt_succ_self _) h) ⟨rfl, rfl, rfl, trivial⟩ (by kernel_rfl)
  · skip
    replace h := bf c1 h
    have q4 := ltb_false.1 c1
    refine cw_exit ?_
    refine ex_then_exit ?_
    refine ex_then_exit ?_
    obtain rfl := Option.some.inj h
    have h := go_brk hk4
    refine ex_block_exit ?_
    refine ex_seq ?_
    refine cw_seq ?_
    refine cw_region ?_
    refine wl_u rfl (ow_y (yh_assign rfl rfl) rfl rfl (kk_wl ?_))
    refine wl_nil ?_
    refine ex_seq ?_
    refine cw_ret ?_
    obtain rfl := Option.some.inj h
    exact ex_r1 Tb rfl (.tmp rfl) (fun wq hq => ⟨_, rfl, hq.ext, rfl⟩)

def m_spec_RegistryValid_L5 (N : Nat) (list_ : List Flow) : Nat → Nat → Option (Ex (Nat) (Bool))
  | 0, _ => none
  | n + 1, s3 => (bif ltb ((s3 : Nat) : Int) ((list_.length : Nat) : Int) then (list_[s3]?).bind fun y12 => (m_spec_FlowValid N y12).bind fun x14 => (bif !x14 then some (Ex.ret false)
 else (bif ltb 0 ((s3 : Nat) : Int) then (geti list_ (((s3 : Nat) : Int) - 1)).bind fun y23 => (bif leb y12.ver y23.ver then some (Ex.ret false)
 else m_spec_RegistryValid_L5 N list_ n (s3 + 1))
 else m_spec_RegistryValid_L5 N list_ n (s3 + 1)))
 else some (Ex.brk (s3)))

def m_spec_RegistryValid (N : Nat) (list_ : List Flow) : Option (Bool) := (m_spec_RegistryValid_L5 N list_ N 0).bind fun e5 => e5.go (fun r => r) fun b5 => some (leb ((list_.length : Nat) : Int) 4)

set_option maxHeartbeats 4000000 in
theorem c_spec_RegistryValid (N : Nat) (list_ : List Flow) (res : Bool) (h : m_spec_RegistryValid N list_ = some res) (w : World) {a_list_ : Option Addr} {c_list_ : Nat} (h_list_ : flowsL.rd w [] [.slice a_list_ list_.length c_list_] list_) : Ret Try.prog 65 [.slice a_list_ list_.length c_list_] w [] fun v w' => v = .bool res := by
  have mh_list_ := rd_max h_list_
  unfold m_spec_RegistryValid at h
  refine ret_enter Try.func65 rfl Try.ntmps65 rfl (Hp.refl w _) ?_
  refine cw_seq ?_
  refine cw_region ?_
  refine wl_u rfl (ow_y (yh_assign rfl rfl) rfl rfl (kk_wl ?_))
  refine wl_nil ?_
  refine ex_seq ?_
  refine cw_seq ?_
  refine cw_seq ?_
  refine cw_region ?_
  refine wl_u rfl (ow_y (yh_assign rfl rfl) rfl rfl (kk_wl ?_))
  refine wl_nil ?_
  refine ex_seq ?_
  refine cw_block ?_
  obtain ⟨e5, he5, hk5⟩ := bd h
  clear h
  refine cw_loopG (σ := Nat × Nat) (fun s => m_spec_RegistryValid_L5 N list_ s.1 s.2 = some e5) (fun s => [(0, .slice a_list_ list_.length c_list_), (3, .int .i64 ((s.2 : Nat) : Int))]) (fun s => []) (fun s => s.1) (N, 0) [] he5 ⟨rfl, rfl, trivial⟩ rfl (fun KL s he5 hn5 => ?_)
  obtain ⟨n5, s3⟩ := s
  simp only at he5 hn5 ⊢
  rcases n5 with _ | n5
  · exact nosome he5
  have h := he5; rw [m_spec_RegistryValid_L5] at h
  refine cw_seq ?_
  refine cw_seq ?_
  refine cw_region ?_
  refine wl_u rfl (ow_y (yh_move rfl rfl) rfl rfl (kk_wl ?_))
  refine wl_u rfl (ow_y (yh_move rfl rfl) rfl rfl (kk_wl ?_))
  refine wl_u rfl (ow_y (yh_lenS Tb rfl rfl rfl rfl) rfl rfl (kk_wl ?_))
  refine wl_u rfl (ow_y (yh_cmpI rfl rfl rfl rfl) rfl rfl (kk_wl ?_))
  refine wl_nil ?_
  refine ex_seq ?_
  refine cw_split rfl (fun c1 => ?_) (fun c1 => ?_)
  · skip
    replace h := bt c1 h
    have q1 := ltb_true.1 c1
    refine cw_skip ?_
    refine ex_seq ?_
    refine cw_seq ?_
    refine cw_block ?_
    refine cw_seq ?_
    refine cw_dr [0, 1, 2, 3, 5, 6, 7, 8, 9, 10, 11, 12, 13, 14, 15, 16, 17, 18, 19, 20, 21, 22, 23] [] [] (by kernel_rfl) ?_
    refine wd_take (i := 0) [] rfl rfl rfl rfl rfl (by kernel_rfl) (by kernel_rfl) (fun _ _ _ _ h => h) (yh_move rfl rfl) ?_
    refine wd_take (i := 1) [] rfl rfl rfl rfl rfl (by kernel_rfl) (by kernel_rfl) (fun _ _ _ _ h => h) (yh_move rfl rfl) ?_
    obtain ⟨y12, hy12, h⟩ := bd h
    obtain ⟨b12, o12, ha12⟩ := sl_addr h_list_ hy12
    subst ha12
    obtain ⟨a12, e12, hc12, hf12⟩ := get_flow h_list_ hy12
    have mx12 := rd_max hf12
    refine wd_take (i := 2) [] rfl rfl rfl rfl rfl (by kernel_rfl) (by kernel_rfl) (fun _ _ _ _ h => h) (yh_idx Tb (k := s3) rfl rfl rfl rfl (get_lt hy12) rfl rfl) ?_
    refine wd_take (i := 3) [] rfl rfl rfl rfl rfl (by kernel_rfl) (by kernel_rfl) (fun _ _ _ _ h => h) (yh_loadAN Tb rfl rfl rfl rfl hc12 rfl) ?_
    obtain ⟨x14, hx14, h⟩ := bd h
    refine wd_one 4 rfl rfl (by kernel_rfl) (ow_cV rfl hb28 rfl (fun w hw => c_spec_FlowValid N _ _ hx14 w (Lay.at_ hf12 hw)) rfl rfl (kk_wd [] (by kernel_rfl) ?_))
    refine wd_take (i := 5) [] rfl rfl rfl rfl rfl (by kernel_rfl) (by kernel_rfl) (fun _ _ _ _ h => h) (yh_not rfl rfl) ?_
    refine wd_take (i := 6) [] rfl rfl rfl rfl rfl (by kernel_rfl) (by kernel_rfl) (fun _ _ _ _ h => h) (yh_move rfl rfl) ?_
    refine wd_split 7 rfl rfl rfl (fun c2 => ?_) (fun c2 => ?_)
    · skip
      replace h := bt c2 h
      refine wd_skip (i := 7) [] rfl rfl rfl rfl (by kernel_rfl) (by kernel_rfl) (fun _ _ _ h => h) ?_
      refine wd_skip (i := 8) [] rfl rfl rfl rfl (by kernel_rfl) (by kernel_rfl) (fun _ _ _ h => h) ?_
      refine wd_skip (i := 9) [] rfl rfl rfl rfl (by kernel_rfl) (by kernel_rfl) (fun _ _ _ h => h) ?_
      refine wd_skip (i := 10) [] rfl rfl rfl rfl (by kernel_rfl) (by kernel_rfl) (fun _ _ _ h => h) ?_
      refine wd_skip (i := 11) [] rfl rfl rfl rfl (by kernel_rfl) (by kernel_rfl) (fun _ _ _ h => h) ?_
      refine wd_skip (i := 12) [] rfl rfl rfl rfl (by kernel_rfl) (by kernel_rfl) (fun _ _ _ h => h) ?_
      refine wd_skip (i := 13) [] rfl rfl rfl rfl (by kernel_rfl) (by kernel_rfl) (fun _ _ _ h => h) ?_
      refine wd_skip (i := 14) [] rfl rfl rfl rfl (by kernel_rfl) (by kernel_rfl) (fun _ _ _ h => h) ?_
      refine wd_skip (i := 15) [] rfl rfl rfl rfl (by kernel_rfl) (by kernel_rfl) (fun _ _ _ h => h) ?_
      refine wd_skip (i := 16) [] rfl rfl rfl rfl (by kernel_rfl) (by kernel_rfl) (fun _ _ _ h => h) ?_
      refine wd_skip (i := 17) [] rfl rfl rfl rfl (by kernel_rfl) (by kernel_rfl) (fun _ _ _ h => h) ?_
      refine wd_skip (i := 18) [] rfl rfl rfl rfl (by kernel_rfl) (by kernel_rfl) (fun _ _ _ h => h) ?_
      refine wd_skip (i := 19) [] rfl rfl rfl rfl (by kernel_rfl) (by kernel_rfl) (fun _ _ _ h => h) ?_
      refine wd_skip (i := 20) [] rfl rfl rfl rfl (by kernel_rfl) (by kernel_rfl) (fun _ _ _ h => h) ?_
      refine wd_skip (i := 21) [] rfl rfl rfl rfl (by kernel_rfl) (by kernel_rfl) (fun _ _ _ h => h) ?_
      refine wd_skip (i := 22) [] rfl rfl rfl rfl (by kernel_rfl) (by kernel_rfl) (fun _ _ _ h => h) ?_
      refine wd_take (i := 23) [] rfl rfl rfl rfl rfl (by kernel_rfl) (by kernel_rfl) (fun _ _ _ _ h => h) (yh_pickT rfl rfl rfl) ?_
      refine wd_done (by kernel_rfl) ?_
      refine ex_seq ?_
      refine cw_true rfl ?_
      refine cw_seq ?_
      refine cw_region ?_
      refine wl_u rfl (ow_y (yh_assign rfl rfl) rfl rfl (kk_wl ?_))
      refine wl_nil ?_
      refine ex_seq ?_
      refine cw_ret ?_
      refine ex_block_ret ?_
      refine ex_then_ret ?_
      refine ex_then_ret ?_
      refine ex_block_ret ?_
      refine ex_then_ret ?_
      obtain rfl := Option.some.inj h
      obtain rfl := go_ret hk5
      exact ex_r1 Tb rfl (.tmp rfl) (fun wq hq => ⟨_, rfl, hq.ext, rfl⟩)
    · skip
      replace h := bf c2 h
      refine wd_take (i := 7) [] rfl rfl rfl rfl rfl (by kernel_rfl) (by kernel_rfl) (fun _ _ _ _ h => h) (yh_move rfl rfl) ?_
      refine wd_take (i := 8) [] rfl rfl rfl rfl rfl (by kernel_rfl) (by kernel_rfl) (fun _ _ _ _ h => h) (yh_cmpI rfl rfl rfl rfl) ?_
      refine wd_take (i := 9) [] rfl rfl rfl rfl rfl (by kernel_rfl) (by kernel_rfl) (fun _ _ _ _ h => h) (yh_move rfl rfl) ?_
      refine wd_split 10 rfl rfl rfl (fun c3 => ?_) (fun c3 => ?_)
      · skip
        replace h := bt c3 h
        have q2 := ltb_true.1 c3
        refine wd_take (i := 10) [] rfl rfl rfl rfl rfl (by kernel_rfl) (by kernel_rfl) (fun _ _ _ _ h => h) (yh_move rfl rfl) ?_
        refine wd_take (i := 11) [] rfl rfl rfl rfl rfl (by kernel_rfl) (by kernel_rfl) (fun _ _ _ _ h => h) (yh_move rfl rfl) ?_
        refine wd_take (i := 12) [] rfl rfl rfl rfl rfl (by kernel_rfl) (by kernel_rfl) (fun _ _ _ _ h => h) (yh_arI rfl rfl rfl rfl (by omega)) ?_
        obtain ⟨y23, zy23, h⟩ := bd h
        obtain ⟨iy23, hy23⟩ := geti_some zy23
        obtain ⟨a23, e23, hc23, hf23⟩ := get_flow h_list_ hy23
        have mx23 := rd_max hf23
        refine wd_take (i := 13) [] rfl rfl rfl rfl rfl (by kernel_rfl) (by kernel_rfl) (fun _ _ _ _ h => h) (yh_idx Tb (k := (((s3 : Nat) : Int) - 1).toNat) rfl rfl rfl iy23 (get_lt hy23) rfl rfl) ?_
        refine wd_take (i := 14) [] rfl rfl rfl rfl rfl (by kernel_rfl) (by kernel_rfl) (fun _ _ _ _ h => h) (yh_field Tb rfl rfl rfl) ?_
        refine wd_take (i := 15) [] rfl rfl rfl rfl rfl (by kernel_rfl) (by kernel_rfl) (fun _ _ _ _ h => h) (yh_loadAF Tb (j := 0) rfl rfl rfl hc23 rfl) ?_
        refine wd_take (i := 16) [] rfl rfl rfl rfl rfl (by kernel_rfl) (by kernel_rfl) (fun _ _ _ _ h => h) (yh_move rfl rfl) ?_
        refine wd_take (i := 17) [] rfl rfl rfl rfl rfl (by kernel_rfl) (by kernel_rfl) (fun _ _ _ _ h => h) (yh_move rfl rfl) ?_
        refine wd_take (i := 18) [] rfl rfl rfl rfl rfl (by kernel_rfl) (by kernel_rfl) (fun _ _ _ _ h => h) (yh_idx Tb (k := s3) rfl rfl rfl rfl (get_lt hy12) rfl rfl) ?_
        refine wd_take (i := 19) [] rfl rfl rfl rfl rfl (by kernel_rfl) (by kernel_rfl) (fun _ _ _ _ h => h) (yh_field Tb rfl rfl rfl) ?_
        refine wd_take (i := 20) [] rfl rfl rfl rfl rfl (by kernel_rfl) (by kernel_rfl) (fun _ _ _ _ h => h) (yh_loadAF Tb (j := 0) rfl rfl rfl hc12 rfl) ?_
        refine wd_take (i := 21) [] rfl rfl rfl rfl rfl (by kernel_rfl) (by kernel_rfl) (fun _ _ _ _ h => h) (yh_cmpI rfl rfl rfl rfl) ?_
        refine wd_take (i := 22) [] rfl rfl rfl rfl rfl (by kernel_rfl) (by kernel_rfl) (fun _ _ _ _ h => h) (yh_pickT rfl rfl rfl) ?_
        refine wd_take (i := 23) [] rfl rfl rfl rfl rfl (by kernel_rfl) (by kernel_rfl) (fun _ _ _ _ h => h) (yh_pickF rfl rfl rfl) ?_
        refine wd_done (by kernel_rfl) ?_
        refine ex_seq ?_
        refine cw_split rfl (fun c4 => ?_) (fun c4 => ?_)
        · skip
          replace h := bt c4 h
          have q3 := leb_true.1 c4
          refine cw_seq ?_
          refine cw_region ?_
          refine wl_u rfl (ow_y (yh_assign rfl rfl) rfl rfl (kk_wl ?_))
          refine wl_nil ?_
          refine ex_seq ?_
          refine cw_ret ?_
          refine ex_block_ret ?_
          refine ex_then_ret ?_
          refine ex_then_ret ?_
          refine ex_block_ret ?_
          refine ex_then_ret ?_
          obtain rfl := Option.some.inj h
          obtain rfl := go_ret hk5
          exact ex_r1 Tb rfl (.tmp rfl) (fun wq hq => ⟨_, rfl, hq.ext, rfl⟩)
        · skip
          replace h := bf c4 h
          have q4 := leb_false.1 c4
          refine cw_skip ?_
          refine ex_block_normal ?_
          refine ex_seq ?_
          refine cw_region ?_
          refine wl_u rfl (ow_y (yh_move rfl rfl) rfl rfl (kk_wl ?_))
          refine wl_u rfl (ow_y (yh_arI rfl rfl rfl rfl (by omega)) rfl rfl (kk_wl ?_))
          refine wl_u rfl (ow_y (yh_assign rfl rfl) rfl rfl (kk_wl ?_))
          refine wl_nil ?_
          exact ex_next [] (hn5 (n5, s3 + 1) (Nat.lt_succ_self _) h) ⟨rfl, rfl, trivial⟩ (by kernel_rfl)
      · skip
        replace h := bf c3 h
        have q5 := ltb_false.1 c3
        refine wd_skip (i := 10) [] rfl rfl rfl rfl (by kernel_rfl) (by kernel_rfl) (fun _ _ _ h => h) ?_
        refine wd_skip (i := 11) [] rfl rfl rfl rfl (by kernel_rfl) (by kernel_rfl) (fun _ _ _ h => h) ?_
        refine wd_skip (i := 12) [] rfl rfl rfl rfl (by kernel_rfl) (by kernel_rfl) (fun _ _ _ h => h) ?_
        refine wd_skip (i := 13) [] rfl rfl rfl rfl (by kernel_rfl) (by kernel_rfl) (fun _ _ _ h => h) ?_
        refine wd_skip (i := 14) [] rfl rfl rfl rfl (by kernel_rfl) (by kernel_rfl) (fun _ _ _ h => h) ?_
        refine wd_skip (i := 15) [] rfl rfl rfl rfl (by kernel_rfl) (by kernel_rfl) (fun _ _ _ h => h) ?_
        refine wd_skip (i := 16) [] rfl rfl rfl rfl (by kernel_rfl) (by kernel_rfl) (fun _ _ _ h => h) ?_
        refine wd_skip (i := 17) [] rfl rfl rfl rfl (by kernel_rfl) (by kernel_rfl) (fun _ _ _ h => h) ?_
        refine wd_skip (i := 18) [] rfl rfl rfl rfl (by kernel_rfl) (by kernel_rfl) (fun _ _ _ h => h) ?_
        refine wd_skip (i := 19) [] rfl rfl rfl rfl (by kernel_rfl) (by kernel_rfl) (fun _ _ _ h => h) ?_
        refine wd_skip (i := 20) [] rfl rfl rfl rfl (by kernel_rfl) (by kernel_rfl) (fun _ _ _ h => h) ?_
        refine wd_skip (i := 21) [] rfl rfl rfl rfl (by kernel_rfl) (by kernel_rfl) (fun _ _ _ h => h) ?_
        refine wd_take (i := 22) [] rfl rfl rfl rfl rfl (by kernel_rfl) (by kernel_rfl) (fun _ _ _ _ h => h) (yh_pickF rfl rfl rfl) ?_
        refine wd_take (i := 23) [] rfl rfl rfl rfl rfl (by kernel_rfl) (by kernel_rfl) (fun _ _ _ _ h => h) (yh_pickF rfl rfl rfl) ?_
        refine wd_done (by kernel_rfl) ?_
        refine ex_seq ?_
        refine cw_false rfl ?_
        refine cw_skip ?_
        refine ex_block_normal ?_
        refine ex_seq ?_
        refine cw_region ?_
        refine wl_u rfl (ow_y (yh_move rfl rfl) rfl rfl (kk_wl ?_))
        refine wl_u rfl (ow_y (yh_arI rfl rfl rfl rfl (by omega)) rfl rfl (kk_wl ?_))
        refine wl_u rfl (ow_y (yh_assign rfl rfl) rfl rfl (kk_wl ?_))
        refine wl_nil ?_
        exact ex_next [] (hn5 (n5, s3 + 1) (Nat.lt_succ_self _) h) ⟨rfl, rfl, trivial⟩ (by kernel_rfl)
  · skip
    replace h := bf c1 h
    have q6 := ltb_false.1 c1
    refine cw_exit ?_
    refine ex_then_exit ?_
    refine ex_then_exit ?_
    obtain rfl := Option.some.inj h
    have h := go_brk hk5
    refine ex_block_exit ?_
    refine ex_seq ?_
    refine cw_seq ?_
    refine cw_region ?_
    refine wl_u rfl (ow_y (yh_move rfl rfl) rfl rfl (kk_wl ?_))
    refine wl_u rfl (ow_y (yh_lenS Tb rfl rfl rfl rfl) rfl rfl (kk_wl ?_))
    refine wl_u rfl (ow_y (yh_cmpI rfl rfl rfl rfl) rfl rfl (kk_wl ?_))
    refine wl_u rfl (ow_y (yh_assign rfl rfl) rfl rfl (kk_wl ?_))
    refine wl_nil ?_
    refine ex_seq ?_
    refine cw_ret ?_
    obtain rfl := Option.some.inj h
    exact ex_r1 Tb rfl (.tmp rfl) (fun wq hq => ⟨_, rfl, hq.ext, rfl⟩)

def m_spec_l2Step (N : Nat) (s_ : Step) : Option (Step) := (appd ([] : List Str) s_.after).bind fun l6 => some (Step.mk s_.name (([] : List Str) ++ s_.after) s_.undo)

set_option maxHeartbeats 4000000 in
theorem c_spec_l2Step (N : Nat) (s_ : Step) (res : Step) (h : m_spec_l2Step N s_ = some res) (w : World) {a_s__after : Option Addr} {c_s__after : Nat} (h_s__after : strsL.rd w [] [.slice a_s__after s_.after.length c_s__after] s_.after) : Ret Try.prog 110 [.agg #[.string s_.name, .slice a_s__after s_.after.length c_s__after, .bool s_.undo]] w [] fun v w' => ∃ a1 c1 F1, v = .agg #[.string res.name, .slice a1 res.after.length c1, .bool res.undo] ∧ NewC w w' [owC strsL F1 [.slice a1 res.after.length c1] res.after] := by
  have mh_s__after := rd_max h_s__after
  unfold m_spec_l2Step at h
  refine ret_enter Try.func110 rfl Try.ntmps110 rfl (Hp.refl w _) ?_
  refine cw_seq ?_
  refine cw_region ?_
  refine wl_u rfl (ow_boxA rfl rfl rfl rfl (fun g1 => kk_wl ?_))
  refine wl_u rfl (ow_allocA Tb rfl rfl rfl rfl (fun g2 => kk_wl ?_))
  refine wl_nil ?_
  refine ex_seq ?_
  refine cw_seq ?_
  refine cw_region ?_
  refine wl_u rfl (ow_lit0 Tb rfl rfl rfl rfl rfl rfl (fun g3 => kk_chg (c' := owC strsL [g3] [.slice (some ⟨g3, 0, none⟩) 0 0] ([] : List Str)) 0 rfl (fun w hA => own_strsL ([] : List Str) hA rfl (by simp [maxLen])) rfl (kk_wl ?_)))
  refine wl_u rfl (ow_y (yh_field Tb rfl rfl rfl) rfl rfl (kk_wl ?_))
  refine wl_u rfl (ow_y (yh_loadB Tb (k := 2) rfl rfl rfl rfl rfl) rfl rfl (kk_wl ?_))
  obtain ⟨hll6, h⟩ := bd_appd h
  refine wl_u rfl (ow_appP Tb (i := 0) rfl rfl rfl rfl rfl (fun w hw => Lay.at_ h_s__after hw) rfl rfl rfl rfl hll6 (by decide) rfl rfl (fun a6 c6 F6 => kk_wl ?_))
  refine wl_u rfl (ow_y (yh_field Tb rfl rfl rfl) rfl rfl (kk_wl ?_))
  refine wl_u rfl (ow_store1 Tb (k := 2) rfl rfl rfl rfl rfl rfl rfl rfl rfl (kk_wl ?_))
  refine wl_nil ?_
  refine ex_seq ?_
  refine cw_seq ?_
  refine cw_region ?_
  refine wl_u rfl (ow_y (yh_loadBA Tb (k := 0) rfl rfl rfl rfl rfl rfl) rfl rfl (kk_wl ?_))
  refine wl_u rfl (ow_storeA Tb (k := 2) rfl rfl rfl rfl rfl rfl rfl rfl rfl (kk_wl ?_))
  refine wl_nil ?_
  refine ex_seq ?_
  refine cw_ret ?_
  obtain rfl := Option.some.inj h
  exact ex_r1 Tb rfl (.cellA 0 rfl rfl rfl rfl rfl) (fun wq hq => ⟨_, rfl, hq.ext, ⟨a6, c6, F6, rfl, NewC.sel [2] hq rfl⟩⟩)

def m_spec_l2Copy_L6 (N : Nat) (f : Flow) : Nat → (List Step) → Nat → Option (Ex (List Step × Nat) (Flow))
  | 0, _, _ => none
  | n + 1, s3_c_1, s4 => (bif ltb ((s4 : Nat) : Int) ((f.steps.length : Nat) : Int) then (f.steps[s4]?).bind fun y21 => (m_spec_l2Step N y21).bind fun x23 => (appd s3_c_1 [x23]).bind fun l25 => m_spec_l2Copy_L6 N f n (s3_c_1 ++ [x23]) (s4 + 1)
 else some (Ex.brk (s3_c_1, s4)))

def m_spec_l2Copy (N : Nat) (f : Flow) : Option (Flow) := (m_spec_l2Copy_L6 N f N ([] : List Step) 0).bind fun e6 => e6.go (fun r => r) fun b6 => some (Flow.mk f.ver b6.1)

set_option maxHeartbeats 4000000 in
theorem c_spec_l2Copy (N : Nat) (f : Flow) (res : Flow) (h : m_spec_l2Copy N f = some res) (w : World) {a_f_steps : Option Addr} {c_f_steps : Nat} (h_f_steps : stepsL.rd w [] [.slice a_f_steps f.steps.length c_f_steps] f.steps) : Ret Try.prog 66 [.agg #[.int .i64 f.ver, .slice a_f_steps f.steps.length c_f_steps]] w [] fun v w' => ∃ a1 c1 F1, v = .agg #[.int .i64 res.ver, .slice a1 res.steps.length c1] ∧ NewC w w' [owC stepsL F1 [.slice a1 res.steps.length c1] res.steps] := by
  have mh_f_steps := rd_max h_f_steps
  unfold m_spec_l2Copy at h
  refine ret_enter Try.func66 rfl Try.ntmps66 rfl (Hp.refl w _) ?_
  refine cw_seq ?_
  refine cw_region ?_
  refine wl_u rfl (ow_boxA rfl rfl rfl rfl (fun g1 => kk_wl ?_))
  refine wl_u rfl (ow_allocA Tb rfl rfl rfl rfl (fun g2 => kk_wl ?_))
  refine wl_nil ?_
  refine ex_seq ?_
  refine cw_seq ?_
  refine cw_region ?_
  refine wl_u rfl (ow_y (yh_field Tb rfl rfl rfl) rfl rfl (kk_wl ?_))
  refine wl_u rfl (ow_y (yh_loadB Tb (k := 1) rfl rfl rfl rfl rfl) rfl rfl (kk_wl ?_))
  refine wl_u rfl (ow_lit0 Tb rfl rfl rfl rfl rfl rfl (fun g7 => kk_chg (c' := owC stepsL [g7] [.slice (some ⟨g7, 0, none⟩) 0 0] ([] : List Step)) 0 rfl (fun w hA => own_stepsL ([] : List Step) hA rfl (by simp [maxLen])) rfl (kk_wl ?_)))
  refine wl_u rfl (ow_y (yh_buildA rfl rfl (by kernel_rfl)) rfl rfl (kk_wl ?_))
  refine wl_u rfl (ow_allocA Tb rfl rfl rfl rfl (fun g3 => kk_wl ?_))
  refine wl_u rfl (ow_storeA Tb (k := 0) rfl rfl rfl rfl rfl rfl rfl rfl rfl (kk_wl ?_))
  refine wl_nil ?_
  refine ex_seq ?_
  refine cw_seq ?_
  refine cw_seq ?_
  refine cw_region ?_
  refine wl_u rfl (ow_y (yh_assign rfl rfl) rfl rfl (kk_wl ?_))
  refine wl_nil ?_
  refine ex_seq ?_
  refine cw_block ?_
  obtain ⟨e6, he6, hk6⟩ := bd h
  clear h
  refine cw_loopG (σ := Nat × (List Step) × Nat × (Option Addr) × Nat × (List Nat)) (fun s => m_spec_l2Copy_L6 N f s.1 s.2.1 s.2.2.1 = some e6) (fun s => [(1, .pointer (some ⟨g1, 0, none⟩)), (2, .pointer (some ⟨g2, 0, none⟩)), (3, .pointer (some ⟨g3, 0, none⟩)), (4, .int .i64 ((s.2.2.1 : Nat) : Int))]) (fun s => [blkC g1 26 [.int .i64 f.ver, .slice a_f_steps f.steps.length c_f_steps], blkC g2 26 [.int .i64 0, .slice none 0 0], blkC g3 26 [.int .i64 f.ver, .slice s.2.2.2.1 s.2.1.length s.2.2.2.2.1], owC stepsL s.2.2.2.2.2 [.slice s.2.2.2.1 s.2.1.length s.2.2.2.2.1] s.2.1]) (fun s => s.1) (N, ([] : List Step), 0, (some ⟨g7, 0, none⟩), 0, [g7]) [3, 2, 0, 1] he6 ⟨rfl, rfl, rfl, rfl, trivial⟩ rfl (fun KL s he6 hn6 => ?_)
  obtain ⟨n6, s3_c_1, s4, as3_c_1, cs3_c_1, Fs3_c_1⟩ := s
  simp only at he6 hn6 ⊢
  rcases n6 with _ | n6
  · exact nosome he6
  have h := he6; rw [m_spec_l2Copy_L6] at h
  refine cw_seq ?_
  refine cw_seq ?_
  refine cw_region ?_
  refine wl_u rfl (ow_y (yh_move rfl rfl) rfl rfl (kk_wl ?_))
  refine wl_u rfl (ow_y (yh_field Tb rfl rfl rfl) rfl rfl (kk_wl ?_))
  refine wl_u rfl (ow_y (yh_loadB Tb (k := 0) rfl rfl rfl rfl rfl) rfl rfl (kk_wl ?_))
  refine wl_u rfl (ow_y (yh_lenS Tb rfl rfl rfl rfl) rfl rfl (kk_wl ?_))
  refine wl_u rfl (ow_y (yh_cmpI rfl rfl rfl rfl) rfl rfl (kk_wl ?_))
  refine wl_nil ?_
  refine ex_seq ?_
  refine cw_split rfl (fun c1 => ?_) (fun c1 => ?_)
  · skip
    replace h := bt c1 h
    have q1 := ltb_true.1 c1
    refine cw_skip ?_
    refine ex_seq ?_
    refine cw_seq ?_
    refine cw_block ?_
    refine cw_dr [0, 1, 2, 3, 4, 5, 6] [9, 10, 11] [blkC g1 26 [.int .i64 f.ver, .slice a_f_steps f.steps.length c_f_steps], blkC g2 26 [.int .i64 0, .slice none 0 0], blkC g3 26 [.int .i64 f.ver, .slice as3_c_1 s3_c_1.length cs3_c_1], owC stepsL Fs3_c_1 [.slice as3_c_1 s3_c_1.length cs3_c_1] s3_c_1] (by kernel_rfl) ?_
    refine wd_take (i := 0) [0, 1, 2, 3] rfl rfl rfl rfl rfl (by kernel_rfl) (by kernel_rfl) (fun _ _ _ _ h => h) (yh_field Tb rfl rfl rfl) ?_
    refine wd_take (i := 1) [0, 1, 2, 3] rfl rfl rfl rfl rfl (by kernel_rfl) (by kernel_rfl) (fun _ _ _ _ h => h) (yh_loadB Tb (k := 2) rfl rfl rfl rfl rfl) ?_
    refine wd_take (i := 2) [0, 1, 2, 3] rfl rfl rfl rfl rfl (by kernel_rfl) (by kernel_rfl) (fun _ _ _ _ h => h) (yh_field Tb rfl rfl rfl) ?_
    refine wd_take (i := 3) [0, 1, 2, 3] rfl rfl rfl rfl rfl (by kernel_rfl) (by kernel_rfl) (fun _ _ _ _ h => h) (yh_loadB Tb (k := 0) rfl rfl rfl rfl rfl) ?_
    refine wd_take (i := 4) [0, 1, 2, 3] rfl rfl rfl rfl rfl (by kernel_rfl) (by kernel_rfl) (fun _ _ _ _ h => h) (yh_move rfl rfl) ?_
    obtain ⟨y21, hy21, h⟩ := bd h
    obtain ⟨b21, o21, ha21⟩ := sl_addr h_f_steps hy21
    subst ha21
    obtain ⟨a21, e21, hc21, hf21⟩ := get_step h_f_steps hy21
    have mx21 := rd_max hf21
    refine wd_take (i := 5) [0, 1, 2, 3] rfl rfl rfl rfl rfl (by kernel_rfl) (by kernel_rfl) (fun _ _ _ _ h => h) (yh_idx Tb (k := s4) rfl rfl rfl rfl (get_lt hy21) rfl rfl) ?_
    refine wd_take (i := 6) [0, 1, 2, 3] rfl rfl rfl rfl rfl (by kernel_rfl) (by kernel_rfl) (fun _ _ _ _ h => h) (yh_loadAN Tb rfl rfl rfl rfl hc21 rfl) ?_
    obtain ⟨x23, hx23, h⟩ := bd h
    refine wd_one 7 rfl rfl (by kernel_rfl) (ow_cN1 rfl hb110 rfl (fun w hw => c_spec_l2Step N _ _ hx23 w (Lay.at_ hf21 hw)) rfl rfl (fun a23 c23 F23 => kk_wd [1, 2, 3, 4] (by kernel_rfl) ?_))
    refine wd_one 8 rfl rfl (by kernel_rfl) (ow_litA Tb rfl rfl rfl rfl rfl rfl (by decide) rfl rfl (fun g24 => kk_wd [2, 3, 4, 5] (by kernel_rfl) ?_))
    obtain ⟨hll25, h⟩ := bd_appd h
    refine wd_one 9 rfl rfl (by kernel_rfl) (ow_chg (c' := owC stepL F23 [.string x23.name, .slice a23 x23.after.length c23, .bool x23.undo] x23) 1 rfl (fun w hA => stepL_mk x23 hA) rfl (ow_appE Tb (i := 5) (j := 0) (k := 1) rfl rfl rfl rfl rfl rfl rfl rfl rfl rfl rfl (app1 hll25) (by decide) rfl rfl (fun a25 c25 F25 => kk_wdT rfl ?_)))
    refine wd_one 10 rfl rfl (by kernel_rfl) (ow_y (yh_field Tb rfl rfl rfl) rfl rfl (kk_wdT rfl ?_))
    refine wd_one 11 rfl rfl (by kernel_rfl) (ow_store1 Tb (k := 4) rfl rfl rfl rfl rfl rfl rfl rfl rfl (kk_wdT rfl ?_))
    refine wd_done (by kernel_rfl) ?_
    refine ex_block_normal ?_
    refine ex_seq ?_
    refine cw_region ?_
    refine wl_u rfl (ow_y (yh_move rfl rfl) rfl rfl (kk_wl ?_))
    refine wl_u rfl (ow_y (yh_arI rfl rfl rfl rfl (by omega)) rfl rfl (kk_wl ?_))
    refine wl_u rfl (ow_y (yh_assign rfl rfl) rfl rfl (kk_wl ?_))
    refine wl_nil ?_
    exact ex_next [3, 4, 0, 1] (hn6 (n6, (s3_c_1 ++ [x23]), s4 + 1, a25, c25, F25) (Nat.lt_succ_self _) h) ⟨rfl, rfl, rfl, rfl, trivial⟩ (by kernel_rfl)
  · skip
    replace h := bf c1 h
    have q2 := ltb_false.1 c1
    refine cw_exit ?_
    refine ex_then_exit ?_
    refine ex_then_exit ?_
    obtain rfl := Option.some.inj h
    have h := go_brk hk6
    refine ex_block_exit ?_
    refine ex_seq ?_
    refine cw_seq ?_
    refine cw_region ?_
    refine wl_u rfl (ow_y (yh_loadBA Tb (k := 2) rfl rfl rfl rfl rfl rfl) rfl rfl (kk_wl ?_))
    refine wl_u rfl (ow_storeA Tb (k := 1) rfl rfl rfl rfl rfl rfl rfl rfl rfl (kk_wl ?_))
    refine wl_nil ?_
    refine ex_seq ?_
    refine cw_ret ?_
    obtain rfl := Option.some.inj h
    exact ex_r1 Tb rfl (.cellA 0 rfl rfl rfl rfl rfl) (fun wq hq => ⟨_, rfl, hq.ext, ⟨as3_c_1, cs3_c_1, Fs3_c_1, rfl, NewC.sel [3] hq rfl⟩⟩)

def m_spec_l14Copy_L5 (N : Nat) (list_ : List Flow) : Nat → (List Flow) → Nat → Option (Ex (List Flow × Nat) (List Flow))
  | 0, _, _ => none
  | n + 1, s3, s4 => (bif ltb ((s4 : Nat) : Int) ((list_.length : Nat) : Int) then (list_[s4]?).bind fun y15 => (m_spec_l2Copy N y15).bind fun x17 => (appd s3 [x17]).bind fun l19 => m_spec_l14Copy_L5 N list_ n (s3 ++ [x17]) (s4 + 1)
 else some (Ex.brk (s3, s4)))

def m_spec_l14Copy (N : Nat) (list_ : List Flow) : Option (List Flow) := (m_spec_l14Copy_L5 N list_ N ([] : List Flow) 0).bind fun e5 => e5.go (fun r => r) fun b5 => some b5.1

set_option maxHeartbeats 4000000 in
theorem c_spec_l14Copy (N : Nat) (list_ : List Flow) (res : List Flow) (h : m_spec_l14Copy N list_ = some res) (w : World) {a_list_ : Option Addr} {c_list_ : Nat} (h_list_ : flowsL.rd w [] [.slice a_list_ list_.length c_list_] list_) : Ret Try.prog 67 [.slice a_list_ list_.length c_list_] w [] fun v w' => ∃ a1 c1 F1, v = .slice a1 res.length c1 ∧ NewC w w' [owC flowsL F1 [.slice a1 res.length c1] res] := by
  have mh_list_ := rd_max h_list_
  unfold m_spec_l14Copy at h
  refine ret_enter Try.func67 rfl Try.ntmps67 rfl (Hp.refl w _) ?_
  refine cw_seq ?_
  refine cw_region ?_
  refine wl_u rfl (ow_y (yh_assign rfl rfl) rfl rfl (kk_wl ?_))
  refine wl_nil ?_
  refine ex_seq ?_
  refine cw_seq ?_
  refine cw_region ?_
  refine wl_u rfl (ow_lit0 Tb rfl rfl rfl rfl rfl rfl (fun g5 => kk_chg (c' := owC flowsL [g5] [.slice (some ⟨g5, 0, none⟩) 0 0] ([] : List Flow)) 0 rfl (fun w hA => own_flowsL ([] : List Flow) hA rfl (by simp [maxLen])) rfl (kk_wl ?_)))
  refine wl_u rfl (ow_y (yh_assign rfl rfl) rfl rfl (kk_wl ?_))
  refine wl_nil ?_
  refine ex_seq ?_
  refine cw_seq ?_
  refine cw_seq ?_
  refine cw_region ?_
  refine wl_u rfl (ow_y (yh_assign rfl rfl) rfl rfl (kk_wl ?_))
  refine wl_nil ?_
  refine ex_seq ?_
  refine cw_block ?_
  obtain ⟨e5, he5, hk5⟩ := bd h
  clear h
  refine cw_loopG (σ := Nat × (List Flow) × Nat × (Option Addr) × Nat × (List Nat)) (fun s => m_spec_l14Copy_L5 N list_ s.1 s.2.1 s.2.2.1 = some e5) (fun s => [(0, .slice a_list_ list_.length c_list_), (3, .slice s.2.2.2.1 s.2.1.length s.2.2.2.2.1), (4, .int .i64 ((s.2.2.1 : Nat) : Int))]) (fun s => [owC flowsL s.2.2.2.2.2 [.slice s.2.2.2.1 s.2.1.length s.2.2.2.2.1] s.2.1]) (fun s => s.1) (N, ([] : List Flow), 0, (some ⟨g5, 0, none⟩), 0, [g5]) [0] he5 ⟨rfl, rfl, rfl, trivial⟩ rfl (fun KL s he5 hn5 => ?_)
  obtain ⟨n5, s3, s4, as3, cs3, Fs3⟩ := s
  simp only at he5 hn5 ⊢
  rcases n5 with _ | n5
  · exact nosome he5
  have h := he5; rw [m_spec_l14Copy_L5] at h
  refine cw_seq ?_
  refine cw_seq ?_
  refine cw_region ?_
  refine wl_u rfl (ow_y (yh_move rfl rfl) rfl rfl (kk_wl ?_))
  refine wl_u rfl (ow_y (yh_move rfl rfl) rfl rfl (kk_wl ?_))
  refine wl_u rfl (ow_y (yh_lenS Tb rfl rfl rfl rfl) rfl rfl (kk_wl ?_))
  refine wl_u rfl (ow_y (yh_cmpI rfl rfl rfl rfl) rfl rfl (kk_wl ?_))
  refine wl_nil ?_
  refine ex_seq ?_
  refine cw_split rfl (fun c1 => ?_) (fun c1 => ?_)
  · skip
    replace h := bt c1 h
    have q1 := ltb_true.1 c1
    refine cw_skip ?_
    refine ex_seq ?_
    refine cw_seq ?_
    refine cw_block ?_
    refine cw_region ?_
    refine wl_u rfl (ow_y (yh_move rfl rfl) rfl rfl (kk_wl ?_))
    refine wl_u rfl (ow_y (yh_move rfl rfl) rfl rfl (kk_wl ?_))
    refine wl_u rfl (ow_y (yh_move rfl rfl) rfl rfl (kk_wl ?_))
    obtain ⟨y15, hy15, h⟩ := bd h
    obtain ⟨b15, o15, ha15⟩ := sl_addr h_list_ hy15
    subst ha15
    obtain ⟨a15, e15, hc15, hf15⟩ := get_flow h_list_ hy15
    have mx15 := rd_max hf15
    refine wl_u rfl (ow_y (yh_idx Tb (k := s4) rfl rfl rfl rfl (get_lt hy15) rfl rfl) rfl rfl (kk_wl ?_))
    refine wl_u rfl (ow_y (yh_loadAN Tb rfl rfl rfl rfl hc15 rfl) rfl rfl (kk_wl ?_))
    obtain ⟨x17, hx17, h⟩ := bd h
    refine wl_u rfl (ow_cN1 rfl hb66 rfl (fun w hw => c_spec_l2Copy N _ _ hx17 w (Lay.at_ hf15 hw)) rfl rfl (fun a17 c17 F17 => kk_wl ?_))
    refine wl_u rfl (ow_litA Tb rfl rfl rfl rfl rfl rfl (by decide) rfl rfl (fun g18 => kk_wl ?_))
    obtain ⟨hll19, h⟩ := bd_appd h
    refine wl_u rfl (ow_chg (c' := owC flowL F17 [.int .i64 x17.ver, .slice a17 x17.steps.length c17] x17) 1 rfl (fun w hA => flowL_mk x17 hA) rfl (ow_appE Tb (i := 2) (j := 0) (k := 1) rfl rfl rfl rfl rfl rfl rfl rfl rfl rfl rfl (app1 hll19) (by decide) rfl rfl (fun a19 c19 F19 => kk_wl ?_)))
    refine wl_u rfl (ow_y (yh_assign rfl rfl) rfl rfl (kk_wl ?_))
    refine wl_nil ?_
    refine ex_block_normal ?_
    refine ex_seq ?_
    refine cw_region ?_
    refine wl_u rfl (ow_y (yh_move rfl rfl) rfl rfl (kk_wl ?_))
    refine wl_u rfl (ow_y (yh_arI rfl rfl rfl rfl (by omega)) rfl rfl (kk_wl ?_))
    refine wl_u rfl (ow_y (yh_assign rfl rfl) rfl rfl (kk_wl ?_))
    refine wl_nil ?_
    exact ex_next [0] (hn5 (n5, (s3 ++ [x17]), s4 + 1, a19, c19, F19) (Nat.lt_succ_self _) h) ⟨rfl, rfl, rfl, trivial⟩ (by kernel_rfl)
  · skip
    replace h := bf c1 h
    have q2 := ltb_false.1 c1
    refine cw_exit ?_
    refine ex_then_exit ?_
    refine ex_then_exit ?_
    obtain rfl := Option.some.inj h
    have h := go_brk hk5
    refine ex_block_exit ?_
    refine ex_seq ?_
    refine cw_seq ?_
    refine cw_region ?_
    refine wl_u rfl (ow_y (yh_move rfl rfl) rfl rfl (kk_wl ?_))
    refine wl_u rfl (ow_y (yh_assign rfl rfl) rfl rfl (kk_wl ?_))
    refine wl_nil ?_
    refine ex_seq ?_
    refine cw_ret ?_
    obtain rfl := Option.some.inj h
    exact ex_r1 Tb rfl (.tmp rfl) (fun wq hq => ⟨_, rfl, hq.ext, ⟨as3, cs3, Fs3, rfl, NewC.sel [0] hq rfl⟩⟩)

def m_spec_RegistryDrop_L10 (N : Nat) (version : Int) (used : List Int) : Nat → Nat → Option (Ex (Nat) (List Flow × Bool))
  | 0, _ => none
  | n + 1, s9 => (bif ltb ((s9 : Nat) : Int) ((used.length : Nat) : Int) then (used[s9]?).bind fun y37 => (bif eqb y37 version then some (Ex.ret (([] : List Flow), false))
 else m_spec_RegistryDrop_L10 N version used n (s9 + 1))
 else some (Ex.brk (s9)))

def m_spec_RegistryDrop (N : Nat) (list_ : List Flow) (version : Int) (used : List Int) : Option (List Flow × Bool) := (m_spec_l14At N list_ version).bind fun x13 => (m_spec_RegistryValid N list_).bind fun x15 => (bif !x15 then some (([] : List Flow), false)
 else (bif ltb x13 0 then some (([] : List Flow), false)
 else (bif eqb (w64 (x13 + 1)) ((list_.length : Nat) : Int) then some (([] : List Flow), false)
 else (m_spec_RegistryDrop_L10 N version used N 0).bind fun e10 => e10.go (fun r => r) fun b10 => (m_spec_l14Copy N list_).bind fun x43 => (slTo x43 x13).bind fun l46 => (slFrom x43 (w64 (x13 + 1))).bind fun l50 => (kle x13 (w64 (x13 + 1))).bind fun u51 => some ((l46 ++ l50), true))))

set_option maxHeartbeats 4000000 in
theorem c_spec_RegistryDrop (N : Nat) (list_ : List Flow) (version : Int) (used : List Int) (res : List Flow × Bool) (h : m_spec_RegistryDrop N list_ version used = some res) (w : World) {a_list_ a_used : Option Addr} {c_list_ c_used : Nat} (h_list_ : flowsL.rd w [] [.slice a_list_ list_.length c_list_] list_) (h_used : intsL.rd w [] [.slice a_used used.length c_used] used) : Ret Try.prog 23 [.slice a_list_ list_.length c_list_, .int .i64 version, .slice a_used used.length c_used] w [] fun v w' => ∃ a1 c1 F1, v = .tuple #[.slice a1 res.1.length c1, .bool res.2] ∧ NewC w w' [owC flowsL F1 [.slice a1 res.1.length c1] res.1] := by
  have mh_list_ := rd_max h_list_
  have mh_used := rd_max h_used
  unfold m_spec_RegistryDrop at h
  refine ret_enter Try.func23 rfl Try.ntmps23 rfl (Hp.refl w _) ?_
  refine cw_seq ?_
  refine cw_region ?_
  refine wl_u rfl (ow_y (yh_assign rfl rfl) rfl rfl (kk_wl ?_))
  refine wl_u rfl (ow_y (yh_assign rfl rfl) rfl rfl (kk_wl ?_))
  refine wl_nil ?_
  refine ex_seq ?_
  refine cw_seq ?_
  refine cw_region ?_
  refine wl_u rfl (ow_y (yh_move rfl rfl) rfl rfl (kk_wl ?_))
  refine wl_u rfl (ow_y (yh_move rfl rfl) rfl rfl (kk_wl ?_))
  obtain ⟨x13, hx13, h⟩ := bd h
  refine wl_u rfl (ow_cV rfl hb75 rfl (fun w hw => c_spec_l14At N _ _ _ hx13 w (Lay.at_ h_list_ hw)) rfl rfl (kk_wl ?_))
  refine wl_u rfl (ow_y (yh_assign rfl rfl) rfl rfl (kk_wl ?_))
  refine wl_nil ?_
  refine ex_seq ?_
  refine cw_seq ?_
  refine cw_seq ?_
  refine cw_region ?_
  refine wl_u rfl (ow_y (yh_move rfl rfl) rfl rfl (kk_wl ?_))
  obtain ⟨x15, hx15, h⟩ := bd h
  refine wl_u rfl (ow_cV rfl hb65 rfl (fun w hw => c_spec_RegistryValid N _ _ hx15 w (Lay.at_ h_list_ hw)) rfl rfl (kk_wl ?_))
  refine wl_u rfl (ow_y (yh_not rfl rfl) rfl rfl (kk_wl ?_))
  refine wl_u rfl (ow_y (yh_move rfl rfl) rfl rfl (kk_wl ?_))
  refine wl_s rfl rfl (fun c1 => ?_) (fun c1 => ?_)
  · skip
    replace h := bt c1 h
    refine wl_n rfl rfl rfl rfl ?_
    refine wl_n rfl rfl rfl rfl ?_
    refine wl_u rfl (ow_y (yh_pickT rfl rfl rfl) rfl rfl (kk_wl ?_))
    refine wl_u rfl (ow_y (yh_move rfl rfl) rfl rfl (kk_wl ?_))
    refine wl_s rfl rfl (fun _ => ?_) nofun
    refine wl_n rfl rfl rfl rfl ?_
    refine wl_n rfl rfl rfl rfl ?_
    refine wl_n rfl rfl rfl rfl ?_
    refine wl_n rfl rfl rfl rfl ?_
    refine wl_n rfl rfl rfl rfl ?_
    refine wl_u rfl (ow_y (yh_pickT rfl rfl rfl) rfl rfl (kk_wl ?_))
    refine wl_nil ?_
    refine ex_seq ?_
    refine cw_true rfl ?_
    refine cw_seq ?_
    refine cw_region ?_
    refine wl_u rfl (ow_lit0 Tb rfl rfl rfl rfl rfl rfl (fun g28 => kk_chg (c' := owC flowsL [g28] [.slice (some ⟨g28, 0, none⟩) 0 0] ([] : List Flow)) 0 rfl (fun w hA => own_flowsL ([] : List Flow) hA rfl (by simp [maxLen])) rfl (kk_wl ?_)))
    refine wl_u rfl (ow_y (yh_assign rfl rfl) rfl rfl (kk_wl ?_))
    refine wl_u rfl (ow_y (yh_assign rfl rfl) rfl rfl (kk_wl ?_))
    refine wl_nil ?_
    refine ex_seq ?_
    refine cw_ret ?_
    refine ex_then_ret ?_
    obtain rfl := Option.some.inj h
    exact ex_r2 Tb rfl (.tmp rfl) (.tmp rfl) (fun wq hq => ⟨_, rfl, hq.ext, ⟨(some ⟨g28, 0, none⟩), 0, [g28], rfl, NewC.sel [0] hq rfl⟩⟩)
  · skip
    replace h := bf c1 h
    refine wl_g rfl rfl (ow_y (yh_move rfl rfl) rfl rfl (kk_wl ?_))
    refine wl_g rfl rfl (ow_y (yh_cmpI rfl rfl rfl rfl) rfl rfl (kk_wl ?_))
    refine wl_u rfl (ow_y (yh_pickF rfl rfl rfl) rfl rfl (kk_wl ?_))
    refine wl_u rfl (ow_y (yh_move rfl rfl) rfl rfl (kk_wl ?_))
    refine wl_s rfl rfl (fun c2 => ?_) (fun c2 => ?_)
    · skip
      replace h := bt c2 h
      have q1 := ltb_true.1 c2
      refine wl_n rfl rfl rfl rfl ?_
      refine wl_n rfl rfl rfl rfl ?_
      refine wl_n rfl rfl rfl rfl ?_
      refine wl_n rfl rfl rfl rfl ?_
      refine wl_n rfl rfl rfl rfl ?_
      refine wl_u rfl (ow_y (yh_pickT rfl rfl rfl) rfl rfl (kk_wl ?_))
      refine wl_nil ?_
      refine ex_seq ?_
      refine cw_true rfl ?_
      refine cw_seq ?_
      refine cw_region ?_
      refine wl_u rfl (ow_lit0 Tb rfl rfl rfl rfl rfl rfl (fun g28 => kk_chg (c' := owC flowsL [g28] [.slice (some ⟨g28, 0, none⟩) 0 0] ([] : List Flow)) 0 rfl (fun w hA => own_flowsL ([] : List Flow) hA rfl (by simp [maxLen])) rfl (kk_wl ?_)))
      refine wl_u rfl (ow_y (yh_assign rfl rfl) rfl rfl (kk_wl ?_))
      refine wl_u rfl (ow_y (yh_assign rfl rfl) rfl rfl (kk_wl ?_))
      refine wl_nil ?_
      refine ex_seq ?_
      refine cw_ret ?_
      refine ex_then_ret ?_
      obtain rfl := Option.some.inj h
      exact ex_r2 Tb rfl (.tmp rfl) (.tmp rfl) (fun wq hq => ⟨_, rfl, hq.ext, ⟨(some ⟨g28, 0, none⟩), 0, [g28], rfl, NewC.sel [0] hq rfl⟩⟩)
    · skip
      replace h := bf c2 h
      have q2 := ltb_false.1 c2
      refine wl_g rfl rfl (ow_y (yh_move rfl rfl) rfl rfl (kk_wl ?_))
      refine wl_g rfl rfl (ow_y (yh_arW rfl rfl rfl rfl) rfl rfl (kk_wl ?_))
      refine wl_g rfl rfl (ow_y (yh_move rfl rfl) rfl rfl (kk_wl ?_))
      refine wl_g rfl rfl (ow_y (yh_lenS Tb rfl rfl rfl rfl) rfl rfl (kk_wl ?_))
      refine wl_g rfl rfl (ow_y (yh_cmpI rfl rfl rfl rfl) rfl rfl (kk_wl ?_))
      refine wl_u rfl (ow_y (yh_pickF rfl rfl rfl) rfl rfl (kk_wl ?_))
      refine wl_nil ?_
      refine ex_seq ?_
      refine cw_split rfl (fun c3 => ?_) (fun c3 => ?_)
      · skip
        replace h := bt c3 h
        have q3 := eqb_true.1 c3
        refine cw_seq ?_
        refine cw_region ?_
        refine wl_u rfl (ow_lit0 Tb rfl rfl rfl rfl rfl rfl (fun g28 => kk_chg (c' := owC flowsL [g28] [.slice (some ⟨g28, 0, none⟩) 0 0] ([] : List Flow)) 0 rfl (fun w hA => own_flowsL ([] : List Flow) hA rfl (by simp [maxLen])) rfl (kk_wl ?_)))
        refine wl_u rfl (ow_y (yh_assign rfl rfl) rfl rfl (kk_wl ?_))
        refine wl_u rfl (ow_y (yh_assign rfl rfl) rfl rfl (kk_wl ?_))
        refine wl_nil ?_
        refine ex_seq ?_
        refine cw_ret ?_
        refine ex_then_ret ?_
        obtain rfl := Option.some.inj h
        exact ex_r2 Tb rfl (.tmp rfl) (.tmp rfl) (fun wq hq => ⟨_, rfl, hq.ext, ⟨(some ⟨g28, 0, none⟩), 0, [g28], rfl, NewC.sel [0] hq rfl⟩⟩)
      · skip
        replace h := bf c3 h
        have q4 := eqb_false.1 c3
        refine cw_skip ?_
        refine ex_seq ?_
        refine cw_seq ?_
        refine cw_seq ?_
        refine cw_region ?_
        refine wl_u rfl (ow_y (yh_assign rfl rfl) rfl rfl (kk_wl ?_))
        refine wl_nil ?_
        refine ex_seq ?_
        refine cw_block ?_
        obtain ⟨e10, he10, hk10⟩ := bd h
        clear h
        refine cw_loopG (σ := Nat × Nat) (fun s => m_spec_RegistryDrop_L10 N version used s.1 s.2 = some e10) (fun s => [(0, .slice a_list_ list_.length c_list_), (1, .int .i64 version), (2, .slice a_used used.length c_used), (8, .int .i64 x13), (9, .int .i64 ((s.2 : Nat) : Int))]) (fun s => []) (fun s => s.1) (N, 0) [] he10 ⟨rfl, rfl, rfl, rfl, rfl, trivial⟩ rfl (fun KL s he10 hn10 => ?_)
        obtain ⟨n10, s9⟩ := s
        simp only at he10 hn10 ⊢
        rcases n10 with _ | n10
        · exact nosome he10
        have h := he10; rw [m_spec_RegistryDrop_L10] at h
        refine cw_seq ?_
        refine cw_seq ?_
        refine cw_region ?_
        refine wl_u rfl (ow_y (yh_move rfl rfl) rfl rfl (kk_wl ?_))
        refine wl_u rfl (ow_y (yh_move rfl rfl) rfl rfl (kk_wl ?_))
        refine wl_u rfl (ow_y (yh_lenS Tb rfl rfl rfl rfl) rfl rfl (kk_wl ?_))
        refine wl_u rfl (ow_y (yh_cmpI rfl rfl rfl rfl) rfl rfl (kk_wl ?_))
        refine wl_nil ?_
        refine ex_seq ?_
        refine cw_split rfl (fun c4 => ?_) (fun c4 => ?_)
        · skip
          replace h := bt c4 h
          have q5 := ltb_true.1 c4
          refine cw_skip ?_
          refine ex_seq ?_
          refine cw_seq ?_
          refine cw_block ?_
          refine cw_seq ?_
          refine cw_region ?_
          refine wl_u rfl (ow_y (yh_move rfl rfl) rfl rfl (kk_wl ?_))
          refine wl_u rfl (ow_y (yh_move rfl rfl) rfl rfl (kk_wl ?_))
          obtain ⟨y37, hy37, h⟩ := bd h
          obtain ⟨b37, o37, ha37⟩ := sl_addr h_used hy37
          subst ha37
          have hc37 := get_int h_used hy37
          refine wl_u rfl (ow_y (yh_idx Tb (k := s9) rfl rfl rfl rfl (get_lt hy37) rfl rfl) rfl rfl (kk_wl ?_))
          refine wl_u rfl (ow_y (yh_loadA0 Tb rfl rfl rfl hc37 rfl) rfl rfl (kk_wl ?_))
          refine wl_u rfl (ow_y (yh_move rfl rfl) rfl rfl (kk_wl ?_))
          refine wl_u rfl (ow_y (yh_cmpI rfl rfl rfl rfl) rfl rfl (kk_wl ?_))
          refine wl_nil ?_
          refine ex_seq ?_
          refine cw_split rfl (fun c5 => ?_) (fun c5 => ?_)
          · skip
            replace h := bt c5 h
            have q6 := eqb_true.1 c5
            refine cw_seq ?_
            refine cw_region ?_
            refine wl_u rfl (ow_lit0 Tb rfl rfl rfl rfl rfl rfl (fun g41 => kk_chg (c' := owC flowsL [g41] [.slice (some ⟨g41, 0, none⟩) 0 0] ([] : List Flow)) 0 rfl (fun w hA => own_flowsL ([] : List Flow) hA rfl (by simp [maxLen])) rfl (kk_wl ?_)))
            refine wl_u rfl (ow_y (yh_assign rfl rfl) rfl rfl (kk_wl ?_))
            refine wl_u rfl (ow_y (yh_assign rfl rfl) rfl rfl (kk_wl ?_))
            refine wl_nil ?_
            refine ex_seq ?_
            refine cw_ret ?_
            refine ex_block_ret ?_
            refine ex_then_ret ?_
            refine ex_then_ret ?_
            refine ex_block_ret ?_
            refine ex_then_ret ?_
            obtain rfl := Option.some.inj h
            obtain rfl := go_ret hk10
            exact ex_r2 Tb rfl (.tmp rfl) (.tmp rfl) (fun wq hq => ⟨_, rfl, hq.ext, ⟨(some ⟨g41, 0, none⟩), 0, [g41], rfl, NewC.sel [0] hq rfl⟩⟩)
          · skip
            replace h := bf c5 h
            have q7 := eqb_false.1 c5
            refine cw_skip ?_
            refine ex_block_normal ?_
            refine ex_seq ?_
            refine cw_region ?_
            refine wl_u rfl (ow_y (yh_move rfl rfl) rfl rfl (kk_wl ?_))
            refine wl_u rfl (ow_y (yh_arI rfl rfl rfl rfl (by omega)) rfl rfl (kk_wl ?_))
            refine wl_u rfl (ow_y (yh_assign rfl rfl) rfl rfl (kk_wl ?_))
            refine wl_nil ?_
            exact ex_next [] (hn10 (n10, s9 + 1) (Nat.lt_succ_self _) h) ⟨rfl, rfl, rfl, rfl, rfl, trivial⟩ (by kernel_rfl)
        · skip
          replace h := bf c4 h
          have q8 := ltb_false.1 c4
          refine cw_exit ?_
          refine ex_then_exit ?_
          refine ex_then_exit ?_
          obtain rfl := Option.some.inj h
          have h := go_brk hk10
          refine ex_block_exit ?_
          refine ex_seq ?_
          refine cw_seq ?_
          refine cw_region ?_
          refine wl_u rfl (ow_y (yh_move rfl rfl) rfl rfl (kk_wl ?_))
          obtain ⟨x43, hx43, h⟩ := bd h
          refine wl_u rfl (ow_cN1 rfl hb67 rfl (fun w hw => c_spec_l14Copy N _ _ hx43 w (Lay.at_ h_list_ hw)) rfl rfl (fun a43 c43 F43 => kk_wl ?_))
          refine wl_u rfl (ow_y (yh_assign rfl rfl) rfl rfl (kk_wl ?_))
          refine wl_nil ?_
          refine ex_seq ?_
          refine cw_seq ?_
          refine cw_dr [0, 1, 2, 3, 4, 5, 6] [7, 8, 9] [owC flowsL F43 [.slice a43 x43.length c43] x43] (by kernel_rfl) ?_
          refine wd_take (i := 0) [0] rfl rfl rfl rfl rfl (by kernel_rfl) (by kernel_rfl) (fun _ _ _ _ h => h) (yh_move rfl rfl) ?_
          refine wd_take (i := 1) [0] rfl rfl rfl rfl rfl (by kernel_rfl) (by kernel_rfl) (fun _ _ _ _ h => h) (yh_move rfl rfl) ?_
          obtain ⟨l46, zl46, h⟩ := bd h
          obtain ⟨il46, jl46⟩ := slTo_K zl46
          refine wd_know (x43.length ≤ c43) (fun w hw => own_capK 0 rfl hw) (fun hcp46 => ?_)
          refine wd_take (i := 2) [0] rfl rfl rfl rfl rfl (by kernel_rfl) (by kernel_rfl) (fun _ _ _ _ h => h) (yh_sliceH Tb (k := l46.length) rfl rfl rfl il46 (Nat.le_trans jl46 hcp46) rfl rfl) ?_
          refine wd_take (i := 3) [0] rfl rfl rfl rfl rfl (by kernel_rfl) (by kernel_rfl) (fun _ _ _ _ h => h) (yh_move rfl rfl) ?_
          refine wd_take (i := 4) [0] rfl rfl rfl rfl rfl (by kernel_rfl) (by kernel_rfl) (fun _ _ _ _ h => h) (yh_move rfl rfl) ?_
          refine wd_take (i := 5) [0] rfl rfl rfl rfl rfl (by kernel_rfl) (by kernel_rfl) (fun _ _ _ _ h => h) (yh_arW rfl rfl rfl rfl) ?_
          obtain ⟨l50, zl50, h⟩ := bd h
          obtain ⟨a50, e50, va50, ve50, il50⟩ := sl_dropV a43 c43 2 zl50
          refine wd_take (i := 6) [0] rfl rfl rfl rfl rfl (by kernel_rfl) (by kernel_rfl) (fun _ _ _ _ h => h) (yh_sliceLN Tb rfl zl50 va50 ve50 rfl rfl rfl rfl rfl) ?_
          obtain ⟨u51, zu51, h⟩ := bd h
          have hle51 := kle_some zu51
          have hdl51 := del_len zl46 zl50 hle51
          refine wd_one 7 rfl rfl (by kernel_rfl) (ow_del Tb 0 zl46 zl50 hle51 va50 ve50 rfl rfl rfl rfl rfl rfl rfl rfl rfl (fun F51 => kk_wdT rfl ?_))
          refine wd_one 8 rfl rfl (by kernel_rfl) (ow_y (yh_assign rfl rfl) rfl rfl (kk_wdT rfl ?_))
          refine wd_one 9 rfl rfl (by kernel_rfl) (ow_y (yh_assign rfl rfl) rfl rfl (kk_wdT rfl ?_))
          refine wd_done (by kernel_rfl) ?_
          refine ex_seq ?_
          refine cw_ret ?_
          obtain rfl := Option.some.inj h
          exact ex_r2 Tb rfl (.tmp rfl) (.tmp rfl) (fun wq hq => ⟨_, rfl, hq.ext, ⟨a43, c43, F51, rfl, NewC.sel [0] hq rfl⟩⟩)

def m_laws_sameTexts_L8 (N : Nat) (a : List Str) (b : List Str) : Nat → Nat → Option (Ex (Nat) (Bool))
  | 0, _ => none
  | n + 1, s5 => (bif ltb ((s5 : Nat) : Int) ((a.length : Nat) : Int) then (a[s5]?).bind fun y19 => (b[s5]?).bind fun y23 => (bif !(seq y19 y23) then some (Ex.ret false)
 else m_laws_sameTexts_L8 N a b n (s5 + 1))
 else some (Ex.brk (s5)))

def m_laws_sameTexts (N : Nat) (a : List Str) (b : List Str) : Option (Bool) := (bif !(eqb ((a.length : Nat) : Int) ((b.length : Nat) : Int)) then some false
 else (m_laws_sameTexts_L8 N a b N 0).bind fun e8 => e8.go (fun r => r) fun b8 => some true)

set_option maxHeartbeats 4000000 in
theorem c_laws_sameTexts (N : Nat) (a : List Str) (b : List Str) (res : Bool) (h : m_laws_sameTexts N a b = some res) (w : World) {a_a a_b : Option Addr} {c_a c_b : Nat} (h_a : strsL.rd w [] [.slice a_a a.length c_a] a) (h_b : strsL.rd w [] [.slice a_b b.length c_b] b) : Ret Try.prog 50 [.slice a_a a.length c_a, .slice a_b b.length c_b] w [] fun v w' => v = .bool res := by
  have mh_a := rd_max h_a
  have mh_b := rd_max h_b
  unfold m_laws_sameTexts at h
  refine ret_enter Try.func50 rfl Try.ntmps50 rfl (Hp.refl w _) ?_
  refine cw_seq ?_
  refine cw_region ?_
  refine wl_u rfl (ow_y (yh_assign rfl rfl) rfl rfl (kk_wl ?_))
  refine wl_nil ?_
  refine ex_seq ?_
  refine cw_seq ?_
  refine cw_seq ?_
  refine cw_region ?_
  refine wl_u rfl (ow_y (yh_move rfl rfl) rfl rfl (kk_wl ?_))
  refine wl_u rfl (ow_y (yh_lenS Tb rfl rfl rfl rfl) rfl rfl (kk_wl ?_))
  refine wl_u rfl (ow_y (yh_move rfl rfl) rfl rfl (kk_wl ?_))
  refine wl_u rfl (ow_y (yh_lenS Tb rfl rfl rfl rfl) rfl rfl (kk_wl ?_))
  refine wl_u rfl (ow_y (yh_cmpI rfl rfl rfl rfl) rfl rfl (kk_wl ?_))
  refine wl_nil ?_
  refine ex_seq ?_
  refine cw_split rfl (fun c1 => ?_) (fun c1 => ?_)
  · skip
    replace h := bt c1 h
    have q1 := eqb_false.1 (nt c1)
    refine cw_seq ?_
    refine cw_region ?_
    refine wl_u rfl (ow_y (yh_assign rfl rfl) rfl rfl (kk_wl ?_))
    refine wl_nil ?_
    refine ex_seq ?_
    refine cw_ret ?_
    refine ex_then_ret ?_
    obtain rfl := Option.some.inj h
    exact ex_r1 Tb rfl (.tmp rfl) (fun wq hq => ⟨_, rfl, hq.ext, rfl⟩)
  · skip
    replace h := bf c1 h
    have q2 := eqb_true.1 (nf c1)
    refine cw_skip ?_
    refine ex_seq ?_
    refine cw_seq ?_
    refine cw_seq ?_
    refine cw_region ?_
    refine wl_u rfl (ow_y (yh_assign rfl rfl) rfl rfl (kk_wl ?_))
    refine wl_nil ?_
    refine ex_seq ?_
    refine cw_block ?_
    obtain ⟨e8, he8, hk8⟩ := bd h
    clear h
    refine cw_loopG (σ := Nat × Nat) (fun s => m_laws_sameTexts_L8 N a b s.1 s.2 = some e8) (fun s => [(0, .slice a_a a.length c_a), (1, .slice a_b b.length c_b), (5, .int .i64 ((s.2 : Nat) : Int))]) (fun s => []) (fun s => s.1) (N, 0) [] he8 ⟨rfl, rfl, rfl, trivial⟩ rfl (fun KL s he8 hn8 => ?_)
    obtain ⟨n8, s5⟩ := s
    simp only at he8 hn8 ⊢
    rcases n8 with _ | n8
    · exact nosome he8
    have h := he8; rw [m_laws_sameTexts_L8] at h
    refine cw_seq ?_
    refine cw_seq ?_
    refine cw_region ?_
    refine wl_u rfl (ow_y (yh_move rfl rfl) rfl rfl (kk_wl ?_))
    refine wl_u rfl (ow_y (yh_move rfl rfl) rfl rfl (kk_wl ?_))
    refine wl_u rfl (ow_y (yh_lenS Tb rfl rfl rfl rfl) rfl rfl (kk_wl ?_))
    refine wl_u rfl (ow_y (yh_cmpI rfl rfl rfl rfl) rfl rfl (kk_wl ?_))
    refine wl_nil ?_
    refine ex_seq ?_
    refine cw_split rfl (fun c2 => ?_) (fun c2 => ?_)
    · skip
      replace h := bt c2 h
      have q3 := ltb_true.1 c2
      refine cw_skip ?_
      refine ex_seq ?_
      refine cw_seq ?_
      refine cw_block ?_
      refine cw_seq ?_
      refine cw_dr [0, 1, 2, 3, 4, 5, 6, 7, 8] [] [] (by kernel_rfl) ?_
      refine wd_take (i := 0) [] rfl rfl rfl rfl rfl (by kernel_rfl) (by kernel_rfl) (fun _ _ _ _ h => h) (yh_move rfl rfl) ?_
      refine wd_take (i := 1) [] rfl rfl rfl rfl rfl (by kernel_rfl) (by kernel_rfl) (fun _ _ _ _ h => h) (yh_move rfl rfl) ?_
      obtain ⟨y19, hy19, h⟩ := bd h
      obtain ⟨b19, o19, ha19⟩ := sl_addr h_a hy19
      subst ha19
      have hc19 := get_str h_a hy19
      refine wd_take (i := 2) [] rfl rfl rfl rfl rfl (by kernel_rfl) (by kernel_rfl) (fun _ _ _ _ h => h) (yh_idx Tb (k := s5) rfl rfl rfl rfl (get_lt hy19) rfl rfl) ?_
      refine wd_take (i := 3) [] rfl rfl rfl rfl rfl (by kernel_rfl) (by kernel_rfl) (fun _ _ _ _ h => h) (yh_loadA0 Tb rfl rfl rfl hc19 rfl) ?_
      refine wd_take (i := 4) [] rfl rfl rfl rfl rfl (by kernel_rfl) (by kernel_rfl) (fun _ _ _ _ h => h) (yh_move rfl rfl) ?_
      refine wd_take (i := 5) [] rfl rfl rfl rfl rfl (by kernel_rfl) (by kernel_rfl) (fun _ _ _ _ h => h) (yh_move rfl rfl) ?_
      obtain ⟨y23, hy23, h⟩ := bd h
      obtain ⟨b23, o23, ha23⟩ := sl_addr h_b hy23
      subst ha23
      have hc23 := get_str h_b hy23
      refine wd_take (i := 6) [] rfl rfl rfl rfl rfl (by kernel_rfl) (by kernel_rfl) (fun _ _ _ _ h => h) (yh_idx Tb (k := s5) rfl rfl rfl rfl (get_lt hy23) rfl rfl) ?_
      refine wd_take (i := 7) [] rfl rfl rfl rfl rfl (by kernel_rfl) (by kernel_rfl) (fun _ _ _ _ h => h) (yh_loadA0 Tb rfl rfl rfl hc23 rfl) ?_
      refine wd_take (i := 8) [] rfl rfl rfl rfl rfl (by kernel_rfl) (by kernel_rfl) (fun _ _ _ _ h => h) (yh_cmpS rfl rfl rfl rfl) ?_
      refine wd_done (by kernel_rfl) ?_
      refine ex_seq ?_
      refine cw_split rfl (fun c3 => ?_) (fun c3 => ?_)
      · skip
        replace h := bt c3 h
        refine cw_seq ?_
        refine cw_region ?_
        refine wl_u rfl (ow_y (yh_assign rfl rfl) rfl rfl (kk_wl ?_))
        refine wl_nil ?_
        refine ex_seq ?_
        refine cw_ret ?_
        refine ex_block_ret ?_
        refine ex_then_ret ?_
        refine ex_then_ret ?_
        refine ex_block_ret ?_
        refine ex_then_ret ?_
        obtain rfl := Option.some.inj h
        obtain rfl := go_ret hk8
        exact ex_r1 Tb rfl (.tmp rfl) (fun wq hq => ⟨_, rfl, hq.ext, rfl⟩)
      · skip
        replace h := bf c3 h
        refine cw_skip ?_
        refine ex_block_normal ?_
        refine ex_seq ?_
        refine cw_region ?_
        refine wl_u rfl (ow_y (yh_move rfl rfl) rfl rfl (kk_wl ?_))
        refine wl_u rfl (ow_y (yh_arI rfl rfl rfl rfl (by omega)) rfl rfl (kk_wl ?_))
        refine wl_u rfl (ow_y (yh_assign rfl rfl) rfl rfl (kk_wl ?_))
        refine wl_nil ?_
        exact ex_next [] (hn8 (n8, s5 + 1) (Nat.lt_succ_self _) h) ⟨rfl, rfl, rfl, trivial⟩ (by kernel_rfl)
    · skip
      replace h := bf c2 h
      have q4 := ltb_false.1 c2
      refine cw_exit ?_
      refine ex_then_exit ?_
      refine ex_then_exit ?_
      obtain rfl := Option.some.inj h
      have h := go_brk hk8
      refine ex_block_exit ?_
      refine ex_seq ?_
      refine cw_seq ?_
      refine cw_region ?_
      refine wl_u rfl (ow_y (yh_assign rfl rfl) rfl rfl (kk_wl ?_))
      refine wl_nil ?_
      refine ex_seq ?_
      refine cw_ret ?_
      obtain rfl := Option.some.inj h
      exact ex_r1 Tb rfl (.tmp rfl) (fun wq hq => ⟨_, rfl, hq.ext, rfl⟩)

def m_laws_sameStep (N : Nat) (a : Step) (b : Step) : Option (Bool) := (bif seq a.name b.name then (bif a.undo == b.undo then (m_laws_sameTexts N a.after b.after).bind fun x22 => some x22
 else some false)
 else some false)

set_option maxHeartbeats 4000000 in
theorem c_laws_sameStep (N : Nat) (a : Step) (b : Step) (res : Bool) (h : m_laws_sameStep N a b = some res) (w : World) {a_a_after a_b_after : Option Addr} {c_a_after c_b_after : Nat} (h_a_after : strsL.rd w [] [.slice a_a_after a.after.length c_a_after] a.after) (h_b_after : strsL.rd w [] [.slice a_b_after b.after.length c_b_after] b.after) : Ret Try.prog 115 [.agg #[.string a.name, .slice a_a_after a.after.length c_a_after, .bool a.undo], .agg #[.string b.name, .slice a_b_after b.after.length c_b_after, .bool b.undo]] w [] fun v w' => v = .bool res := by
  have mh_a_after := rd_max h_a_after
  have mh_b_after := rd_max h_b_after
  unfold m_laws_sameStep at h
  refine ret_enter Try.func115 rfl Try.ntmps115 rfl (Hp.refl w _) ?_
  refine cw_seq ?_
  refine cw_region ?_
  refine wl_u rfl (ow_boxA rfl rfl rfl rfl (fun g2 => kk_wl ?_))
  refine wl_u rfl (ow_boxA rfl rfl rfl rfl (fun g3 => kk_wl ?_))
  refine wl_u rfl (ow_y (yh_assign rfl rfl) rfl rfl (kk_wl ?_))
  refine wl_nil ?_
  refine ex_seq ?_
  refine cw_seq ?_
  refine cw_region ?_
  refine wl_u rfl (ow_y (yh_field Tb rfl rfl rfl) rfl rfl (kk_wl ?_))
  refine wl_u rfl (ow_y (yh_loadB Tb (k := 1) rfl rfl rfl rfl rfl) rfl rfl (kk_wl ?_))
  refine wl_u rfl (ow_y (yh_field Tb rfl rfl rfl) rfl rfl (kk_wl ?_))
  refine wl_u rfl (ow_y (yh_loadB Tb (k := 0) rfl rfl rfl rfl rfl) rfl rfl (kk_wl ?_))
  refine wl_u rfl (ow_y (yh_cmpS rfl rfl rfl rfl) rfl rfl (kk_wl ?_))
  refine wl_u rfl (ow_y (yh_move rfl rfl) rfl rfl (kk_wl ?_))
  refine wl_s rfl rfl (fun c1 => ?_) (fun c1 => ?_)
  · skip
    replace h := bt c1 h
    refine wl_g rfl rfl (ow_y (yh_field Tb rfl rfl rfl) rfl rfl (kk_wl ?_))
    refine wl_g rfl rfl (ow_y (yh_loadB Tb (k := 1) rfl rfl rfl rfl rfl) rfl rfl (kk_wl ?_))
    refine wl_g rfl rfl (ow_y (yh_field Tb rfl rfl rfl) rfl rfl (kk_wl ?_))
    refine wl_g rfl rfl (ow_y (yh_loadB Tb (k := 0) rfl rfl rfl rfl rfl) rfl rfl (kk_wl ?_))
    refine wl_g rfl rfl (ow_y (yh_cmpB rfl rfl rfl rfl (by kernel_rfl)) rfl rfl (kk_wl ?_))
    refine wl_u rfl (ow_y (yh_pickT rfl rfl rfl) rfl rfl (kk_wl ?_))
    refine wl_u rfl (ow_y (yh_move rfl rfl) rfl rfl (kk_wl ?_))
    refine wl_s rfl rfl (fun c2 => ?_) (fun c2 => ?_)
    · skip
      replace h := bt c2 h
      refine wl_g rfl rfl (ow_y (yh_field Tb rfl rfl rfl) rfl rfl (kk_wl ?_))
      refine wl_g rfl rfl (ow_y (yh_loadB Tb (k := 1) rfl rfl rfl rfl rfl) rfl rfl (kk_wl ?_))
      refine wl_g rfl rfl (ow_y (yh_field Tb rfl rfl rfl) rfl rfl (kk_wl ?_))
      refine wl_g rfl rfl (ow_y (yh_loadB Tb (k := 0) rfl rfl rfl rfl rfl) rfl rfl (kk_wl ?_))
      obtain ⟨x22, hx22, h⟩ := bd h
      refine wl_g rfl rfl (ow_cV rfl hb50 rfl (fun w hw => c_laws_sameTexts N _ _ _ hx22 w (Lay.at_ h_a_after hw) (Lay.at_ h_b_after hw)) rfl rfl (kk_wl ?_))
      refine wl_u rfl (ow_y (yh_pickT rfl rfl rfl) rfl rfl (kk_wl ?_))
      refine wl_u rfl (ow_y (yh_assign rfl rfl) rfl rfl (kk_wl ?_))
      refine wl_nil ?_
      refine ex_seq ?_
      refine cw_ret ?_
      obtain rfl := Option.some.inj h
      exact ex_r1 Tb rfl (.tmp rfl) (fun wq hq => ⟨_, rfl, hq.ext, rfl⟩)
    · skip
      replace h := bf c2 h
      refine wl_n rfl rfl rfl rfl ?_
      refine wl_n rfl rfl rfl rfl ?_
      refine wl_n rfl rfl rfl rfl ?_
      refine wl_n rfl rfl rfl rfl ?_
      refine wl_n rfl rfl rfl rfl ?_
      refine wl_u rfl (ow_y (yh_pickF rfl rfl rfl) rfl rfl (kk_wl ?_))
      refine wl_u rfl (ow_y (yh_assign rfl rfl) rfl rfl (kk_wl ?_))
      refine wl_nil ?_
      refine ex_seq ?_
      refine cw_ret ?_
      obtain rfl := Option.some.inj h
      exact ex_r1 Tb rfl (.tmp rfl) (fun wq hq => ⟨_, rfl, hq.ext, rfl⟩)
  · skip
    replace h := bf c1 h
    refine wl_n rfl rfl rfl rfl ?_
    refine wl_n rfl rfl rfl rfl ?_
    refine wl_n rfl rfl rfl rfl ?_
    refine wl_n rfl rfl rfl rfl ?_
    refine wl_n rfl rfl rfl rfl ?_
    refine wl_u rfl (ow_y (yh_pickF rfl rfl rfl) rfl rfl (kk_wl ?_))
    refine wl_u rfl (ow_y (yh_move rfl rfl) rfl rfl (kk_wl ?_))
    refine wl_s rfl rfl nofun (fun _ => ?_)
    refine wl_n rfl rfl rfl rfl ?_
    refine wl_n rfl rfl rfl rfl ?_
    refine wl_n rfl rfl rfl rfl ?_
    refine wl_n rfl rfl rfl rfl ?_
    refine wl_n rfl rfl rfl rfl ?_
    refine wl_u rfl (ow_y (yh_pickF rfl rfl rfl) rfl rfl (kk_wl ?_))
    refine wl_u rfl (ow_y (yh_assign rfl rfl) rfl rfl (kk_wl ?_))
    refine wl_nil ?_
    refine ex_seq ?_
    refine cw_ret ?_
    obtain rfl := Option.some.inj h
    exact ex_r1 Tb rfl (.tmp rfl) (fun wq hq => ⟨_, rfl, hq.ext, rfl⟩)

def m_laws_sameSteps_L8 (N : Nat) (a : List Step) (b : List Step) : Nat → Nat → Option (Ex (Nat) (Bool))
  | 0, _ => none
  | n + 1, s5 => (bif ltb ((s5 : Nat) : Int) ((a.length : Nat) : Int) then (a[s5]?).bind fun y19 => (b[s5]?).bind fun y23 => (m_laws_sameStep N y19 y23).bind fun x25 => (bif !x25 then some (Ex.ret false)
 else m_laws_sameSteps_L8 N a b n (s5 + 1))
 else some (Ex.brk (s5)))

def m_laws_sameSteps (N : Nat) (a : List Step) (b : List Step) : Option (Bool) := (bif !(eqb ((a.length : Nat) : Int) ((b.length : Nat) : Int)) then some false
 else (m_laws_sameSteps_L8 N a b N 0).bind fun e8 => e8.go (fun r => r) fun b8 => some true)

set_option maxHeartbeats 4000000 in
theorem c_laws_sameSteps (N : Nat) (a : List Step) (b : List Step) (res : Bool) (h : m_laws_sameSteps N a b = some res) (w : World) {a_a a_b : Option Addr} {c_a c_b : Nat} (h_a : stepsL.rd w [] [.slice a_a a.length c_a] a) (h_b : stepsL.rd w [] [.slice a_b b.length c_b] b) : Ret Try.prog 76 [.slice a_a a.length c_a, .slice a_b b.length c_b] w [] fun v w' => v = .bool res := by
  have mh_a := rd_max h_a
  have mh_b := rd_max h_b
  unfold m_laws_sameSteps at h
  refine ret_enter Try.func76 rfl Try.ntmps76 rfl (Hp.refl w _) ?_
  refine cw_seq ?_
  refine cw_region ?_
  refine wl_u rfl (ow_y (yh_assign rfl rfl) rfl rfl (kk_wl ?_))
  refine wl_nil ?_
  refine ex_seq ?_
  refine cw_seq ?_
  refine cw_seq ?_
  refine cw_region ?_
  refine wl_u rfl (ow_y (yh_move rfl rfl) rfl rfl (kk_wl ?_))
  refine wl_u rfl (ow_y (yh_lenS Tb rfl rfl rfl rfl) rfl rfl (kk_wl ?_))
  refine wl_u rfl (ow_y (yh_move rfl rfl) rfl rfl (kk_wl ?_))
  refine wl_u rfl (ow_y (yh_lenS Tb rfl rfl rfl rfl) rfl rfl (kk_wl ?_))
  refine wl_u rfl (ow_y (yh_cmpI rfl rfl rfl rfl) rfl rfl (kk_wl ?_))
  refine wl_nil ?_
  refine ex_seq ?_
  refine cw_split rfl (fun c1 => ?_) (fun c1 => ?_)
  · skip
    replace h := bt c1 h
    have q1 := eqb_false.1 (nt c1)
    refine cw_seq ?_
    refine cw_region ?_
    refine wl_u rfl (ow_y (yh_assign rfl rfl) rfl rfl (kk_wl ?_))
    refine wl_nil ?_
    refine ex_seq ?_
    refine cw_ret ?_
    refine ex_then_ret ?_
    obtain rfl := Option.some.inj h
    exact ex_r1 Tb rfl (.tmp rfl) (fun wq hq => ⟨_, rfl, hq.ext, rfl⟩)
  · skip
    replace h := bf c1 h
    have q2 := eqb_true.1 (nf c1)
    refine cw_skip ?_
    refine ex_seq ?_
    refine cw_seq ?_
    refine cw_seq ?_
    refine cw_region ?_
    refine wl_u rfl (ow_y (yh_assign rfl rfl) rfl rfl (kk_wl ?_))
    refine wl_nil ?_
    refine ex_seq ?_
    refine cw_block ?_
    obtain ⟨e8, he8, hk8⟩ := bd h
    clear h
    refine cw_loopG (σ := Nat × Nat) (fun s => m_laws_sameSteps_L8 N a b s.1 s.2 = some e8) (fun s => [(0, .slice a_a a.length c_a), (1, .slice a_b b.length c_b), (5, .int .i64 ((s.2 : Nat) : Int))]) (fun s => []) (fun s => s.1) (N, 0) [] he8 ⟨rfl, rfl, rfl, trivial⟩ rfl (fun KL s he8 hn8 => ?_)
    obtain ⟨n8, s5⟩ := s
    simp only at he8 hn8 ⊢
    rcases n8 with _ | n8
    · exact nosome he8
    have h := he8; rw [m_laws_sameSteps_L8] at h
    refine cw_seq ?_
    refine cw_seq ?_
    refine cw_region ?_
    refine wl_u rfl (ow_y (yh_move rfl rfl) rfl rfl (kk_wl ?_))
    refine wl_u rfl (ow_y (yh_move rfl rfl) rfl rfl (kk_wl ?_))
    refine wl_u rfl (ow_y (yh_lenS Tb rfl rfl rfl rfl) rfl rfl (kk_wl ?_))
    refine wl_u rfl (ow_y (yh_cmpI rfl rfl rfl rfl) rfl rfl (kk_wl ?_))
    refine wl_nil ?_
    refine ex_seq ?_
    refine cw_split rfl (fun c2 => ?_) (fun c2 => ?_)
    · skip
      replace h := bt c2 h
      have q3 := ltb_true.1 c2
      refine cw_skip ?_
      refine ex_seq ?_
      refine cw_seq ?_
      refine cw_block ?_
      refine cw_seq ?_
      refine cw_dr [0, 1, 2, 3, 4, 5, 6, 7, 9] [] [] (by kernel_rfl) ?_
      refine wd_take (i := 0) [] rfl rfl rfl rfl rfl (by kernel_rfl) (by kernel_rfl) (fun _ _ _ _ h => h) (yh_move rfl rfl) ?_
      refine wd_take (i := 1) [] rfl rfl rfl rfl rfl (by kernel_rfl) (by kernel_rfl) (fun _ _ _ _ h => h) (yh_move rfl rfl) ?_
      obtain ⟨y19, hy19, h⟩ := bd h
      obtain ⟨b19, o19, ha19⟩ := sl_addr h_a hy19
      subst ha19
      obtain ⟨a19, e19, hc19, hf19⟩ := get_step h_a hy19
      have mx19 := rd_max hf19
      refine wd_take (i := 2) [] rfl rfl rfl rfl rfl (by kernel_rfl) (by kernel_rfl) (fun _ _ _ _ h => h) (yh_idx Tb (k := s5) rfl rfl rfl rfl (get_lt hy19) rfl rfl) ?_
      refine wd_take (i := 3) [] rfl rfl rfl rfl rfl (by kernel_rfl) (by kernel_rfl) (fun _ _ _ _ h => h) (yh_loadAN Tb rfl rfl rfl rfl hc19 rfl) ?_
      refine wd_take (i := 4) [] rfl rfl rfl rfl rfl (by kernel_rfl) (by kernel_rfl) (fun _ _ _ _ h => h) (yh_move rfl rfl) ?_
      refine wd_take (i := 5) [] rfl rfl rfl rfl rfl (by kernel_rfl) (by kernel_rfl) (fun _ _ _ _ h => h) (yh_move rfl rfl) ?_
      obtain ⟨y23, hy23, h⟩ := bd h
      obtain ⟨b23, o23, ha23⟩ := sl_addr h_b hy23
      subst ha23
      obtain ⟨a23, e23, hc23, hf23⟩ := get_step h_b hy23
      have mx23 := rd_max hf23
      refine wd_take (i := 6) [] rfl rfl rfl rfl rfl (by kernel_rfl) (by kernel_rfl) (fun _ _ _ _ h => h) (yh_idx Tb (k := s5) rfl rfl rfl rfl (get_lt hy23) rfl rfl) ?_
      refine wd_take (i := 7) [] rfl rfl rfl rfl rfl (by kernel_rfl) (by kernel_rfl) (fun _ _ _ _ h => h) (yh_loadAN Tb rfl rfl rfl rfl hc23 rfl) ?_
      obtain ⟨x25, hx25, h⟩ := bd h
      refine wd_one 8 rfl rfl (by kernel_rfl) (ow_cV rfl hb115 rfl (fun w hw => c_laws_sameStep N _ _ _ hx25 w (Lay.at_ hf19 hw) (Lay.at_ hf23 hw)) rfl rfl (kk_wd [] (by kernel_rfl) ?_))
      refine wd_take (i := 9) [] rfl rfl rfl rfl rfl (by kernel_rfl) (by kernel_rfl) (fun _ _ _ _ h => h) (yh_not rfl rfl) ?_
      refine wd_done (by kernel_rfl) ?_
      refine ex_seq ?_
      refine cw_split rfl (fun c3 => ?_) (fun c3 => ?_)
      · skip
        replace h := bt c3 h
        refine cw_seq ?_
        refine cw_region ?_
        refine wl_u rfl (ow_y (yh_assign rfl rfl) rfl rfl (kk_wl ?_))
        refine wl_nil ?_
        refine ex_seq ?_
        refine cw_ret ?_
        refine ex_block_ret ?_
        refine ex_then_ret ?_
        refine ex_then_ret ?_
        refine ex_block_ret ?_
        refine ex_then_ret ?_
        obtain rfl := Option.some.inj h
        obtain rfl := go_ret hk8
        exact ex_r1 Tb rfl (.tmp rfl) (fun wq hq => ⟨_, rfl, hq.ext, rfl⟩)
      · skip
        replace h := bf c3 h
        refine cw_skip ?_
        refine ex_block_normal ?_
        refine ex_seq ?_
        refine cw_region ?_
        refine wl_u rfl (ow_y (yh_move rfl rfl) rfl rfl (kk_wl ?_))
        refine wl_u rfl (ow_y (yh_arI rfl rfl rfl rfl (by omega)) rfl rfl (kk_wl ?_))
        refine wl_u rfl (ow_y (yh_assign rfl rfl) rfl rfl (kk_wl ?_))
        refine wl_nil ?_
        exact ex_next [] (hn8 (n8, s5 + 1) (Nat.lt_succ_self _) h) ⟨rfl, rfl, rfl, trivial⟩ (by kernel_rfl)
    · skip
      replace h := bf c2 h
      have q4 := ltb_false.1 c2
      refine cw_exit ?_
      refine ex_then_exit ?_
      refine ex_then_exit ?_
      obtain rfl := Option.some.inj h
      have h := go_brk hk8
      refine ex_block_exit ?_
      refine ex_seq ?_
      refine cw_seq ?_
      refine cw_region ?_
      refine wl_u rfl (ow_y (yh_assign rfl rfl) rfl rfl (kk_wl ?_))
      refine wl_nil ?_
      refine ex_seq ?_
      refine cw_ret ?_
      obtain rfl := Option.some.inj h
      exact ex_r1 Tb rfl (.tmp rfl) (fun wq hq => ⟨_, rfl, hq.ext, rfl⟩)

def m_laws_sameFlow (N : Nat) (a : Flow) (b : Flow) : Option (Bool) := (bif eqb a.ver b.ver then (m_laws_sameSteps N a.steps b.steps).bind fun x15 => some x15
 else some false)

set_option maxHeartbeats 4000000 in
theorem c_laws_sameFlow (N : Nat) (a : Flow) (b : Flow) (res : Bool) (h : m_laws_sameFlow N a b = some res) (w : World) {a_a_steps a_b_steps : Option Addr} {c_a_steps c_b_steps : Nat} (h_a_steps : stepsL.rd w [] [.slice a_a_steps a.steps.length c_a_steps] a.steps) (h_b_steps : stepsL.rd w [] [.slice a_b_steps b.steps.length c_b_steps] b.steps) : Ret Try.prog 25 [.agg #[.int .i64 a.ver, .slice a_a_steps a.steps.length c_a_steps], .agg #[.int .i64 b.ver, .slice a_b_steps b.steps.length c_b_steps]] w [] fun v w' => v = .bool res := by
  have mh_a_steps := rd_max h_a_steps
  have mh_b_steps := rd_max h_b_steps
  unfold m_laws_sameFlow at h
  refine ret_enter Try.func25 rfl Try.ntmps25 rfl (Hp.refl w _) ?_
  refine cw_seq ?_
  refine cw_region ?_
  refine wl_u rfl (ow_boxA rfl rfl rfl rfl (fun g2 => kk_wl ?_))
  refine wl_u rfl (ow_boxA rfl rfl rfl rfl (fun g3 => kk_wl ?_))
  refine wl_u rfl (ow_y (yh_assign rfl rfl) rfl rfl (kk_wl ?_))
  refine wl_nil ?_
  refine ex_seq ?_
  refine cw_seq ?_
  refine cw_region ?_
  refine wl_u rfl (ow_y (yh_field Tb rfl rfl rfl) rfl rfl (kk_wl ?_))
  refine wl_u rfl (ow_y (yh_loadB Tb (k := 1) rfl rfl rfl rfl rfl) rfl rfl (kk_wl ?_))
  refine wl_u rfl (ow_y (yh_field Tb rfl rfl rfl) rfl rfl (kk_wl ?_))
  refine wl_u rfl (ow_y (yh_loadB Tb (k := 0) rfl rfl rfl rfl rfl) rfl rfl (kk_wl ?_))
  refine wl_u rfl (ow_y (yh_cmpI rfl rfl rfl rfl) rfl rfl (kk_wl ?_))
  refine wl_u rfl (ow_y (yh_move rfl rfl) rfl rfl (kk_wl ?_))
  refine wl_s rfl rfl (fun c1 => ?_) (fun c1 => ?_)
  · skip
    replace h := bt c1 h
    have q1 := eqb_true.1 c1
    refine wl_g rfl rfl (ow_y (yh_field Tb rfl rfl rfl) rfl rfl (kk_wl ?_))
    refine wl_g rfl rfl (ow_y (yh_loadB Tb (k := 1) rfl rfl rfl rfl rfl) rfl rfl (kk_wl ?_))
    refine wl_g rfl rfl (ow_y (yh_field Tb rfl rfl rfl) rfl rfl (kk_wl ?_))
    refine wl_g rfl rfl (ow_y (yh_loadB Tb (k := 0) rfl rfl rfl rfl rfl) rfl rfl (kk_wl ?_))
    obtain ⟨x15, hx15, h⟩ := bd h
    refine wl_g rfl rfl (ow_cV rfl hb76 rfl (fun w hw => c_laws_sameSteps N _ _ _ hx15 w (Lay.at_ h_a_steps hw) (Lay.at_ h_b_steps hw)) rfl rfl (kk_wl ?_))
    refine wl_u rfl (ow_y (yh_pickT rfl rfl rfl) rfl rfl (kk_wl ?_))
    refine wl_u rfl (ow_y (yh_assign rfl rfl) rfl rfl (kk_wl ?_))
    refine wl_nil ?_
    refine ex_seq ?_
    refine cw_ret ?_
    obtain rfl := Option.some.inj h
    exact ex_r1 Tb rfl (.tmp rfl) (fun wq hq => ⟨_, rfl, hq.ext, rfl⟩)
  · skip
    replace h := bf c1 h
    have q2 := eqb_false.1 c1
    refine wl_n rfl rfl rfl rfl ?_
    refine wl_n rfl rfl rfl rfl ?_
    refine wl_n rfl rfl rfl rfl ?_
    refine wl_n rfl rfl rfl rfl ?_
    refine wl_n rfl rfl rfl rfl ?_
    refine wl_u rfl (ow_y (yh_pickF rfl rfl rfl) rfl rfl (kk_wl ?_))
    refine wl_u rfl (ow_y (yh_assign rfl rfl) rfl rfl (kk_wl ?_))
    refine wl_nil ?_
    refine ex_seq ?_
    refine cw_ret ?_
    obtain rfl := Option.some.inj h
    exact ex_r1 Tb rfl (.tmp rfl) (fun wq hq => ⟨_, rfl, hq.ext, rfl⟩)

def m_laws_sameFlows_L8 (N : Nat) (a : List Flow) (b : List Flow) : Nat → Nat → Option (Ex (Nat) (Bool))
  | 0, _ => none
  | n + 1, s5 => (bif ltb ((s5 : Nat) : Int) ((a.length : Nat) : Int) then (a[s5]?).bind fun y19 => (b[s5]?).bind fun y23 => (m_laws_sameFlow N y19 y23).bind fun x25 => (bif !x25 then some (Ex.ret false)
 else m_laws_sameFlows_L8 N a b n (s5 + 1))
 else some (Ex.brk (s5)))

def m_laws_sameFlows (N : Nat) (a : List Flow) (b : List Flow) : Option (Bool) := (bif !(eqb ((a.length : Nat) : Int) ((b.length : Nat) : Int)) then some false
 else (m_laws_sameFlows_L8 N a b N 0).bind fun e8 => e8.go (fun r => r) fun b8 => some true)

set_option maxHeartbeats 4000000 in
theorem c_laws_sameFlows (N : Nat) (a : List Flow) (b : List Flow) (res : Bool) (h : m_laws_sameFlows N a b = some res) (w : World) {a_a a_b : Option Addr} {c_a c_b : Nat} (h_a : flowsL.rd w [] [.slice a_a a.length c_a] a) (h_b : flowsL.rd w [] [.slice a_b b.length c_b] b) : Ret Try.prog 18 [.slice a_a a.length c_a, .slice a_b b.length c_b] w [] fun v w' => v = .bool res := by
  have mh_a := rd_max h_a
  have mh_b := rd_max h_b
  unfold m_laws_sameFlows at h
  refine ret_enter Try.func18 rfl Try.ntmps18 rfl (Hp.refl w _) ?_
  refine cw_seq ?_
  refine cw_region ?_
  refine wl_u rfl (ow_y (yh_assign rfl rfl) rfl rfl (kk_wl ?_))
  refine wl_nil ?_
  refine ex_seq ?_
  refine cw_seq ?_
  refine cw_seq ?_
  refine cw_region ?_
  refine wl_u rfl (ow_y (yh_move rfl rfl) rfl rfl (kk_wl ?_))
  refine wl_u rfl (ow_y (yh_lenS Tb rfl rfl rfl rfl) rfl rfl (kk_wl ?_))
  refine wl_u rfl (ow_y (yh_move rfl rfl) rfl rfl (kk_wl ?_))
  refine wl_u rfl (ow_y (yh_lenS Tb rfl rfl rfl rfl) rfl rfl (kk_wl ?_))
  refine wl_u rfl (ow_y (yh_cmpI rfl rfl rfl rfl) rfl rfl (kk_wl ?_))
  refine wl_nil ?_
  refine ex_seq ?_
  refine cw_split rfl (fun c1 => ?_) (fun c1 => ?_)
  · skip
    replace h := bt c1 h
    have q1 := eqb_false.1 (nt c1)
    refine cw_seq ?_
    refine cw_region ?_
    refine wl_u rfl (ow_y (yh_assign rfl rfl) rfl rfl (kk_wl ?_))
    refine wl_nil ?_
    refine ex_seq ?_
    refine cw_ret ?_
    refine ex_then_ret ?_
    obtain rfl := Option.some.inj h
    exact ex_r1 Tb rfl (.tmp rfl) (fun wq hq => ⟨_, rfl, hq.ext, rfl⟩)
  · skip
    replace h := bf c1 h
    have q2 := eqb_true.1 (nf c1)
    refine cw_skip ?_
    refine ex_seq ?_
    refine cw_seq ?_
    refine cw_seq ?_
    refine cw_region ?_
    refine wl_u rfl (ow_y (yh_assign rfl rfl) rfl rfl (kk_wl ?_))
    refine wl_nil ?_
    refine ex_seq ?_
    refine cw_block ?_
    obtain ⟨e8, he8, hk8⟩ := bd h
    clear h
    refine cw_loopG (σ := Nat × Nat) (fun s => m_laws_sameFlows_L8 N a b s.1 s.2 = some e8) (fun s => [(0, .slice a_a a.length c_a), (1, .slice a_b b.length c_b), (5, .int .i64 ((s.2 : Nat) : Int))]) (fun s => []) (fun s => s.1) (N, 0) [] he8 ⟨rfl, rfl, rfl, trivial⟩ rfl (fun KL s he8 hn8 => ?_)
    obtain ⟨n8, s5⟩ := s
    simp only at he8 hn8 ⊢
    rcases n8 with _ | n8
    · exact nosome he8
    have h := he8; rw [m_laws_sameFlows_L8] at h
    refine cw_seq ?_
    refine cw_seq ?_
    refine cw_region ?_
    refine wl_u rfl (ow_y (yh_move rfl rfl) rfl rfl (kk_wl ?_))
    refine wl_u rfl (ow_y (yh_move rfl rfl) rfl rfl (kk_wl ?_))
    refine wl_u rfl (ow_y (yh_lenS Tb rfl rfl rfl rfl) rfl rfl (kk_wl ?_))
    refine wl_u rfl (ow_y (yh_cmpI rfl rfl rfl rfl) rfl rfl (kk_wl ?_))
    refine wl_nil ?_
    refine ex_seq ?_
    refine cw_split rfl (fun c2 => ?_) (fun c2 => ?_)
    · skip
      replace h := bt c2 h
      have q3 := ltb_true.1 c2
      refine cw_skip ?_
      refine ex_seq ?_
      refine cw_seq ?_
      refine cw_block ?_
      refine cw_seq ?_
      refine cw_dr [0, 1, 2, 3, 4, 5, 6, 7, 9] [] [] (by kernel_rfl) ?_
      refine wd_take (i := 0) [] rfl rfl rfl rfl rfl (by kernel_rfl) (by kernel_rfl) (fun _ _ _ _ h => h) (yh_move rfl rfl) ?_
      refine wd_take (i := 1) [] rfl rfl rfl rfl rfl (by kernel_rfl) (by kernel_rfl) (fun _ _ _ _ h => h) (yh_move rfl rfl) ?_
      obtain ⟨y19, hy19, h⟩ := bd h
      obtain ⟨b19, o19, ha19⟩ := sl_addr h_a hy19
      subst ha19
      obtain ⟨a19, e19, hc19, hf19⟩ := get_flow h_a hy19
      have mx19 := rd_max hf19
      refine wd_take (i := 2) [] rfl rfl rfl rfl rfl (by kernel_rfl) (by kernel_rfl) (fun _ _ _ _ h => h) (yh_idx Tb (k := s5) rfl rfl rfl rfl (get_lt hy19) rfl rfl) ?_
      refine wd_take (i := 3) [] rfl rfl rfl rfl rfl (by kernel_rfl) (by kernel_rfl) (fun _ _ _ _ h => h) (yh_loadAN Tb rfl rfl rfl rfl hc19 rfl) ?_
      refine wd_take (i := 4) [] rfl rfl rfl rfl rfl (by kernel_rfl) (by kernel_rfl) (fun _ _ _ _ h => h) (yh_move rfl rfl) ?_
      refine wd_take (i := 5) [] rfl rfl rfl rfl rfl (by kernel_rfl) (by kernel_rfl) (fun _ _ _ _ h => h) (yh_move rfl rfl) ?_
      obtain ⟨y23, hy23, h⟩ := bd h
      obtain ⟨b23, o23, ha23⟩ := sl_addr h_b hy23
      subst ha23
      obtain ⟨a23, e23, hc23, hf23⟩ := get_flow h_b hy23
      have mx23 := rd_max hf23
      refine wd_take (i := 6) [] rfl rfl rfl rfl rfl (by kernel_rfl) (by kernel_rfl) (fun _ _ _ _ h => h) (yh_idx Tb (k := s5) rfl rfl rfl rfl (get_lt hy23) rfl rfl) ?_
      refine wd_take (i := 7) [] rfl rfl rfl rfl rfl (by kernel_rfl) (by kernel_rfl) (fun _ _ _ _ h => h) (yh_loadAN Tb rfl rfl rfl rfl hc23 rfl) ?_
      obtain ⟨x25, hx25, h⟩ := bd h
      refine wd_one 8 rfl rfl (by kernel_rfl) (ow_cV rfl hb25 rfl (fun w hw => c_laws_sameFlow N _ _ _ hx25 w (Lay.at_ hf19 hw) (Lay.at_ hf23 hw)) rfl rfl (kk_wd [] (by kernel_rfl) ?_))
      refine wd_take (i := 9) [] rfl rfl rfl rfl rfl (by kernel_rfl) (by kernel_rfl) (fun _ _ _ _ h => h) (yh_not rfl rfl) ?_
      refine wd_done (by kernel_rfl) ?_
      refine ex_seq ?_
      refine cw_split rfl (fun c3 => ?_) (fun c3 => ?_)
      · skip
        replace h := bt c3 h
        refine cw_seq ?_
        refine cw_region ?_
        refine wl_u rfl (ow_y (yh_assign rfl rfl) rfl rfl (kk_wl ?_))
        refine wl_nil ?_
        refine ex_seq ?_
        refine cw_ret ?_
        refine ex_block_ret ?_
        refine ex_then_ret ?_
        refine ex_then_ret ?_
        refine ex_block_ret ?_
        refine ex_then_ret ?_
        obtain rfl := Option.some.inj h
        obtain rfl := go_ret hk8
        exact ex_r1 Tb rfl (.tmp rfl) (fun wq hq => ⟨_, rfl, hq.ext, rfl⟩)
      · skip
        replace h := bf c3 h
        refine cw_skip ?_
        refine ex_block_normal ?_
        refine ex_seq ?_
        refine cw_region ?_
        refine wl_u rfl (ow_y (yh_move rfl rfl) rfl rfl (kk_wl ?_))
        refine wl_u rfl (ow_y (yh_arI rfl rfl rfl rfl (by omega)) rfl rfl (kk_wl ?_))
        refine wl_u rfl (ow_y (yh_assign rfl rfl) rfl rfl (kk_wl ?_))
        refine wl_nil ?_
        exact ex_next [] (hn8 (n8, s5 + 1) (Nat.lt_succ_self _) h) ⟨rfl, rfl, rfl, trivial⟩ (by kernel_rfl)
    · skip
      replace h := bf c2 h
      have q4 := ltb_false.1 c2
      refine cw_exit ?_
      refine ex_then_exit ?_
      refine ex_then_exit ?_
      obtain rfl := Option.some.inj h
      have h := go_brk hk8
      refine ex_block_exit ?_
      refine ex_seq ?_
      refine cw_seq ?_
      refine cw_region ?_
      refine wl_u rfl (ow_y (yh_assign rfl rfl) rfl rfl (kk_wl ?_))
      refine wl_nil ?_
      refine ex_seq ?_
      refine cw_ret ?_
      obtain rfl := Option.some.inj h
      exact ex_r1 Tb rfl (.tmp rfl) (fun wq hq => ⟨_, rfl, hq.ext, rfl⟩)

def m_impl_RegistryFind (N : Nat) (list_ : List Flow) (version : Int) : Option (Flow × Bool) := (m_impl_RegistryValid N list_).bind fun x7 => (bif !x7 then some ((Flow.mk 0 []), false)
 else (m_impl_versionAt N list_ version).bind fun x12 => (bif ltb x12 0 then some ((Flow.mk 0 []), false)
 else (m_impl_versionAt N list_ version).bind fun x19 => (geti list_ x19).bind fun y20 => (m_impl_Flow_clone N y20).bind fun x22 => some (x22, true)))

set_option maxHeartbeats 4000000 in
theorem c_impl_RegistryFind (N : Nat) (list_ : List Flow) (version : Int) (res : Flow × Bool) (h : m_impl_RegistryFind N list_ version = some res) (w : World) {a_list_ : Option Addr} {c_list_ : Nat} (h_list_ : flowsL.rd w [] [.slice a_list_ list_.length c_list_] list_) : Ret Try.prog 24 [.slice a_list_ list_.length c_list_, .int .i64 version] w [] fun v w' => ∃ a1 c1 F1, v = .tuple #[.agg #[.int .i64 res.1.ver, .slice a1 res.1.steps.length c1], .bool res.2] ∧ NewC w w' [owC stepsL F1 [.slice a1 res.1.steps.length c1] res.1.steps] := by
  have mh_list_ := rd_max h_list_
  unfold m_impl_RegistryFind at h
  refine ret_enter Try.func24 rfl Try.ntmps24 rfl (Hp.refl w _) ?_
  refine cw_seq ?_
  refine cw_region ?_
  refine wl_u rfl (ow_allocA Tb rfl rfl rfl rfl (fun g4 => kk_wl ?_))
  refine wl_u rfl (ow_y (yh_assign rfl rfl) rfl rfl (kk_wl ?_))
  refine wl_nil ?_
  refine ex_seq ?_
  refine cw_seq ?_
  refine cw_seq ?_
  refine cw_region ?_
  refine wl_u rfl (ow_y (yh_move rfl rfl) rfl rfl (kk_wl ?_))
  obtain ⟨x7, hx7, h⟩ := bd h
  refine wl_u rfl (ow_cV rfl hb19 rfl (fun w hw => c_impl_RegistryValid N _ _ hx7 w (Lay.at_ h_list_ hw)) rfl rfl (kk_wl ?_))
  refine wl_u rfl (ow_y (yh_not rfl rfl) rfl rfl (kk_wl ?_))
  refine wl_u rfl (ow_y (yh_move rfl rfl) rfl rfl (kk_wl ?_))
  refine wl_s rfl rfl (fun c1 => ?_) (fun c1 => ?_)
  · skip
    replace h := bt c1 h
    refine wl_n rfl rfl rfl rfl ?_
    refine wl_n rfl rfl rfl rfl ?_
    refine wl_n rfl rfl rfl rfl ?_
    refine wl_n rfl rfl rfl rfl ?_
    refine wl_u rfl (ow_y (yh_pickT rfl rfl rfl) rfl rfl (kk_wl ?_))
    refine wl_nil ?_
    refine ex_seq ?_
    refine cw_true rfl ?_
    refine cw_seq ?_
    refine cw_region ?_
    refine wl_u rfl (ow_y (yh_build [.int .i64 0, .slice none 0 0] rfl rfl (by kernel_rfl)) rfl rfl (kk_wl ?_))
    refine wl_u rfl (ow_storeA Tb (k := 0) rfl rfl rfl rfl rfl rfl rfl rfl rfl (kk_wl ?_))
    refine wl_u rfl (ow_y (yh_assign rfl rfl) rfl rfl (kk_wl ?_))
    refine wl_nil ?_
    refine ex_seq ?_
    refine cw_ret ?_
    refine ex_then_ret ?_
    refine ex_nilS stepsL rfl ?_
    obtain rfl := Option.some.inj h
    exact ex_r2 Tb rfl (.cellA 1 rfl rfl rfl rfl rfl) (.tmp rfl) (fun wq hq => ⟨_, rfl, hq.ext, ⟨none, 0, [], rfl, NewC.sel [0] hq rfl⟩⟩)
  · skip
    replace h := bf c1 h
    refine wl_g rfl rfl (ow_y (yh_move rfl rfl) rfl rfl (kk_wl ?_))
    refine wl_g rfl rfl (ow_y (yh_move rfl rfl) rfl rfl (kk_wl ?_))
    obtain ⟨x12, hx12, h⟩ := bd h
    refine wl_g rfl rfl (ow_cV rfl hb72 rfl (fun w hw => c_impl_versionAt N _ _ _ hx12 w (Lay.at_ h_list_ hw)) rfl rfl (kk_wl ?_))
    refine wl_g rfl rfl (ow_y (yh_cmpI rfl rfl rfl rfl) rfl rfl (kk_wl ?_))
    refine wl_u rfl (ow_y (yh_pickF rfl rfl rfl) rfl rfl (kk_wl ?_))
    refine wl_nil ?_
    refine ex_seq ?_
    refine cw_split rfl (fun c2 => ?_) (fun c2 => ?_)
    · skip
      replace h := bt c2 h
      have q1 := ltb_true.1 c2
      refine cw_seq ?_
      refine cw_region ?_
      refine wl_u rfl (ow_y (yh_build [.int .i64 0, .slice none 0 0] rfl rfl (by kernel_rfl)) rfl rfl (kk_wl ?_))
      refine wl_u rfl (ow_storeA Tb (k := 0) rfl rfl rfl rfl rfl rfl rfl rfl rfl (kk_wl ?_))
      refine wl_u rfl (ow_y (yh_assign rfl rfl) rfl rfl (kk_wl ?_))
      refine wl_nil ?_
      refine ex_seq ?_
      refine cw_ret ?_
      refine ex_then_ret ?_
      refine ex_nilS stepsL rfl ?_
      obtain rfl := Option.some.inj h
      exact ex_r2 Tb rfl (.cellA 1 rfl rfl rfl rfl rfl) (.tmp rfl) (fun wq hq => ⟨_, rfl, hq.ext, ⟨none, 0, [], rfl, NewC.sel [0] hq rfl⟩⟩)
    · skip
      replace h := bf c2 h
      have q2 := ltb_false.1 c2
      refine cw_skip ?_
      refine ex_seq ?_
      refine cw_seq ?_
      refine cw_region ?_
      refine wl_u rfl (ow_y (yh_move rfl rfl) rfl rfl (kk_wl ?_))
      refine wl_u rfl (ow_y (yh_move rfl rfl) rfl rfl (kk_wl ?_))
      refine wl_u rfl (ow_y (yh_move rfl rfl) rfl rfl (kk_wl ?_))
      obtain ⟨x19, hx19, h⟩ := bd h
      refine wl_u rfl (ow_cV rfl hb72 rfl (fun w hw => c_impl_versionAt N _ _ _ hx19 w (Lay.at_ h_list_ hw)) rfl rfl (kk_wl ?_))
      obtain ⟨y20, zy20, h⟩ := bd h
      obtain ⟨iy20, hy20⟩ := geti_some zy20
      obtain ⟨b20, o20, ha20⟩ := sl_addr h_list_ hy20
      subst ha20
      obtain ⟨a20, e20, hc20, hf20⟩ := get_flow h_list_ hy20
      have mx20 := rd_max hf20
      refine wl_u rfl (ow_y (yh_idx Tb (k := x19.toNat) rfl rfl rfl iy20 (get_lt hy20) rfl rfl) rfl rfl (kk_wl ?_))
      refine wl_u rfl (ow_y (yh_loadAN Tb rfl rfl rfl rfl hc20 rfl) rfl rfl (kk_wl ?_))
      obtain ⟨x22, hx22, h⟩ := bd h
      refine wl_u rfl (ow_cN1 rfl hb63 rfl (fun w hw => c_impl_Flow_clone N _ _ hx22 w (Lay.at_ hf20 hw)) rfl rfl (fun a22 c22 F22 => kk_wl ?_))
      refine wl_u rfl (ow_storeA Tb (k := 1) rfl rfl rfl rfl rfl rfl rfl rfl rfl (kk_wl ?_))
      refine wl_u rfl (ow_y (yh_assign rfl rfl) rfl rfl (kk_wl ?_))
      refine wl_nil ?_
      refine ex_seq ?_
      refine cw_ret ?_
      obtain rfl := Option.some.inj h
      exact ex_r2 Tb rfl (.cellA 0 rfl rfl rfl rfl rfl) (.tmp rfl) (fun wq hq => ⟨_, rfl, hq.ext, ⟨a22, c22, F22, rfl, NewC.sel [1] hq rfl⟩⟩)

def m_laws_FnRegDrop (N : Nat) (u0 : List UInt8) : Option (Bool) := (bif ltb 1048576 ((u0.length : Nat) : Int) then some true
 else (m_spec_DrawRegistryDrop N u0).bind fun x17 => (m_impl_RegistryDrop N x17.1 x17.2.1 x17.2.2).bind fun x25 => (m_spec_RegistryDrop N x17.1 x17.2.1 x17.2.2).bind fun x32 => (bif x25.2 != x32.2 then (bif x25.2 == x32.2 then (m_laws_sameFlows N x25.1 x32.1).bind fun x54 => some x54
 else some false)
 else (m_laws_sameFlows N x25.1 x32.1).bind fun x41 => (bif !x41 then (bif x25.2 == x32.2 then (m_laws_sameFlows N x25.1 x32.1).bind fun x54 => some x54
 else some false)
 else (bif !x25.2 then (bif x25.2 == x32.2 then (m_laws_sameFlows N x25.1 x32.1).bind fun x54 => some x54
 else some false)
 else (m_impl_RegistryFind N x25.1 x17.2.1).bind fun x59 => (m_impl_RegistryValid N x25.1).bind fun x63 => (bif x63 then (bif eqb ((x25.1.length : Nat) : Int) (((x17.1.length : Nat) : Int) - 1) then (bif !x59.2 then (geti x25.1 (((x25.1.length : Nat) : Int) - 1)).bind fun y81 => (geti x17.1 (((x17.1.length : Nat) : Int) - 1)).bind fun y87 => (m_laws_sameFlow N y81 y87).bind fun x89 => some x89
 else some false)
 else some false)
 else some false)))))

set_option maxHeartbeats 4000000 in
theorem c_laws_FnRegDrop (N : Nat) (u0 : List UInt8) (res : Bool) (h : m_laws_FnRegDrop N u0 = some res) (w : World) {a_u0 : Option Addr} {c_u0 : Nat} (h_u0 : bytesL.rd w [] [.slice a_u0 u0.length c_u0] u0) : Ret Try.prog 5 [.slice a_u0 u0.length c_u0] w [] fun v w' => v = .bool res := by
  have mh_u0 := rd_max h_u0
  unfold m_laws_FnRegDrop at h
  refine ret_enter Try.func5 rfl Try.ntmps5 rfl (Hp.refl w _) ?_
  refine cw_seq ?_
  refine cw_region ?_
  refine wl_u rfl (ow_y (yh_assign rfl rfl) rfl rfl (kk_wl ?_))
  refine wl_nil ?_
  refine ex_seq ?_
  refine cw_seq ?_
  refine cw_seq ?_
  refine cw_region ?_
  refine wl_u rfl (ow_y (yh_move rfl rfl) rfl rfl (kk_wl ?_))
  refine wl_u rfl (ow_y (yh_lenS Tb rfl rfl rfl rfl) rfl rfl (kk_wl ?_))
  refine wl_u rfl (ow_y (yh_cmpI rfl rfl rfl rfl) rfl rfl (kk_wl ?_))
  refine wl_nil ?_
  refine ex_seq ?_
  refine cw_split rfl (fun c1 => ?_) (fun c1 => ?_)
  · skip
    replace h := bt c1 h
    have q1 := ltb_true.1 c1
    refine cw_seq ?_
    refine cw_region ?_
    refine wl_u rfl (ow_y (yh_assign rfl rfl) rfl rfl (kk_wl ?_))
    refine wl_nil ?_
    refine ex_seq ?_
    refine cw_ret ?_
    refine ex_then_ret ?_
    obtain rfl := Option.some.inj h
    exact ex_r1 Tb rfl (.tmp rfl) (fun wq hq => ⟨_, rfl, hq.ext, rfl⟩)
  · skip
    replace h := bf c1 h
    have q2 := ltb_false.1 c1
    refine cw_skip ?_
    refine ex_seq ?_
    refine cw_seq ?_
    refine cw_region ?_
    refine wl_u rfl (ow_y (yh_move rfl rfl) rfl rfl (kk_wl ?_))
    obtain ⟨x17, hx17, h⟩ := bd h
    refine wl_u rfl (ow_cN2 rfl hb21 rfl (fun w hw => c_spec_DrawRegistryDrop N _ _ hx17 w (Lay.at_ h_u0 hw)) rfl rfl (fun a17 c17 F17 a17_2 c17_2 F17_2 => kk_wl ?_))
    refine wl_u rfl (ow_y (yh_move rfl rfl) rfl rfl (kk_wl ?_))
    refine wl_u rfl (ow_y (yh_extract rfl rfl rfl) rfl rfl (kk_wl ?_))
    refine wl_u rfl (ow_y (yh_extract rfl rfl rfl) rfl rfl (kk_wl ?_))
    refine wl_u rfl (ow_y (yh_extract rfl rfl rfl) rfl rfl (kk_wl ?_))
    refine wl_u rfl (ow_y (yh_assign rfl rfl) rfl rfl (kk_wl ?_))
    refine wl_u rfl (ow_y (yh_assign rfl rfl) rfl rfl (kk_wl ?_))
    refine wl_u rfl (ow_y (yh_assign rfl rfl) rfl rfl (kk_wl ?_))
    refine wl_nil ?_
    refine ex_seq ?_
    refine cw_seq ?_
    refine cw_freeze 0 rfl (fun w1 M1 hb1_ hz1 => ?_)
    replace h_u0 := Lay.rb h_u0 hb1_
    have hB1 := hb1_
    have mz1 := rd_max hz1
    refine cw_freeze 0 rfl (fun w2 M2 hb2_ hz2 => ?_)
    replace h_u0 := Lay.rb h_u0 hb2_
    replace hz1 := Lay.rb hz1 hb2_
    have hB2 := hB1.trans hb2_
    have mz2 := rd_max hz2
    refine cw_region ?_
    refine wl_u rfl (ow_y (yh_move rfl rfl) rfl rfl (kk_wl ?_))
    refine wl_u rfl (ow_y (yh_move rfl rfl) rfl rfl (kk_wl ?_))
    refine wl_u rfl (ow_y (yh_move rfl rfl) rfl rfl (kk_wl ?_))
    obtain ⟨x25, hx25, h⟩ := bd h
    refine wl_u rfl (ow_cN1 rfl hb22 rfl (fun w hw => c_impl_RegistryDrop N _ _ _ _ hx25 w (Lay.at_ hz1 hw) (Lay.at_ hz2 hw)) rfl rfl (fun a25 c25 F25 => kk_wl ?_))
    refine wl_u rfl (ow_y (yh_move rfl rfl) rfl rfl (kk_wl ?_))
    refine wl_u rfl (ow_y (yh_extract rfl rfl rfl) rfl rfl (kk_wl ?_))
    refine wl_u rfl (ow_y (yh_extract rfl rfl rfl) rfl rfl (kk_wl ?_))
    refine wl_u rfl (ow_y (yh_assign rfl rfl) rfl rfl (kk_wl ?_))
    refine wl_u rfl (ow_y (yh_assign rfl rfl) rfl rfl (kk_wl ?_))
    refine wl_nil ?_
    refine ex_seq ?_
    refine cw_seq ?_
    refine cw_freeze 0 rfl (fun w3 M3 hb3_ hz3 => ?_)
    replace h_u0 := Lay.rb h_u0 hb3_
    replace hz1 := Lay.rb hz1 hb3_
    replace hz2 := Lay.rb hz2 hb3_
    have hB3 := hB2.trans hb3_
    have mz3 := rd_max hz3
    refine cw_region ?_
    refine wl_u rfl (ow_y (yh_move rfl rfl) rfl rfl (kk_wl ?_))
    refine wl_u rfl (ow_y (yh_move rfl rfl) rfl rfl (kk_wl ?_))
    refine wl_u rfl (ow_y (yh_move rfl rfl) rfl rfl (kk_wl ?_))
    obtain ⟨x32, hx32, h⟩ := bd h
    refine wl_u rfl (ow_cN1 rfl hb23 rfl (fun w hw => c_spec_RegistryDrop N _ _ _ _ hx32 w (Lay.at_ hz1 hw) (Lay.at_ hz2 hw)) rfl rfl (fun a32 c32 F32 => kk_wl ?_))
    refine wl_u rfl (ow_y (yh_move rfl rfl) rfl rfl (kk_wl ?_))
    refine wl_u rfl (ow_y (yh_extract rfl rfl rfl) rfl rfl (kk_wl ?_))
    refine wl_u rfl (ow_y (yh_extract rfl rfl rfl) rfl rfl (kk_wl ?_))
    refine wl_u rfl (ow_y (yh_assign rfl rfl) rfl rfl (kk_wl ?_))
    refine wl_u rfl (ow_y (yh_assign rfl rfl) rfl rfl (kk_wl ?_))
    refine wl_nil ?_
    refine ex_seq ?_
    refine cw_seq ?_
    refine cw_seq ?_
    refine cw_freeze 0 rfl (fun w4 M4 hb4_ hz4 => ?_)
    replace h_u0 := Lay.rb h_u0 hb4_
    replace hz1 := Lay.rb hz1 hb4_
    replace hz2 := Lay.rb hz2 hb4_
    replace hz3 := Lay.rb hz3 hb4_
    have hB4 := hB3.trans hb4_
    have mz4 := rd_max hz4
    refine cw_region ?_
    refine wl_u rfl (ow_y (yh_move rfl rfl) rfl rfl (kk_wl ?_))
    refine wl_u rfl (ow_y (yh_move rfl rfl) rfl rfl (kk_wl ?_))
    refine wl_u rfl (ow_y (yh_cmpB rfl rfl rfl rfl (by kernel_rfl)) rfl rfl (kk_wl ?_))
    refine wl_u rfl (ow_y (yh_move rfl rfl) rfl rfl (kk_wl ?_))
    refine wl_s rfl rfl (fun c2 => ?_) (fun c2 => ?_)
    · skip
      replace h := bt c2 h
      refine wl_n rfl rfl rfl rfl ?_
      refine wl_n rfl rfl rfl rfl ?_
      refine wl_n rfl rfl rfl rfl ?_
      refine wl_n rfl rfl rfl rfl ?_
      refine wl_u rfl (ow_y (yh_pickT rfl rfl rfl) rfl rfl (kk_wl ?_))
      refine wl_u rfl (ow_y (yh_move rfl rfl) rfl rfl (kk_wl ?_))
      refine wl_s rfl rfl (fun _ => ?_) nofun
      refine wl_n rfl rfl rfl rfl ?_
      refine wl_n rfl rfl rfl rfl ?_
      refine wl_u rfl (ow_y (yh_pickT rfl rfl rfl) rfl rfl (kk_wl ?_))
      refine wl_nil ?_
      refine ex_seq ?_
      refine cw_true rfl ?_
      refine cw_seq ?_
      refine cw_region ?_
      refine wl_u rfl (ow_y (yh_move rfl rfl) rfl rfl (kk_wl ?_))
      refine wl_u rfl (ow_y (yh_move rfl rfl) rfl rfl (kk_wl ?_))
      refine wl_u rfl (ow_y (yh_cmpB rfl rfl rfl rfl (by kernel_rfl)) rfl rfl (kk_wl ?_))
      refine wl_u rfl (ow_y (yh_move rfl rfl) rfl rfl (kk_wl ?_))
      refine wl_s rfl rfl (fun c3 => ?_) (fun c3 => ?_)
      · skip
        replace h := bt c3 h
        refine wl_g rfl rfl (ow_y (yh_move rfl rfl) rfl rfl (kk_wl ?_))
        refine wl_g rfl rfl (ow_y (yh_move rfl rfl) rfl rfl (kk_wl ?_))
        obtain ⟨x54, hx54, h⟩ := bd h
        refine wl_g rfl rfl (ow_cV rfl hb18 rfl (fun w hw => c_laws_sameFlows N _ _ _ hx54 w (Lay.at_ hz3 hw) (Lay.at_ hz4 hw)) rfl rfl (kk_wl ?_))
        refine wl_u rfl (ow_y (yh_pickT rfl rfl rfl) rfl rfl (kk_wl ?_))
        refine wl_u rfl (ow_y (yh_assign rfl rfl) rfl rfl (kk_wl ?_))
        refine wl_nil ?_
        refine ex_seq ?_
        refine cw_ret ?_
        refine ex_then_ret ?_
        obtain rfl := Option.some.inj h
        exact ex_r1 Tb rfl (.tmp rfl) (fun wq hq => ⟨_, rfl, (hB4.back hq).ext, rfl⟩)
      · skip
        replace h := bf c3 h
        refine wl_n rfl rfl rfl rfl ?_
        refine wl_n rfl rfl rfl rfl ?_
        refine wl_n rfl rfl rfl rfl ?_
        refine wl_u rfl (ow_y (yh_pickF rfl rfl rfl) rfl rfl (kk_wl ?_))
        refine wl_u rfl (ow_y (yh_assign rfl rfl) rfl rfl (kk_wl ?_))
        refine wl_nil ?_
        refine ex_seq ?_
        refine cw_ret ?_
        refine ex_then_ret ?_
        obtain rfl := Option.some.inj h
        exact ex_r1 Tb rfl (.tmp rfl) (fun wq hq => ⟨_, rfl, (hB4.back hq).ext, rfl⟩)
    · skip
      replace h := bf c2 h
      refine wl_g rfl rfl (ow_y (yh_move rfl rfl) rfl rfl (kk_wl ?_))
      refine wl_g rfl rfl (ow_y (yh_move rfl rfl) rfl rfl (kk_wl ?_))
      obtain ⟨x41, hx41, h⟩ := bd h
      refine wl_g rfl rfl (ow_cV rfl hb18 rfl (fun w hw => c_laws_sameFlows N _ _ _ hx41 w (Lay.at_ hz3 hw) (Lay.at_ hz4 hw)) rfl rfl (kk_wl ?_))
      refine wl_g rfl rfl (ow_y (yh_not rfl rfl) rfl rfl (kk_wl ?_))
      refine wl_u rfl (ow_y (yh_pickF rfl rfl rfl) rfl rfl (kk_wl ?_))
      refine wl_u rfl (ow_y (yh_move rfl rfl) rfl rfl (kk_wl ?_))
      refine wl_s rfl rfl (fun c4 => ?_) (fun c4 => ?_)
      · skip
        replace h := bt c4 h
        refine wl_n rfl rfl rfl rfl ?_
        refine wl_n rfl rfl rfl rfl ?_
        refine wl_u rfl (ow_y (yh_pickT rfl rfl rfl) rfl rfl (kk_wl ?_))
        refine wl_nil ?_
        refine ex_seq ?_
        refine cw_true rfl ?_
        refine cw_seq ?_
        refine cw_region ?_
        refine wl_u rfl (ow_y (yh_move rfl rfl) rfl rfl (kk_wl ?_))
        refine wl_u rfl (ow_y (yh_move rfl rfl) rfl rfl (kk_wl ?_))
        refine wl_u rfl (ow_y (yh_cmpB rfl rfl rfl rfl (by kernel_rfl)) rfl rfl (kk_wl ?_))
        refine wl_u rfl (ow_y (yh_move rfl rfl) rfl rfl (kk_wl ?_))
        refine wl_s rfl rfl (fun c5 => ?_) (fun c5 => ?_)
        · skip
          replace h := bt c5 h
          refine wl_g rfl rfl (ow_y (yh_move rfl rfl) rfl rfl (kk_wl ?_))
          refine wl_g rfl rfl (ow_y (yh_move rfl rfl) rfl rfl (kk_wl ?_))
          obtain ⟨x54, hx54, h⟩ := bd h
          refine wl_g rfl rfl (ow_cV rfl hb18 rfl (fun w hw => c_laws_sameFlows N _ _ _ hx54 w (Lay.at_ hz3 hw) (Lay.at_ hz4 hw)) rfl rfl (kk_wl ?_))
          refine wl_u rfl (ow_y (yh_pickT rfl rfl rfl) rfl rfl (kk_wl ?_))
          refine wl_u rfl (ow_y (yh_assign rfl rfl) rfl rfl (kk_wl ?_))
          refine wl_nil ?_
          refine ex_seq ?_
          refine cw_ret ?_
          refine ex_then_ret ?_
          obtain rfl := Option.some.inj h
          exact ex_r1 Tb rfl (.tmp rfl) (fun wq hq => ⟨_, rfl, (hB4.back hq).ext, rfl⟩)
        · skip
          replace h := bf c5 h
          refine wl_n rfl rfl rfl rfl ?_
          refine wl_n rfl rfl rfl rfl ?_
          refine wl_n rfl rfl rfl rfl ?_
          refine wl_u rfl (ow_y (yh_pickF rfl rfl rfl) rfl rfl (kk_wl ?_))
          refine wl_u rfl (ow_y (yh_assign rfl rfl) rfl rfl (kk_wl ?_))
          refine wl_nil ?_
          refine ex_seq ?_
          refine cw_ret ?_
          refine ex_then_ret ?_
          obtain rfl := Option.some.inj h
          exact ex_r1 Tb rfl (.tmp rfl) (fun wq hq => ⟨_, rfl, (hB4.back hq).ext, rfl⟩)
      · skip
        replace h := bf c4 h
        refine wl_g rfl rfl (ow_y (yh_move rfl rfl) rfl rfl (kk_wl ?_))
        refine wl_g rfl rfl (ow_y (yh_not rfl rfl) rfl rfl (kk_wl ?_))
        refine wl_u rfl (ow_y (yh_pickF rfl rfl rfl) rfl rfl (kk_wl ?_))
        refine wl_nil ?_
        refine ex_seq ?_
        refine cw_split rfl (fun c6 => ?_) (fun c6 => ?_)
        · skip
          replace h := bt c6 h
          refine cw_seq ?_
          refine cw_region ?_
          refine wl_u rfl (ow_y (yh_move rfl rfl) rfl rfl (kk_wl ?_))
          refine wl_u rfl (ow_y (yh_move rfl rfl) rfl rfl (kk_wl ?_))
          refine wl_u rfl (ow_y (yh_cmpB rfl rfl rfl rfl (by kernel_rfl)) rfl rfl (kk_wl ?_))
          refine wl_u rfl (ow_y (yh_move rfl rfl) rfl rfl (kk_wl ?_))
          refine wl_s rfl rfl (fun c7 => ?_) (fun c7 => ?_)
          · skip
            replace h := bt c7 h
            refine wl_g rfl rfl (ow_y (yh_move rfl rfl) rfl rfl (kk_wl ?_))
            refine wl_g rfl rfl (ow_y (yh_move rfl rfl) rfl rfl (kk_wl ?_))
            obtain ⟨x54, hx54, h⟩ := bd h
            refine wl_g rfl rfl (ow_cV rfl hb18 rfl (fun w hw => c_laws_sameFlows N _ _ _ hx54 w (Lay.at_ hz3 hw) (Lay.at_ hz4 hw)) rfl rfl (kk_wl ?_))
            refine wl_u rfl (ow_y (yh_pickT rfl rfl rfl) rfl rfl (kk_wl ?_))
            refine wl_u rfl (ow_y (yh_assign rfl rfl) rfl rfl (kk_wl ?_))
            refine wl_nil ?_
            refine ex_seq ?_
            refine cw_ret ?_
            refine ex_then_ret ?_
            obtain rfl := Option.some.inj h
            exact ex_r1 Tb rfl (.tmp rfl) (fun wq hq => ⟨_, rfl, (hB4.back hq).ext, rfl⟩)
          · skip
            replace h := bf c7 h
            refine wl_n rfl rfl rfl rfl ?_
            refine wl_n rfl rfl rfl rfl ?_
            refine wl_n rfl rfl rfl rfl ?_
            refine wl_u rfl (ow_y (yh_pickF rfl rfl rfl) rfl rfl (kk_wl ?_))
            refine wl_u rfl (ow_y (yh_assign rfl rfl) rfl rfl (kk_wl ?_))
            refine wl_nil ?_
            refine ex_seq ?_
            refine cw_ret ?_
            refine ex_then_ret ?_
            obtain rfl := Option.some.inj h
            exact ex_r1 Tb rfl (.tmp rfl) (fun wq hq => ⟨_, rfl, (hB4.back hq).ext, rfl⟩)
        · skip
          replace h := bf c6 h
          refine cw_skip ?_
          refine ex_seq ?_
          refine cw_seq ?_
          refine cw_region ?_
          refine wl_u rfl (ow_y (yh_move rfl rfl) rfl rfl (kk_wl ?_))
          refine wl_u rfl (ow_y (yh_move rfl rfl) rfl rfl (kk_wl ?_))
          obtain ⟨x59, hx59, h⟩ := bd h
          refine wl_u rfl (ow_cN1 rfl hb24 rfl (fun w hw => c_impl_RegistryFind N _ _ _ hx59 w (Lay.at_ hz3 hw)) rfl rfl (fun a59 c59 F59 => kk_wl ?_))
          refine wl_u rfl (ow_y (yh_move rfl rfl) rfl rfl (kk_wl ?_))
          refine wl_u rfl (ow_y (yh_extract rfl rfl rfl) rfl rfl (kk_wl ?_))
          refine wl_u rfl (ow_y (yh_extract rfl rfl rfl) rfl rfl (kk_wl ?_))
          refine wl_u rfl (ow_allocA Tb rfl rfl rfl rfl (fun g10 => kk_wl ?_))
          refine wl_u rfl (ow_storeA Tb (k := 0) rfl rfl rfl rfl rfl rfl rfl rfl rfl (kk_wl ?_))
          refine wl_u rfl (ow_y (yh_assign rfl rfl) rfl rfl (kk_wl ?_))
          refine wl_nil ?_
          refine ex_seq ?_
          refine cw_seq ?_
          refine cw_freeze 1 rfl (fun w5 M5 hb5_ hz5 => ?_)
          replace h_u0 := Lay.rb h_u0 hb5_
          replace hz1 := Lay.rb hz1 hb5_
          replace hz2 := Lay.rb hz2 hb5_
          replace hz3 := Lay.rb hz3 hb5_
          replace hz4 := Lay.rb hz4 hb5_
          have hB5 := hB4.trans hb5_
          have mz5 := rd_max hz5
          refine cw_dr [0, 2, 3, 4, 5, 6, 7, 8, 9, 10, 11, 12, 13, 14, 15, 16, 17, 18, 19, 20, 21, 22, 23, 24, 25, 26, 28, 29] [] [blkC g10 26 [.int .i64 x59.1.ver, .slice a59 x59.1.steps.length c59]] (by kernel_rfl) ?_
          refine wd_take (i := 0) [0] rfl rfl rfl rfl rfl (by kernel_rfl) (by kernel_rfl) (fun _ _ _ _ h => h) (yh_move rfl rfl) ?_
          obtain ⟨x63, hx63, h⟩ := bd h
          refine wd_one 1 rfl rfl (by kernel_rfl) (ow_cV rfl hb19 rfl (fun w hw => c_impl_RegistryValid N _ _ hx63 w (Lay.at_ hz3 hw)) rfl rfl (kk_wd [0] (by kernel_rfl) ?_))
          refine wd_take (i := 2) [0] rfl rfl rfl rfl rfl (by kernel_rfl) (by kernel_rfl) (fun _ _ _ _ h => h) (yh_move rfl rfl) ?_
          refine wd_split 3 rfl rfl rfl (fun c8 => ?_) (fun c8 => ?_)
          · skip
            replace h := bt c8 h
            refine wd_take (i := 3) [0] rfl rfl rfl rfl rfl (by kernel_rfl) (by kernel_rfl) (fun _ _ _ _ h => h) (yh_move rfl rfl) ?_
            refine wd_take (i := 4) [0] rfl rfl rfl rfl rfl (by kernel_rfl) (by kernel_rfl) (fun _ _ _ _ h => h) (yh_lenS Tb rfl rfl rfl rfl) ?_
            refine wd_take (i := 5) [0] rfl rfl rfl rfl rfl (by kernel_rfl) (by kernel_rfl) (fun _ _ _ _ h => h) (yh_move rfl rfl) ?_
            refine wd_take (i := 6) [0] rfl rfl rfl rfl rfl (by kernel_rfl) (by kernel_rfl) (fun _ _ _ _ h => h) (yh_lenS Tb rfl rfl rfl rfl) ?_
            refine wd_take (i := 7) [0] rfl rfl rfl rfl rfl (by kernel_rfl) (by kernel_rfl) (fun _ _ _ _ h => h) (yh_arI rfl rfl rfl rfl (by omega)) ?_
            refine wd_take (i := 8) [0] rfl rfl rfl rfl rfl (by kernel_rfl) (by kernel_rfl) (fun _ _ _ _ h => h) (yh_cmpI rfl rfl rfl rfl) ?_
            refine wd_take (i := 9) [0] rfl rfl rfl rfl rfl (by kernel_rfl) (by kernel_rfl) (fun _ _ _ _ h => h) (yh_pickT rfl rfl rfl) ?_
            refine wd_take (i := 10) [0] rfl rfl rfl rfl rfl (by kernel_rfl) (by kernel_rfl) (fun _ _ _ _ h => h) (yh_move rfl rfl) ?_
            refine wd_split 11 rfl rfl rfl (fun c9 => ?_) (fun c9 => ?_)
            · skip
              replace h := bt c9 h
              have q3 := eqb_true.1 c9
              refine wd_take (i := 11) [0] rfl rfl rfl rfl rfl (by kernel_rfl) (by kernel_rfl) (fun _ _ _ _ h => h) (yh_move rfl rfl) ?_
              refine wd_take (i := 12) [0] rfl rfl rfl rfl rfl (by kernel_rfl) (by kernel_rfl) (fun _ _ _ _ h => h) (yh_not rfl rfl) ?_
              refine wd_take (i := 13) [0] rfl rfl rfl rfl rfl (by kernel_rfl) (by kernel_rfl) (fun _ _ _ _ h => h) (yh_pickT rfl rfl rfl) ?_
              refine wd_take (i := 14) [0] rfl rfl rfl rfl rfl (by kernel_rfl) (by kernel_rfl) (fun _ _ _ _ h => h) (yh_move rfl rfl) ?_
              refine wd_split 15 rfl rfl rfl (fun c10 => ?_) (fun c10 => ?_)
              · skip
                replace h := bt c10 h
                refine wd_take (i := 15) [0] rfl rfl rfl rfl rfl (by kernel_rfl) (by kernel_rfl) (fun _ _ _ _ h => h) (yh_move rfl rfl) ?_
                refine wd_take (i := 16) [0] rfl rfl rfl rfl rfl (by kernel_rfl) (by kernel_rfl) (fun _ _ _ _ h => h) (yh_move rfl rfl) ?_
                refine wd_take (i := 17) [0] rfl rfl rfl rfl rfl (by kernel_rfl) (by kernel_rfl) (fun _ _ _ _ h => h) (yh_lenS Tb rfl rfl rfl rfl) ?_
                refine wd_take (i := 18) [0] rfl rfl rfl rfl rfl (by kernel_rfl) (by kernel_rfl) (fun _ _ _ _ h => h) (yh_arI rfl rfl rfl rfl (by omega)) ?_
                obtain ⟨y81, zy81, h⟩ := bd h
                obtain ⟨iy81, hy81⟩ := geti_some zy81
                obtain ⟨b81, o81, ha81⟩ := sl_addr hz3 hy81
                subst ha81
                obtain ⟨a81, e81, hc81, hf81⟩ := get_flow hz3 hy81
                have mx81 := rd_max hf81
                refine wd_take (i := 19) [0] rfl rfl rfl rfl rfl (by kernel_rfl) (by kernel_rfl) (fun _ _ _ _ h => h) (yh_idx Tb (k := (((x25.1.length : Nat) : Int) - 1).toNat) rfl rfl rfl iy81 (get_lt hy81) rfl rfl) ?_
                refine wd_take (i := 20) [0] rfl rfl rfl rfl rfl (by kernel_rfl) (by kernel_rfl) (fun _ _ _ _ h => h) (yh_loadAN Tb rfl rfl rfl rfl hc81 rfl) ?_
                refine wd_take (i := 21) [0] rfl rfl rfl rfl rfl (by kernel_rfl) (by kernel_rfl) (fun _ _ _ _ h => h) (yh_move rfl rfl) ?_
                refine wd_take (i := 22) [0] rfl rfl rfl rfl rfl (by kernel_rfl) (by kernel_rfl) (fun _ _ _ _ h => h) (yh_move rfl rfl) ?_
                refine wd_take (i := 23) [0] rfl rfl rfl rfl rfl (by kernel_rfl) (by kernel_rfl) (fun _ _ _ _ h => h) (yh_lenS Tb rfl rfl rfl rfl) ?_
                refine wd_take (i := 24) [0] rfl rfl rfl rfl rfl (by kernel_rfl) (by kernel_rfl) (fun _ _ _ _ h => h) (yh_arI rfl rfl rfl rfl (by omega)) ?_
                obtain ⟨y87, zy87, h⟩ := bd h
                obtain ⟨iy87, hy87⟩ := geti_some zy87
                obtain ⟨b87, o87, ha87⟩ := sl_addr hz1 hy87
                subst ha87
                obtain ⟨a87, e87, hc87, hf87⟩ := get_flow hz1 hy87
                have mx87 := rd_max hf87
                refine wd_take (i := 25) [0] rfl rfl rfl rfl rfl (by kernel_rfl) (by kernel_rfl) (fun _ _ _ _ h => h) (yh_idx Tb (k := (((x17.1.length : Nat) : Int) - 1).toNat) rfl rfl rfl iy87 (get_lt hy87) rfl rfl) ?_
                refine wd_take (i := 26) [0] rfl rfl rfl rfl rfl (by kernel_rfl) (by kernel_rfl) (fun _ _ _ _ h => h) (yh_loadAN Tb rfl rfl rfl rfl hc87 rfl) ?_
                obtain ⟨x89, hx89, h⟩ := bd h
                refine wd_one 27 rfl rfl (by kernel_rfl) (ow_cV rfl hb25 rfl (fun w hw => c_laws_sameFlow N _ _ _ hx89 w (Lay.at_ hf81 hw) (Lay.at_ hf87 hw)) rfl rfl (kk_wd [0] (by kernel_rfl) ?_))
                refine wd_take (i := 28) [0] rfl rfl rfl rfl rfl (by kernel_rfl) (by kernel_rfl) (fun _ _ _ _ h => h) (yh_pickT rfl rfl rfl) ?_
                refine wd_take (i := 29) [0] rfl rfl rfl rfl rfl (by kernel_rfl) (by kernel_rfl) (fun _ _ _ _ h => h) (yh_assign rfl rfl) ?_
                refine wd_done (by kernel_rfl) ?_
                refine ex_seq ?_
                refine cw_ret ?_
                obtain rfl := Option.some.inj h
                exact ex_r1 Tb rfl (.tmp rfl) (fun wq hq => ⟨_, rfl, (hB5.back hq).ext, rfl⟩)
              · skip
                replace h := bf c10 h
                refine wd_skip (i := 15) [0] rfl rfl rfl rfl (by kernel_rfl) (by kernel_rfl) (fun _ _ _ h => h) ?_
                refine wd_skip (i := 16) [0] rfl rfl rfl rfl (by kernel_rfl) (by kernel_rfl) (fun _ _ _ h => h) ?_
                refine wd_skip (i := 17) [0] rfl rfl rfl rfl (by kernel_rfl) (by kernel_rfl) (fun _ _ _ h => h) ?_
                refine wd_skip (i := 18) [0] rfl rfl rfl rfl (by kernel_rfl) (by kernel_rfl) (fun _ _ _ h => h) ?_
                refine wd_skip (i := 19) [0] rfl rfl rfl rfl (by kernel_rfl) (by kernel_rfl) (fun _ _ _ h => h) ?_
                refine wd_skip (i := 20) [0] rfl rfl rfl rfl (by kernel_rfl) (by kernel_rfl) (fun _ _ _ h => h) ?_
                refine wd_skip (i := 21) [0] rfl rfl rfl rfl (by kernel_rfl) (by kernel_rfl) (fun _ _ _ h => h) ?_
                refine wd_skip (i := 22) [0] rfl rfl rfl rfl (by kernel_rfl) (by kernel_rfl) (fun _ _ _ h => h) ?_
                refine wd_skip (i := 23) [0] rfl rfl rfl rfl (by kernel_rfl) (by kernel_rfl) (fun _ _ _ h => h) ?_
                refine wd_skip (i := 24) [0] rfl rfl rfl rfl (by kernel_rfl) (by kernel_rfl) (fun _ _ _ h => h) ?_
                refine wd_skip (i := 25) [0] rfl rfl rfl rfl (by kernel_rfl) (by kernel_rfl) (fun _ _ _ h => h) ?_
                refine wd_skip (i := 26) [0] rfl rfl rfl rfl (by kernel_rfl) (by kernel_rfl) (fun _ _ _ h => h) ?_
                refine wd_offD 27 rfl rfl rfl rfl (by kernel_rfl) [0] (fun _ => rfl) ?_
                refine wd_take (i := 28) [0] rfl rfl rfl rfl rfl (by kernel_rfl) (by kernel_rfl) (fun _ _ _ _ h => h) (yh_pickF rfl rfl rfl) ?_
                refine wd_take (i := 29) [0] rfl rfl rfl rfl rfl (by kernel_rfl) (by kernel_rfl) (fun _ _ _ _ h => h) (yh_assign rfl rfl) ?_
                refine wd_done (by kernel_rfl) ?_
                refine ex_seq ?_
                refine cw_ret ?_
                obtain rfl := Option.some.inj h
                exact ex_r1 Tb rfl (.tmp rfl) (fun wq hq => ⟨_, rfl, (hB5.back hq).ext, rfl⟩)
            · skip
              replace h := bf c9 h
              have q4 := eqb_false.1 c9
              refine wd_skip (i := 11) [0] rfl rfl rfl rfl (by kernel_rfl) (by kernel_rfl) (fun _ _ _ h => h) ?_
              refine wd_skip (i := 12) [0] rfl rfl rfl rfl (by kernel_rfl) (by kernel_rfl) (fun _ _ _ h => h) ?_
              refine wd_take (i := 13) [0] rfl rfl rfl rfl rfl (by kernel_rfl) (by kernel_rfl) (fun _ _ _ _ h => h) (yh_pickF rfl rfl rfl) ?_
              refine wd_take (i := 14) [0] rfl rfl rfl rfl rfl (by kernel_rfl) (by kernel_rfl) (fun _ _ _ _ h => h) (yh_move rfl rfl) ?_
              refine wd_split 15 rfl rfl rfl nofun (fun _ => ?_)
              refine wd_skip (i := 15) [0] rfl rfl rfl rfl (by kernel_rfl) (by kernel_rfl) (fun _ _ _ h => h) ?_
              refine wd_skip (i := 16) [0] rfl rfl rfl rfl (by kernel_rfl) (by kernel_rfl) (fun _ _ _ h => h) ?_
              refine wd_skip (i := 17) [0] rfl rfl rfl rfl (by kernel_rfl) (by kernel_rfl) (fun _ _ _ h => h) ?_
              refine wd_skip (i := 18) [0] rfl rfl rfl rfl (by kernel_rfl) (by kernel_rfl) (fun _ _ _ h => h) ?_
              refine wd_skip (i := 19) [0] rfl rfl rfl rfl (by kernel_rfl) (by kernel_rfl) (fun _ _ _ h => h) ?_
              refine wd_skip (i := 20) [0] rfl rfl rfl rfl (by kernel_rfl) (by kernel_rfl) (fun _ _ _ h => h) ?_
              refine wd_skip (i := 21) [0] rfl rfl rfl rfl (by kernel_rfl) (by kernel_rfl) (fun _ _ _ h => h) ?_
              refine wd_skip (i := 22) [0] rfl rfl rfl rfl (by kernel_rfl) (by kernel_rfl) (fun _ _ _ h => h) ?_
              refine wd_skip (i := 23) [0] rfl rfl rfl rfl (by kernel_rfl) (by kernel_rfl) (fun _ _ _ h => h) ?_
              refine wd_skip (i := 24) [0] rfl rfl rfl rfl (by kernel_rfl) (by kernel_rfl) (fun _ _ _ h => h) ?_
              refine wd_skip (i := 25) [0] rfl rfl rfl rfl (by kernel_rfl) (by kernel_rfl) (fun _ _ _ h => h) ?_
              refine wd_skip (i := 26) [0] rfl rfl rfl rfl (by kernel_rfl) (by kernel_rfl) (fun _ _ _ h => h) ?_
              refine wd_offD 27 rfl rfl rfl rfl (by kernel_rfl) [0] (fun _ => rfl) ?_
              refine wd_take (i := 28) [0] rfl rfl rfl rfl rfl (by kernel_rfl) (by kernel_rfl) (fun _ _ _ _ h => h) (yh_pickF rfl rfl rfl) ?_
              refine wd_take (i := 29) [0] rfl rfl rfl rfl rfl (by kernel_rfl) (by kernel_rfl) (fun _ _ _ _ h => h) (yh_assign rfl rfl) ?_
              refine wd_done (by kernel_rfl) ?_
              refine ex_seq ?_
              refine cw_ret ?_
              obtain rfl := Option.some.inj h
              exact ex_r1 Tb rfl (.tmp rfl) (fun wq hq => ⟨_, rfl, (hB5.back hq).ext, rfl⟩)
          · skip
            replace h := bf c8 h
            refine wd_skip (i := 3) [0] rfl rfl rfl rfl (by kernel_rfl) (by kernel_rfl) (fun _ _ _ h => h) ?_
            refine wd_skip (i := 4) [0] rfl rfl rfl rfl (by kernel_rfl) (by kernel_rfl) (fun _ _ _ h => h) ?_
            refine wd_skip (i := 5) [0] rfl rfl rfl rfl (by kernel_rfl) (by kernel_rfl) (fun _ _ _ h => h) ?_
            refine wd_skip (i := 6) [0] rfl rfl rfl rfl (by kernel_rfl) (by kernel_rfl) (fun _ _ _ h => h) ?_
            refine wd_skip (i := 7) [0] rfl rfl rfl rfl (by kernel_rfl) (by kernel_rfl) (fun _ _ _ h => h) ?_
            refine wd_skip (i := 8) [0] rfl rfl rfl rfl (by kernel_rfl) (by kernel_rfl) (fun _ _ _ h => h) ?_
            refine wd_take (i := 9) [0] rfl rfl rfl rfl rfl (by kernel_rfl) (by kernel_rfl) (fun _ _ _ _ h => h) (yh_pickF rfl rfl rfl) ?_
            refine wd_take (i := 10) [0] rfl rfl rfl rfl rfl (by kernel_rfl) (by kernel_rfl) (fun _ _ _ _ h => h) (yh_move rfl rfl) ?_
            refine wd_split 11 rfl rfl rfl nofun (fun _ => ?_)
            refine wd_skip (i := 11) [0] rfl rfl rfl rfl (by kernel_rfl) (by kernel_rfl) (fun _ _ _ h => h) ?_
            refine wd_skip (i := 12) [0] rfl rfl rfl rfl (by kernel_rfl) (by kernel_rfl) (fun _ _ _ h => h) ?_
            refine wd_take (i := 13) [0] rfl rfl rfl rfl rfl (by kernel_rfl) (by kernel_rfl) (fun _ _ _ _ h => h) (yh_pickF rfl rfl rfl) ?_
            refine wd_take (i := 14) [0] rfl rfl rfl rfl rfl (by kernel_rfl) (by kernel_rfl) (fun _ _ _ _ h => h) (yh_move rfl rfl) ?_
            refine wd_split 15 rfl rfl rfl nofun (fun _ => ?_)
            refine wd_skip (i := 15) [0] rfl rfl rfl rfl (by kernel_rfl) (by kernel_rfl) (fun _ _ _ h => h) ?_
            refine wd_skip (i := 16) [0] rfl rfl rfl rfl (by kernel_rfl) (by kernel_rfl) (fun _ _ _ h => h) ?_
            refine wd_skip (i := 17) [0] rfl rfl rfl rfl (by kernel_rfl) (by kernel_rfl) (fun _ _ _ h => h) ?_
            refine wd_skip (i := 18) [0] rfl rfl rfl rfl (by kernel_rfl) (by kernel_rfl) (fun _ _ _ h => h) ?_
            refine wd_skip (i := 19) [0] rfl rfl rfl rfl (by kernel_rfl) (by kernel_rfl) (fun _ _ _ h => h) ?_
            refine wd_skip (i := 20) [0] rfl rfl rfl rfl (by kernel_rfl) (by kernel_rfl) (fun _ _ _ h => h) ?_
            refine wd_skip (i := 21) [0] rfl rfl rfl rfl (by kernel_rfl) (by kernel_rfl) (fun _ _ _ h => h) ?_
            refine wd_skip (i := 22) [0] rfl rfl rfl rfl (by kernel_rfl) (by kernel_rfl) (fun _ _ _ h => h) ?_
            refine wd_skip (i := 23) [0] rfl rfl rfl rfl (by kernel_rfl) (by kernel_rfl) (fun _ _ _ h => h) ?_
            refine wd_skip (i := 24) [0] rfl rfl rfl rfl (by kernel_rfl) (by kernel_rfl) (fun _ _ _ h => h) ?_
            refine wd_skip (i := 25) [0] rfl rfl rfl rfl (by kernel_rfl) (by kernel_rfl) (fun _ _ _ h => h) ?_
            refine wd_skip (i := 26) [0] rfl rfl rfl rfl (by kernel_rfl) (by kernel_rfl) (fun _ _ _ h => h) ?_
            refine wd_offD 27 rfl rfl rfl rfl (by kernel_rfl) [0] (fun _ => rfl) ?_
            refine wd_take (i := 28) [0] rfl rfl rfl rfl rfl (by kernel_rfl) (by kernel_rfl) (fun _ _ _ _ h => h) (yh_pickF rfl rfl rfl) ?_
            refine wd_take (i := 29) [0] rfl rfl rfl rfl rfl (by kernel_rfl) (by kernel_rfl) (fun _ _ _ _ h => h) (yh_assign rfl rfl) ?_
            refine wd_done (by kernel_rfl) ?_
            refine ex_seq ?_
            refine cw_ret ?_
            obtain rfl := Option.some.inj h
            exact ex_r1 Tb rfl (.tmp rfl) (fun wq hq => ⟨_, rfl, (hB5.back hq).ext, rfl⟩)

def m_laws_FnRegDropUsed_L15 (N : Nat) (x18 : List Flow × Int × List Int) : Nat → Nat → Option (Ex (Nat) (Bool))
  | 0, _ => none
  | n + 1, s10 => (bif ltb ((s10 : Nat) : Int) ((x18.2.2.length : Nat) : Int) then (x18.2.2[s10]?).bind fun y65 => (bif eqb y65 x18.2.1 then some (Ex.ret false)
 else m_laws_FnRegDropUsed_L15 N x18 n (s10 + 1))
 else some (Ex.brk (s10)))

def m_laws_FnRegDropUsed (N : Nat) (u0 : List UInt8) : Option (Bool) := (bif ltb 1048576 ((u0.length : Nat) : Int) then some true
 else (m_spec_DrawRegistryDrop N u0).bind fun x18 => (m_impl_RegistryDrop N x18.1 x18.2.1 x18.2.2).bind fun x26 => (m_spec_RegistryDrop N x18.1 x18.2.1 x18.2.2).bind fun x33 => (bif x26.2 != x33.2 then (bif x26.2 == x33.2 then (m_laws_sameFlows N x26.1 x33.1).bind fun x55 => some x55
 else some false)
 else (m_laws_sameFlows N x26.1 x33.1).bind fun x42 => (bif !x42 then (bif x26.2 == x33.2 then (m_laws_sameFlows N x26.1 x33.1).bind fun x55 => some x55
 else some false)
 else (bif !x26.2 then (bif x26.2 == x33.2 then (m_laws_sameFlows N x26.1 x33.1).bind fun x55 => some x55
 else some false)
 else (m_laws_FnRegDropUsed_L15 N x18 N 0).bind fun e15 => e15.go (fun r => r) fun b15 => (appd ([] : List Int) x18.2.2).bind fun l74 => (appd (([] : List Int) ++ x18.2.2) ([x18.2.1] : List Int)).bind fun l77 => (m_impl_RegistryDrop N x18.1 x18.2.1 ((([] : List Int) ++ x18.2.2) ++ ([x18.2.1] : List Int))).bind fun x78 => some (!x78.2)))))

set_option maxHeartbeats 4000000 in
theorem c_laws_FnRegDropUsed (N : Nat) (u0 : List UInt8) (res : Bool) (h : m_laws_FnRegDropUsed N u0 = some res) (w : World) {a_u0 : Option Addr} {c_u0 : Nat} (h_u0 : bytesL.rd w [] [.slice a_u0 u0.length c_u0] u0) : Ret Try.prog 4 [.slice a_u0 u0.length c_u0] w [] fun v w' => v = .bool res := by
  have mh_u0 := rd_max h_u0
  unfold m_laws_FnRegDropUsed at h
  refine ret_enter Try.func4 rfl Try.ntmps4 rfl (Hp.refl w _) ?_
  refine cw_seq ?_
  refine cw_region ?_
  refine wl_u rfl (ow_y (yh_assign rfl rfl) rfl rfl (kk_wl ?_))
  refine wl_nil ?_
  refine ex_seq ?_
  refine cw_seq ?_
  refine cw_seq ?_
  refine cw_region ?_
  refine wl_u rfl (ow_y (yh_move rfl rfl) rfl rfl (kk_wl ?_))
  refine wl_u rfl (ow_y (yh_lenS Tb rfl rfl rfl rfl) rfl rfl (kk_wl ?_))
  refine wl_u rfl (ow_y (yh_cmpI rfl rfl rfl rfl) rfl rfl (kk_wl ?_))
  refine wl_nil ?_
  refine ex_seq ?_
  refine cw_split rfl (fun c1 => ?_) (fun c1 => ?_)
  · skip
    replace h := bt c1 h
    have q1 := ltb_true.1 c1
    refine cw_seq ?_
    refine cw_region ?_
    refine wl_u rfl (ow_y (yh_assign rfl rfl) rfl rfl (kk_wl ?_))
    refine wl_nil ?_
    refine ex_seq ?_
    refine cw_ret ?_
    refine ex_then_ret ?_
    obtain rfl := Option.some.inj h
    exact ex_r1 Tb rfl (.tmp rfl) (fun wq hq => ⟨_, rfl, hq.ext, rfl⟩)
  · skip
    replace h := bf c1 h
    have q2 := ltb_false.1 c1
    refine cw_skip ?_
    refine ex_seq ?_
    refine cw_seq ?_
    refine cw_region ?_
    refine wl_u rfl (ow_y (yh_move rfl rfl) rfl rfl (kk_wl ?_))
    obtain ⟨x18, hx18, h⟩ := bd h
    refine wl_u rfl (ow_cN2 rfl hb21 rfl (fun w hw => c_spec_DrawRegistryDrop N _ _ hx18 w (Lay.at_ h_u0 hw)) rfl rfl (fun a18 c18 F18 a18_2 c18_2 F18_2 => kk_wl ?_))
    refine wl_u rfl (ow_y (yh_move rfl rfl) rfl rfl (kk_wl ?_))
    refine wl_u rfl (ow_y (yh_extract rfl rfl rfl) rfl rfl (kk_wl ?_))
    refine wl_u rfl (ow_y (yh_extract rfl rfl rfl) rfl rfl (kk_wl ?_))
    refine wl_u rfl (ow_y (yh_extract rfl rfl rfl) rfl rfl (kk_wl ?_))
    refine wl_u rfl (ow_y (yh_assign rfl rfl) rfl rfl (kk_wl ?_))
    refine wl_u rfl (ow_y (yh_assign rfl rfl) rfl rfl (kk_wl ?_))
    refine wl_u rfl (ow_y (yh_assign rfl rfl) rfl rfl (kk_wl ?_))
    refine wl_nil ?_
    refine ex_seq ?_
    refine cw_seq ?_
    refine cw_freeze 0 rfl (fun w1 M1 hb1_ hz1 => ?_)
    replace h_u0 := Lay.rb h_u0 hb1_
    have hB1 := hb1_
    have mz1 := rd_max hz1
    refine cw_freeze 0 rfl (fun w2 M2 hb2_ hz2 => ?_)
    replace h_u0 := Lay.rb h_u0 hb2_
    replace hz1 := Lay.rb hz1 hb2_
    have hB2 := hB1.trans hb2_
    have mz2 := rd_max hz2
    refine cw_region ?_
    refine wl_u rfl (ow_y (yh_move rfl rfl) rfl rfl (kk_wl ?_))
    refine wl_u rfl (ow_y (yh_move rfl rfl) rfl rfl (kk_wl ?_))
    refine wl_u rfl (ow_y (yh_move rfl rfl) rfl rfl (kk_wl ?_))
    obtain ⟨x26, hx26, h⟩ := bd h
    refine wl_u rfl (ow_cN1 rfl hb22 rfl (fun w hw => c_impl_RegistryDrop N _ _ _ _ hx26 w (Lay.at_ hz1 hw) (Lay.at_ hz2 hw)) rfl rfl (fun a26 c26 F26 => kk_wl ?_))
    refine wl_u rfl (ow_y (yh_move rfl rfl) rfl rfl (kk_wl ?_))
    refine wl_u rfl (ow_y (yh_extract rfl rfl rfl) rfl rfl (kk_wl ?_))
    refine wl_u rfl (ow_y (yh_extract rfl rfl rfl) rfl rfl (kk_wl ?_))
    refine wl_u rfl (ow_y (yh_assign rfl rfl) rfl rfl (kk_wl ?_))
    refine wl_u rfl (ow_y (yh_assign rfl rfl) rfl rfl (kk_wl ?_))
    refine wl_nil ?_
    refine ex_seq ?_
    refine cw_seq ?_
    refine cw_freeze 0 rfl (fun w3 M3 hb3_ hz3 => ?_)
    replace h_u0 := Lay.rb h_u0 hb3_
    replace hz1 := Lay.rb hz1 hb3_
    replace hz2 := Lay.rb hz2 hb3_
    have hB3 := hB2.trans hb3_
    have mz3 := rd_max hz3
    refine cw_region ?_
    refine wl_u rfl (ow_y (yh_move rfl rfl) rfl rfl (kk_wl ?_))
    refine wl_u rfl (ow_y (yh_move rfl rfl) rfl rfl (kk_wl ?_))
    refine wl_u rfl (ow_y (yh_move rfl rfl) rfl rfl (kk_wl ?_))
    obtain ⟨x33, hx33, h⟩ := bd h
    refine wl_u rfl (ow_cN1 rfl hb23 rfl (fun w hw => c_spec_RegistryDrop N _ _ _ _ hx33 w (Lay.at_ hz1 hw) (Lay.at_ hz2 hw)) rfl rfl (fun a33 c33 F33 => kk_wl ?_))
    refine wl_u rfl (ow_y (yh_move rfl rfl) rfl rfl (kk_wl ?_))
    refine wl_u rfl (ow_y (yh_extract rfl rfl rfl) rfl rfl (kk_wl ?_))
    refine wl_u rfl (ow_y (yh_extract rfl rfl rfl) rfl rfl (kk_wl ?_))
    refine wl_u rfl (ow_y (yh_assign rfl rfl) rfl rfl (kk_wl ?_))
    refine wl_u rfl (ow_y (yh_assign rfl rfl) rfl rfl (kk_wl ?_))
    refine wl_nil ?_
    refine ex_seq ?_
    refine cw_seq ?_
    refine cw_seq ?_
    refine cw_freeze 0 rfl (fun w4 M4 hb4_ hz4 => ?_)
    replace h_u0 := Lay.rb h_u0 hb4_
    replace hz1 := Lay.rb hz1 hb4_
    replace hz2 := Lay.rb hz2 hb4_
    replace hz3 := Lay.rb hz3 hb4_
    have hB4 := hB3.trans hb4_
    have mz4 := rd_max hz4
    refine cw_region ?_
    refine wl_u rfl (ow_y (yh_move rfl rfl) rfl rfl (kk_wl ?_))
    refine wl_u rfl (ow_y (yh_move rfl rfl) rfl rfl (kk_wl ?_))
    refine wl_u rfl (ow_y (yh_cmpB rfl rfl rfl rfl (by kernel_rfl)) rfl rfl (kk_wl ?_))
    refine wl_u rfl (ow_y (yh_move rfl rfl) rfl rfl (kk_wl ?_))
    refine wl_s rfl rfl (fun c2 => ?_) (fun c2 => ?_)
    · skip
      replace h := bt c2 h
      refine wl_n rfl rfl rfl rfl ?_
      refine wl_n rfl rfl rfl rfl ?_
      refine wl_n rfl rfl rfl rfl ?_
      refine wl_n rfl rfl rfl rfl ?_
      refine wl_u rfl (ow_y (yh_pickT rfl rfl rfl) rfl rfl (kk_wl ?_))
      refine wl_u rfl (ow_y (yh_move rfl rfl) rfl rfl (kk_wl ?_))
      refine wl_s rfl rfl (fun _ => ?_) nofun
      refine wl_n rfl rfl rfl rfl ?_
      refine wl_n rfl rfl rfl rfl ?_
      refine wl_u rfl (ow_y (yh_pickT rfl rfl rfl) rfl rfl (kk_wl ?_))
      refine wl_nil ?_
      refine ex_seq ?_
      refine cw_true rfl ?_
      refine cw_seq ?_
      refine cw_region ?_
      refine wl_u rfl (ow_y (yh_move rfl rfl) rfl rfl (kk_wl ?_))
      refine wl_u rfl (ow_y (yh_move rfl rfl) rfl rfl (kk_wl ?_))
      refine wl_u rfl (ow_y (yh_cmpB rfl rfl rfl rfl (by kernel_rfl)) rfl rfl (kk_wl ?_))
      refine wl_u rfl (ow_y (yh_move rfl rfl) rfl rfl (kk_wl ?_))
      refine wl_s rfl rfl (fun c3 => ?_) (fun c3 => ?_)
      · skip
        replace h := bt c3 h
        refine wl_g rfl rfl (ow_y (yh_move rfl rfl) rfl rfl (kk_wl ?_))
        refine wl_g rfl rfl (ow_y (yh_move rfl rfl) rfl rfl (kk_wl ?_))
        obtain ⟨x55, hx55, h⟩ := bd h
        refine wl_g rfl rfl (ow_cV rfl hb18 rfl (fun w hw => c_laws_sameFlows N _ _ _ hx55 w (Lay.at_ hz3 hw) (Lay.at_ hz4 hw)) rfl rfl (kk_wl ?_))
        refine wl_u rfl (ow_y (yh_pickT rfl rfl rfl) rfl rfl (kk_wl ?_))
        refine wl_u rfl (ow_y (yh_assign rfl rfl) rfl rfl (kk_wl ?_))
        refine wl_nil ?_
        refine ex_seq ?_
        refine cw_ret ?_
        refine ex_then_ret ?_
        obtain rfl := Option.some.inj h
        exact ex_r1 Tb rfl (.tmp rfl) (fun wq hq => ⟨_, rfl, (hB4.back hq).ext, rfl⟩)
      · skip
        replace h := bf c3 h
        refine wl_n rfl rfl rfl rfl ?_
        refine wl_n rfl rfl rfl rfl ?_
        refine wl_n rfl rfl rfl rfl ?_
        refine wl_u rfl (ow_y (yh_pickF rfl rfl rfl) rfl rfl (kk_wl ?_))
        refine wl_u rfl (ow_y (yh_assign rfl rfl) rfl rfl (kk_wl ?_))
        refine wl_nil ?_
        refine ex_seq ?_
        refine cw_ret ?_
        refine ex_then_ret ?_
        obtain rfl := Option.some.inj h
        exact ex_r1 Tb rfl (.tmp rfl) (fun wq hq => ⟨_, rfl, (hB4.back hq).ext, rfl⟩)
    · skip
      replace h := bf c2 h
      refine wl_g rfl rfl (ow_y (yh_move rfl rfl) rfl rfl (kk_wl ?_))
      refine wl_g rfl rfl (ow_y (yh_move rfl rfl) rfl rfl (kk_wl ?_))
      obtain ⟨x42, hx42, h⟩ := bd h
      refine wl_g rfl rfl (ow_cV rfl hb18 rfl (fun w hw => c_laws_sameFlows N _ _ _ hx42 w (Lay.at_ hz3 hw) (Lay.at_ hz4 hw)) rfl rfl (kk_wl ?_))
      refine wl_g rfl rfl (ow_y (yh_not rfl rfl) rfl rfl (kk_wl ?_))
      refine wl_u rfl (ow_y (yh_pickF rfl rfl rfl) rfl rfl (kk_wl ?_))
      refine wl_u rfl (ow_y (yh_move rfl rfl) rfl rfl (kk_wl ?_))
      refine wl_s rfl rfl (fun c4 => ?_) (fun c4 => ?_)
      · skip
        replace h := bt c4 h
        refine wl_n rfl rfl rfl rfl ?_
        refine wl_n rfl rfl rfl rfl ?_
        refine wl_u rfl (ow_y (yh_pickT rfl rfl rfl) rfl rfl (kk_wl ?_))
        refine wl_nil ?_
        refine ex_seq ?_
        refine cw_true rfl ?_
        refine cw_seq ?_
        refine cw_region ?_
        refine wl_u rfl (ow_y (yh_move rfl rfl) rfl rfl (kk_wl ?_))
        refine wl_u rfl (ow_y (yh_move rfl rfl) rfl rfl (kk_wl ?_))
        refine wl_u rfl (ow_y (yh_cmpB rfl rfl rfl rfl (by kernel_rfl)) rfl rfl (kk_wl ?_))
        refine wl_u rfl (ow_y (yh_move rfl rfl) rfl rfl (kk_wl ?_))
        refine wl_s rfl rfl (fun c5 => ?_) (fun c5 => ?_)
        · skip
          replace h := bt c5 h
          refine wl_g rfl rfl (ow_y (yh_move rfl rfl) rfl rfl (kk_wl ?_))
          refine wl_g rfl rfl (ow_y (yh_move rfl rfl) rfl rfl (kk_wl ?_))
          obtain ⟨x55, hx55, h⟩ := bd h
          refine wl_g rfl rfl (ow_cV rfl hb18 rfl (fun w hw => c_laws_sameFlows N _ _ _ hx55 w (Lay.at_ hz3 hw) (Lay.at_ hz4 hw)) rfl rfl (kk_wl ?_))
          refine wl_u rfl (ow_y (yh_pickT rfl rfl rfl) rfl rfl (kk_wl ?_))
          refine wl_u rfl (ow_y (yh_assign rfl rfl) rfl rfl (kk_wl ?_))
          refine wl_nil ?_
          refine ex_seq ?_
          refine cw_ret ?_
          refine ex_then_ret ?_
          obtain rfl := Option.some.inj h
          exact ex_r1 Tb rfl (.tmp rfl) (fun wq hq => ⟨_, rfl, (hB4.back hq).ext, rfl⟩)
        · skip
          replace h := bf c5 h
          refine wl_n rfl rfl rfl rfl ?_
          refine wl_n rfl rfl rfl rfl ?_
          refine wl_n rfl rfl rfl rfl ?_
          refine wl_u rfl (ow_y (yh_pickF rfl rfl rfl) rfl rfl (kk_wl ?_))
          refine wl_u rfl (ow_y (yh_assign rfl rfl) rfl rfl (kk_wl ?_))
          refine wl_nil ?_
          refine ex_seq ?_
          refine cw_ret ?_
          refine ex_then_ret ?_
          obtain rfl := Option.some.inj h
          exact ex_r1 Tb rfl (.tmp rfl) (fun wq hq => ⟨_, rfl, (hB4.back hq).ext, rfl⟩)
      · skip
        replace h := bf c4 h
        refine wl_g rfl rfl (ow_y (yh_move rfl rfl) rfl rfl (kk_wl ?_))
        refine wl_g rfl rfl (ow_y (yh_not rfl rfl) rfl rfl (kk_wl ?_))
        refine wl_u rfl (ow_y (yh_pickF rfl rfl rfl) rfl rfl (kk_wl ?_))
        refine wl_nil ?_
        refine ex_seq ?_
        refine cw_split rfl (fun c6 => ?_) (fun c6 => ?_)
        · skip
          replace h := bt c6 h
          refine cw_seq ?_
          refine cw_region ?_
          refine wl_u rfl (ow_y (yh_move rfl rfl) rfl rfl (kk_wl ?_))
          refine wl_u rfl (ow_y (yh_move rfl rfl) rfl rfl (kk_wl ?_))
          refine wl_u rfl (ow_y (yh_cmpB rfl rfl rfl rfl (by kernel_rfl)) rfl rfl (kk_wl ?_))
          refine wl_u rfl (ow_y (yh_move rfl rfl) rfl rfl (kk_wl ?_))
          refine wl_s rfl rfl (fun c7 => ?_) (fun c7 => ?_)
          · skip
            replace h := bt c7 h
            refine wl_g rfl rfl (ow_y (yh_move rfl rfl) rfl rfl (kk_wl ?_))
            refine wl_g rfl rfl (ow_y (yh_move rfl rfl) rfl rfl (kk_wl ?_))
            obtain ⟨x55, hx55, h⟩ := bd h
            refine wl_g rfl rfl (ow_cV rfl hb18 rfl (fun w hw => c_laws_sameFlows N _ _ _ hx55 w (Lay.at_ hz3 hw) (Lay.at_ hz4 hw)) rfl rfl (kk_wl ?_))
            refine wl_u rfl (ow_y (yh_pickT rfl rfl rfl) rfl rfl (kk_wl ?_))
            refine wl_u rfl (ow_y (yh_assign rfl rfl) rfl rfl (kk_wl ?_))
            refine wl_nil ?_
            refine ex_seq ?_
            refine cw_ret ?_
            refine ex_then_ret ?_
            obtain rfl := Option.some.inj h
            exact ex_r1 Tb rfl (.tmp rfl) (fun wq hq => ⟨_, rfl, (hB4.back hq).ext, rfl⟩)
          · skip
            replace h := bf c7 h
            refine wl_n rfl rfl rfl rfl ?_
            refine wl_n rfl rfl rfl rfl ?_
            refine wl_n rfl rfl rfl rfl ?_
            refine wl_u rfl (ow_y (yh_pickF rfl rfl rfl) rfl rfl (kk_wl ?_))
            refine wl_u rfl (ow_y (yh_assign rfl rfl) rfl rfl (kk_wl ?_))
            refine wl_nil ?_
            refine ex_seq ?_
            refine cw_ret ?_
            refine ex_then_ret ?_
            obtain rfl := Option.some.inj h
            exact ex_r1 Tb rfl (.tmp rfl) (fun wq hq => ⟨_, rfl, (hB4.back hq).ext, rfl⟩)
        · skip
          replace h := bf c6 h
          refine cw_skip ?_
          refine ex_seq ?_
          refine cw_seq ?_
          refine cw_seq ?_
          refine cw_region ?_
          refine wl_u rfl (ow_y (yh_assign rfl rfl) rfl rfl (kk_wl ?_))
          refine wl_nil ?_
          refine ex_seq ?_
          refine cw_block ?_
          obtain ⟨e15, he15, hk15⟩ := bd h
          clear h
          refine cw_loopG (σ := Nat × Nat) (fun s => m_laws_FnRegDropUsed_L15 N x18 s.1 s.2 = some e15) (fun s => [(3, .slice a18 x18.1.length c18), (4, .int .i64 x18.2.1), (5, .slice a18_2 x18.2.2.length c18_2), (10, .int .i64 ((s.2 : Nat) : Int))]) (fun s => []) (fun s => s.1) (N, 0) [] he15 ⟨rfl, rfl, rfl, rfl, trivial⟩ rfl (fun KL s he15 hn15 => ?_)
          obtain ⟨n15, s10⟩ := s
          simp only at he15 hn15 ⊢
          rcases n15 with _ | n15
          · exact nosome he15
          have h := he15; rw [m_laws_FnRegDropUsed_L15] at h
          refine cw_seq ?_
          refine cw_seq ?_
          refine cw_region ?_
          refine wl_u rfl (ow_y (yh_move rfl rfl) rfl rfl (kk_wl ?_))
          refine wl_u rfl (ow_y (yh_move rfl rfl) rfl rfl (kk_wl ?_))
          refine wl_u rfl (ow_y (yh_lenS Tb rfl rfl rfl rfl) rfl rfl (kk_wl ?_))
          refine wl_u rfl (ow_y (yh_cmpI rfl rfl rfl rfl) rfl rfl (kk_wl ?_))
          refine wl_nil ?_
          refine ex_seq ?_
          refine cw_split rfl (fun c8 => ?_) (fun c8 => ?_)
          · skip
            replace h := bt c8 h
            have q3 := ltb_true.1 c8
            refine cw_skip ?_
            refine ex_seq ?_
            refine cw_seq ?_
            refine cw_block ?_
            refine cw_seq ?_
            refine cw_region ?_
            refine wl_u rfl (ow_y (yh_move rfl rfl) rfl rfl (kk_wl ?_))
            refine wl_u rfl (ow_y (yh_move rfl rfl) rfl rfl (kk_wl ?_))
            obtain ⟨y65, hy65, h⟩ := bd h
            obtain ⟨b65, o65, ha65⟩ := sl_addr hz2 hy65
            subst ha65
            have hc65 := get_int hz2 hy65
            refine wl_u rfl (ow_y (yh_idx Tb (k := s10) rfl rfl rfl rfl (get_lt hy65) rfl rfl) rfl rfl (kk_wl ?_))
            refine wl_u rfl (ow_y (yh_loadA0 Tb rfl rfl rfl hc65 rfl) rfl rfl (kk_wl ?_))
            refine wl_u rfl (ow_y (yh_move rfl rfl) rfl rfl (kk_wl ?_))
            refine wl_u rfl (ow_y (yh_cmpI rfl rfl rfl rfl) rfl rfl (kk_wl ?_))
            refine wl_nil ?_
            refine ex_seq ?_
            refine cw_split rfl (fun c9 => ?_) (fun c9 => ?_)
            · skip
              replace h := bt c9 h
              have q4 := eqb_true.1 c9
              refine cw_seq ?_
              refine cw_region ?_
              refine wl_u rfl (ow_y (yh_assign rfl rfl) rfl rfl (kk_wl ?_))
              refine wl_nil ?_
              refine ex_seq ?_
              refine cw_ret ?_
              refine ex_block_ret ?_
              refine ex_then_ret ?_
              refine ex_then_ret ?_
              refine ex_block_ret ?_
              refine ex_then_ret ?_
              obtain rfl := Option.some.inj h
              obtain rfl := go_ret hk15
              exact ex_r1 Tb rfl (.tmp rfl) (fun wq hq => ⟨_, rfl, (hB4.back hq).ext, rfl⟩)
            · skip
              replace h := bf c9 h
              have q5 := eqb_false.1 c9
              refine cw_skip ?_
              refine ex_block_normal ?_
              refine ex_seq ?_
              refine cw_region ?_
              refine wl_u rfl (ow_y (yh_move rfl rfl) rfl rfl (kk_wl ?_))
              refine wl_u rfl (ow_y (yh_arI rfl rfl rfl rfl (by omega)) rfl rfl (kk_wl ?_))
              refine wl_u rfl (ow_y (yh_assign rfl rfl) rfl rfl (kk_wl ?_))
              refine wl_nil ?_
              exact ex_next [] (hn15 (n15, s10 + 1) (Nat.lt_succ_self _) h) ⟨rfl, rfl, rfl, rfl, trivial⟩ (by kernel_rfl)
          · skip
            replace h := bf c8 h
            have q6 := ltb_false.1 c8
            refine cw_exit ?_
            refine ex_then_exit ?_
            refine ex_then_exit ?_
            obtain rfl := Option.some.inj h
            have h := go_brk hk15
            refine ex_block_exit ?_
            refine ex_seq ?_
            refine cw_seq ?_
            refine cw_region ?_
            refine wl_u rfl (ow_y (yh_move rfl rfl) rfl rfl (kk_wl ?_))
            refine wl_u rfl (ow_y (yh_move rfl rfl) rfl rfl (kk_wl ?_))
            refine wl_u rfl (ow_lit0 Tb rfl rfl rfl rfl rfl rfl (fun g72 => kk_chg (c' := owC intsL [g72] [.slice (some ⟨g72, 0, none⟩) 0 0] ([] : List Int)) 0 rfl (fun w hA => own_intsL ([] : List Int) hA rfl (by simp [maxLen])) rfl (kk_wl ?_)))
            refine wl_u rfl (ow_y (yh_move rfl rfl) rfl rfl (kk_wl ?_))
            obtain ⟨hll74, h⟩ := bd_appd h
            refine wl_u rfl (ow_appP Tb (i := 0) rfl rfl rfl rfl rfl (fun w hw => Lay.at_ hz2 hw) rfl rfl rfl rfl hll74 (by decide) rfl rfl (fun a74 c74 F74 => kk_wl ?_))
            refine wl_u rfl (ow_y (yh_move rfl rfl) rfl rfl (kk_wl ?_))
            refine wl_u rfl (ow_lit1 Tb rfl rfl rfl rfl rfl rfl rfl rfl rfl rfl (fun g76 => kk_chg (c' := owC intsL [g76] [.slice (some ⟨g76, 0, none⟩) 1 1] ([x18.2.1] : List Int)) 0 rfl (fun w hA => own_intsL ([x18.2.1] : List Int) hA rfl (by simp [maxLen])) rfl (kk_wl ?_)))
            obtain ⟨hll77, h⟩ := bd_appd h
            refine wl_u rfl (ow_appP Tb (i := 1) rfl rfl rfl rfl rfl (fun w hw => rdo (A := intsL) 0 rfl hw) rfl rfl rfl rfl hll77 (by decide) rfl rfl (fun a77 c77 F77 => kk_wl ?_))
            obtain ⟨x78, hx78, h⟩ := bd h
            refine wl_u rfl (ow_cN1 rfl hb22 rfl (fun w hw => c_impl_RegistryDrop N _ _ _ _ hx78 w (Lay.at_ hz1 hw) (rdo (A := intsL) 0 rfl hw)) rfl rfl (fun a78 c78 F78 => kk_wl ?_))
            refine wl_u rfl (ow_y (yh_move rfl rfl) rfl rfl (kk_wl ?_))
            refine wl_u rfl (ow_y (yh_extract rfl rfl rfl) rfl rfl (kk_wl ?_))
            refine wl_u rfl (ow_y (yh_extract rfl rfl rfl) rfl rfl (kk_wl ?_))
            refine wl_u rfl (ow_y (yh_assign rfl rfl) rfl rfl (kk_wl ?_))
            refine wl_u rfl (ow_y (yh_assign rfl rfl) rfl rfl (kk_wl ?_))
            refine wl_nil ?_
            refine ex_seq ?_
            refine cw_seq ?_
            refine cw_freeze 0 rfl (fun w5 M5 hb5_ hz5 => ?_)
            replace h_u0 := Lay.rb h_u0 hb5_
            replace hz1 := Lay.rb hz1 hb5_
            replace hz2 := Lay.rb hz2 hb5_
            replace hz3 := Lay.rb hz3 hb5_
            replace hz4 := Lay.rb hz4 hb5_
            have hB5 := hB4.trans hb5_
            have mz5 := rd_max hz5
            refine cw_region ?_
            refine wl_u rfl (ow_y (yh_move rfl rfl) rfl rfl (kk_wl ?_))
            refine wl_u rfl (ow_y (yh_not rfl rfl) rfl rfl (kk_wl ?_))
            refine wl_u rfl (ow_y (yh_assign rfl rfl) rfl rfl (kk_wl ?_))
            refine wl_nil ?_
            refine ex_seq ?_
            refine cw_ret ?_
            obtain rfl := Option.some.inj h
            exact ex_r1 Tb rfl (.tmp rfl) (fun wq hq => ⟨_, rfl, (hB5.back hq).ext, rfl⟩)

end Go.Proofs.Ytlcckcifnpjbpaa
