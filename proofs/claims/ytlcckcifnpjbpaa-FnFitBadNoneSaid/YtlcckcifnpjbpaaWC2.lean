/- Mirrors and contracts, printed by a program: what each function computes as a plain term, and that it does. -/
import Derived.Test.YtlcckcifnpjbpaaR
import Derived.Test.YtlcckcifnpjbpaaC
import Derived.Test.YtlcckcifnpjbpaaWC0
import Derived.Test.YtlcckcifnpjbpaaWC1
set_option linter.all false
set_option maxRecDepth 100000
namespace Go.Proofs.Ytlcckcifnpjbpaa
open Go.RowKit

def m_spec_l3Order_L5 (N : Nat) (steps : List Step) (done : List Str) : Nat → Nat → Option (Ex (Nat) (Bool))
  | 0, _ => none
  | n + 1, s5 => (bif ltb ((s5 : Nat) : Int) ((done.length : Nat) : Int) then (done[s5]?).bind fun y16 => (m_spec_l2At N steps y16).bind fun x18 => (bif ltb x18 0 then some (Ex.ret false)
 else (m_spec_l1At N done y16).bind fun x27 => (bif ltb x27 ((s5 : Nat) : Int) then some (Ex.ret false)
 else (slTo done ((s5 : Nat) : Int)).bind fun l34 => (geti steps x18).bind fun y37 => (m_spec_l1Have N l34 y37.after).bind fun x40 => (bif !x40 then some (Ex.ret false)
 else m_spec_l3Order_L5 N steps done n (s5 + 1))))
 else some (Ex.brk (s5)))

def m_spec_l3Order (N : Nat) (steps : List Step) (done : List Str) : Option (Bool) := (m_spec_l3Order_L5 N steps done N 0).bind fun e5 => e5.go (fun r => r) fun b5 => some true

set_option maxHeartbeats 4000000 in
theorem c_spec_l3Order (N : Nat) (steps : List Step) (done : List Str) (res : Bool) (h : m_spec_l3Order N steps done = some res) (w : World) {a_done a_steps : Option Addr} {c_done c_steps : Nat} (h_steps : stepsL.rd w [] [.slice a_steps steps.length c_steps] steps) (h_done : strsL.rd w [] [.slice a_done done.length c_done] done) : Ret Try.prog 90 [.slice a_steps steps.length c_steps, .slice a_done done.length c_done] w [] fun v w' => v = .bool res := by
  have mh_steps := rd_max h_steps
  have mh_done := rd_max h_done
  unfold m_spec_l3Order at h
  refine ret_enter Try.func90 rfl Try.ntmps90 rfl (Hp.refl w _) ?_
  refine cw_seq ?_
  refine cw_region ?_
  refine wl_u rfl (ow_y (yh_assign rfl rfl) rfl rfl (kk_wl ?_))
  refine wl_nil ?_
  refine ex_seq ?_
  refine cw_seq ?_
  refine cw_seq ?_
  refine cw_region ?_
  refine wl_u rfl (ow_y (yh_assign rfl rfl) rfl rfl (kk_wl ?_))
  refine wl_nil ?_
  refine ex_seq ?_
  refine cw_block ?_
  obtain ⟨e5, he5, hk5⟩ := bd h
  clear h
  refine cw_loopG (σ := Nat × Nat) (fun s => m_spec_l3Order_L5 N steps done s.1 s.2 = some e5) (fun s => [(0, .slice a_steps steps.length c_steps), (1, .slice a_done done.length c_done), (5, .int .i64 ((s.2 : Nat) : Int))]) (fun s => []) (fun s => s.1) (N, 0) [] he5 ⟨rfl, rfl, rfl, trivial⟩ rfl (fun KL s he5 hn5 => ?_)
  obtain ⟨n5, s5⟩ := s
  simp only at he5 hn5 ⊢
  rcases n5 with _ | n5
  · exact nosome he5
  have h := he5; rw [m_spec_l3Order_L5] at h
  refine cw_seq ?_
  refine cw_seq ?_
  refine cw_region ?_
  refine wl_u rfl (ow_y (yh_move rfl rfl) rfl rfl (kk_wl ?_))
  refine wl_u rfl (ow_y (yh_move rfl rfl) rfl rfl (kk_wl ?_))
  refine wl_u rfl (ow_y (yh_lenS Tb rfl rfl rfl rfl) rfl rfl (kk_wl ?_))
  refine wl_u rfl (ow_y (yh_cmpI rfl rfl rfl rfl) rfl rfl (kk_wl ?_))
  refine wl_nil ?_
  refine ex_seq ?_
  refine cw_split rfl (fun c1 => ?_) (fun c1 => ?_)
  · skip
    replace h := bt c1 h
    have q1 := ltb_true.1 c1
    refine cw_skip ?_
    refine ex_seq ?_
    refine cw_seq ?_
    refine cw_block ?_
    refine cw_seq ?_
    refine cw_region ?_
    refine wl_u rfl (ow_y (yh_move rfl rfl) rfl rfl (kk_wl ?_))
    refine wl_u rfl (ow_y (yh_move rfl rfl) rfl rfl (kk_wl ?_))
    refine wl_u rfl (ow_y (yh_move rfl rfl) rfl rfl (kk_wl ?_))
    obtain ⟨y16, hy16, h⟩ := bd h
    obtain ⟨b16, o16, ha16⟩ := sl_addr h_done hy16
    subst ha16
    have hc16 := get_str h_done hy16
    refine wl_u rfl (ow_y (yh_idx Tb (k := s5) rfl rfl rfl rfl (get_lt hy16) rfl rfl) rfl rfl (kk_wl ?_))
    refine wl_u rfl (ow_y (yh_loadA0 Tb rfl rfl rfl hc16 rfl) rfl rfl (kk_wl ?_))
    obtain ⟨x18, hx18, h⟩ := bd h
    refine wl_u rfl (ow_cV rfl hb80 rfl (fun w hw => c_spec_l2At N _ _ _ hx18 w (Lay.at_ h_steps hw)) rfl rfl (kk_wl ?_))
    refine wl_u rfl (ow_y (yh_assign rfl rfl) rfl rfl (kk_wl ?_))
    refine wl_nil ?_
    refine ex_seq ?_
    refine cw_seq ?_
    refine cw_dr [0, 1, 2, 3, 4, 5, 6, 7, 9, 10, 11, 12, 13, 14, 15, 16, 17, 18, 19, 20, 22, 23] [] [] (by kernel_rfl) ?_
    refine wd_take (i := 0) [] rfl rfl rfl rfl rfl (by kernel_rfl) rfl (fun _ _ _ _ h => h) (yh_move rfl rfl) ?_
    refine wd_take (i := 1) [] rfl rfl rfl rfl rfl (by kernel_rfl) rfl (fun _ _ _ _ h => h) (yh_cmpI rfl rfl rfl rfl) ?_
    refine wd_take (i := 2) [] rfl rfl rfl rfl rfl (by kernel_rfl) rfl (fun _ _ _ _ h => h) (yh_move rfl rfl) ?_
    refine wd_split 3 rfl rfl rfl (fun c2 => ?_) (fun c2 => ?_)
    · skip
      replace h := bt c2 h
      have q2 := ltb_true.1 c2
      refine wd_skip (i := 3) [] rfl rfl rfl rfl (by kernel_rfl) rfl (fun _ _ _ h => h) ?_
      refine wd_skip (i := 4) [] rfl rfl rfl rfl (by kernel_rfl) rfl (fun _ _ _ h => h) ?_
      refine wd_skip (i := 5) [] rfl rfl rfl rfl (by kernel_rfl) rfl (fun _ _ _ h => h) ?_
      refine wd_skip (i := 6) [] rfl rfl rfl rfl (by kernel_rfl) rfl (fun _ _ _ h => h) ?_
      refine wd_skip (i := 7) [] rfl rfl rfl rfl (by kernel_rfl) rfl (fun _ _ _ h => h) ?_
      refine wd_skip (i := 9) [] rfl rfl rfl rfl (by kernel_rfl) rfl (fun _ _ _ h => h) ?_
      refine wd_offD 8 rfl rfl rfl rfl (by kernel_rfl) [] (fun _ => rfl) ?_
      refine wd_skip (i := 10) [] rfl rfl rfl rfl (by kernel_rfl) rfl (fun _ _ _ h => h) ?_
      refine wd_take (i := 11) [] rfl rfl rfl rfl rfl (by kernel_rfl) rfl (fun _ _ _ _ h => h) (yh_pickT rfl rfl rfl) ?_
      refine wd_take (i := 12) [] rfl rfl rfl rfl rfl (by kernel_rfl) rfl (fun _ _ _ _ h => h) (yh_move rfl rfl) ?_
      refine wd_split 13 rfl rfl rfl (fun _ => ?_) nofun
      refine wd_skip (i := 13) [] rfl rfl rfl rfl (by kernel_rfl) rfl (fun _ _ _ h => h) ?_
      refine wd_skip (i := 14) [] rfl rfl rfl rfl (by kernel_rfl) rfl (fun _ _ _ h => h) ?_
      refine wd_skip (i := 15) [] rfl rfl rfl rfl (by kernel_rfl) rfl (fun _ _ _ h => h) ?_
      refine wd_skip (i := 16) [] rfl rfl rfl rfl (by kernel_rfl) rfl (fun _ _ _ h => h) ?_
      refine wd_skip (i := 17) [] rfl rfl rfl rfl (by kernel_rfl) rfl (fun _ _ _ h => h) ?_
      refine wd_skip (i := 18) [] rfl rfl rfl rfl (by kernel_rfl) rfl (fun _ _ _ h => h) ?_
      refine wd_skip (i := 19) [] rfl rfl rfl rfl (by kernel_rfl) rfl (fun _ _ _ h => h) ?_
      refine wd_skip (i := 20) [] rfl rfl rfl rfl (by kernel_rfl) rfl (fun _ _ _ h => h) ?_
      refine wd_offD 21 rfl rfl rfl rfl (by kernel_rfl) [] (fun _ => rfl) ?_
      refine wd_skip (i := 22) [] rfl rfl rfl rfl (by kernel_rfl) rfl (fun _ _ _ h => h) ?_
      refine wd_take (i := 23) [] rfl rfl rfl rfl rfl (by kernel_rfl) rfl (fun _ _ _ _ h => h) (yh_pickT rfl rfl rfl) ?_
      refine wd_done (by kernel_rfl) ?_
      refine ex_seq ?_
      refine cw_true rfl ?_
      refine cw_seq ?_
      refine cw_region ?_
      refine wl_u rfl (ow_y (yh_assign rfl rfl) rfl rfl (kk_wl ?_))
      refine wl_nil ?_
      refine ex_seq ?_
      refine cw_ret ?_
      refine ex_block_ret ?_
      refine ex_then_ret ?_
      refine ex_then_ret ?_
      refine ex_block_ret ?_
      refine ex_then_ret ?_
      obtain rfl := Option.some.inj h
      obtain rfl := go_ret hk5
      exact ex_r1 Tb rfl (.tmp rfl) (fun wq hq => ⟨_, rfl, hq.ext, rfl⟩)
    · skip
      replace h := bf c2 h
      have q3 := ltb_false.1 c2
      refine wd_take (i := 3) [] rfl rfl rfl rfl rfl (by kernel_rfl) rfl (fun _ _ _ _ h => h) (yh_move rfl rfl) ?_
      refine wd_take (i := 4) [] rfl rfl rfl rfl rfl (by kernel_rfl) rfl (fun _ _ _ _ h => h) (yh_move rfl rfl) ?_
      refine wd_take (i := 5) [] rfl rfl rfl rfl rfl (by kernel_rfl) rfl (fun _ _ _ _ h => h) (yh_move rfl rfl) ?_
      refine wd_take (i := 6) [] rfl rfl rfl rfl rfl (by kernel_rfl) rfl (fun _ _ _ _ h => h) (yh_idx Tb (k := s5) rfl rfl rfl rfl (get_lt hy16) rfl rfl) ?_
      refine wd_take (i := 7) [] rfl rfl rfl rfl rfl (by kernel_rfl) rfl (fun _ _ _ _ h => h) (yh_loadA0 Tb rfl rfl rfl hc16 rfl) ?_
      refine wd_take (i := 9) [] rfl rfl rfl rfl rfl (by kernel_rfl) rfl (fun _ _ _ _ h => h) (yh_move rfl rfl) ?_
      obtain ⟨x27, hx27, h⟩ := bd h
      refine wd_one 8 rfl rfl (by kernel_rfl) (ow_cV rfl hb119 rfl (fun w hw => c_spec_l1At N _ _ _ hx27 w (Lay.at_ h_done hw)) rfl rfl (kk_wd [] rfl ?_))
      refine wd_take (i := 10) [] rfl rfl rfl rfl rfl (by kernel_rfl) rfl (fun _ _ _ _ h => h) (yh_cmpI rfl rfl rfl rfl) ?_
      refine wd_take (i := 11) [] rfl rfl rfl rfl rfl (by kernel_rfl) rfl (fun _ _ _ _ h => h) (yh_pickF rfl rfl rfl) ?_
      refine wd_take (i := 12) [] rfl rfl rfl rfl rfl (by kernel_rfl) rfl (fun _ _ _ _ h => h) (yh_move rfl rfl) ?_
      refine wd_split 13 rfl rfl rfl (fun c3 => ?_) (fun c3 => ?_)
      · skip
        replace h := bt c3 h
        have q4 := ltb_true.1 c3
        refine wd_skip (i := 13) [] rfl rfl rfl rfl (by kernel_rfl) rfl (fun _ _ _ h => h) ?_
        refine wd_skip (i := 14) [] rfl rfl rfl rfl (by kernel_rfl) rfl (fun _ _ _ h => h) ?_
        refine wd_skip (i := 15) [] rfl rfl rfl rfl (by kernel_rfl) rfl (fun _ _ _ h => h) ?_
        refine wd_skip (i := 16) [] rfl rfl rfl rfl (by kernel_rfl) rfl (fun _ _ _ h => h) ?_
        refine wd_skip (i := 17) [] rfl rfl rfl rfl (by kernel_rfl) rfl (fun _ _ _ h => h) ?_
        refine wd_skip (i := 18) [] rfl rfl rfl rfl (by kernel_rfl) rfl (fun _ _ _ h => h) ?_
        refine wd_skip (i := 19) [] rfl rfl rfl rfl (by kernel_rfl) rfl (fun _ _ _ h => h) ?_
        refine wd_skip (i := 20) [] rfl rfl rfl rfl (by kernel_rfl) rfl (fun _ _ _ h => h) ?_
        refine wd_offD 21 rfl rfl rfl rfl (by kernel_rfl) [] (fun _ => rfl) ?_
        refine wd_skip (i := 22) [] rfl rfl rfl rfl (by kernel_rfl) rfl (fun _ _ _ h => h) ?_
        refine wd_take (i := 23) [] rfl rfl rfl rfl rfl (by kernel_rfl) rfl (fun _ _ _ _ h => h) (yh_pickT rfl rfl rfl) ?_
        refine wd_done (by kernel_rfl) ?_
        refine ex_seq ?_
        refine cw_true rfl ?_
        refine cw_seq ?_
        refine cw_region ?_
        refine wl_u rfl (ow_y (yh_assign rfl rfl) rfl rfl (kk_wl ?_))
        refine wl_nil ?_
        refine ex_seq ?_
        refine cw_ret ?_
        refine ex_block_ret ?_
        refine ex_then_ret ?_
        refine ex_then_ret ?_
        refine ex_block_ret ?_
        refine ex_then_ret ?_
        obtain rfl := Option.some.inj h
        obtain rfl := go_ret hk5
        exact ex_r1 Tb rfl (.tmp rfl) (fun wq hq => ⟨_, rfl, hq.ext, rfl⟩)
      · skip
        replace h := bf c3 h
        have q5 := ltb_false.1 c3
        refine wd_take (i := 13) [] rfl rfl rfl rfl rfl (by kernel_rfl) rfl (fun _ _ _ _ h => h) (yh_move rfl rfl) ?_
        refine wd_take (i := 14) [] rfl rfl rfl rfl rfl (by kernel_rfl) rfl (fun _ _ _ _ h => h) (yh_move rfl rfl) ?_
        obtain ⟨l34, zl34, h⟩ := bd h
        obtain ⟨il34, jl34⟩ := slTo_K zl34
        have hf34 := sl_takeK h_done zl34
        have mx34 := rd_max hf34
        refine wd_take (i := 15) [] rfl rfl rfl rfl rfl (by kernel_rfl) rfl (fun _ _ _ _ h => h) (yh_sliceH Tb (k := l34.length) rfl rfl rfl il34 (Nat.le_trans jl34 (rd_cap h_done)) rfl rfl) ?_
        refine wd_take (i := 16) [] rfl rfl rfl rfl rfl (by kernel_rfl) rfl (fun _ _ _ _ h => h) (yh_move rfl rfl) ?_
        refine wd_take (i := 17) [] rfl rfl rfl rfl rfl (by kernel_rfl) rfl (fun _ _ _ _ h => h) (yh_move rfl rfl) ?_
        obtain ⟨y37, zy37, h⟩ := bd h
        obtain ⟨iy37, hy37⟩ := geti_some zy37
        obtain ⟨b37, o37, ha37⟩ := sl_addr h_steps hy37
        subst ha37
        obtain ⟨a37, e37, hc37, hf37⟩ := get_step h_steps hy37
        have mx37 := rd_max hf37
        refine wd_take (i := 18) [] rfl rfl rfl rfl rfl (by kernel_rfl) rfl (fun _ _ _ _ h => h) (yh_idx Tb (k := x18.toNat) rfl rfl rfl iy37 (get_lt hy37) rfl rfl) ?_
        refine wd_take (i := 19) [] rfl rfl rfl rfl rfl (by kernel_rfl) rfl (fun _ _ _ _ h => h) (yh_field Tb rfl rfl rfl) ?_
        refine wd_take (i := 20) [] rfl rfl rfl rfl rfl (by kernel_rfl) rfl (fun _ _ _ _ h => h) (yh_loadAF Tb (j := 1) rfl rfl rfl hc37 rfl) ?_
        obtain ⟨x40, hx40, h⟩ := bd h
        refine wd_one 21 rfl rfl (by kernel_rfl) (ow_cV rfl hb126 rfl (fun w hw => c_spec_l1Have N _ _ _ hx40 w (Lay.at_ hf34 hw) (Lay.at_ hf37 hw)) rfl rfl (kk_wd [] rfl ?_))
        refine wd_take (i := 22) [] rfl rfl rfl rfl rfl (by kernel_rfl) rfl (fun _ _ _ _ h => h) (yh_not rfl rfl) ?_
        refine wd_take (i := 23) [] rfl rfl rfl rfl rfl (by kernel_rfl) rfl (fun _ _ _ _ h => h) (yh_pickF rfl rfl rfl) ?_
        refine wd_done (by kernel_rfl) ?_
        refine ex_seq ?_
        refine cw_split rfl (fun c4 => ?_) (fun c4 => ?_)
        · skip
          replace h := bt c4 h
          refine cw_seq ?_
          refine cw_region ?_
          refine wl_u rfl (ow_y (yh_assign rfl rfl) rfl rfl (kk_wl ?_))
          refine wl_nil ?_
          refine ex_seq ?_
          refine cw_ret ?_
          refine ex_block_ret ?_
          refine ex_then_ret ?_
          refine ex_then_ret ?_
          refine ex_block_ret ?_
          refine ex_then_ret ?_
          obtain rfl := Option.some.inj h
          obtain rfl := go_ret hk5
          exact ex_r1 Tb rfl (.tmp rfl) (fun wq hq => ⟨_, rfl, hq.ext, rfl⟩)
        · skip
          replace h := bf c4 h
          refine cw_skip ?_
          refine ex_block_normal ?_
          refine ex_seq ?_
          refine cw_region ?_
          refine wl_u rfl (ow_y (yh_move rfl rfl) rfl rfl (kk_wl ?_))
          refine wl_u rfl (ow_y (yh_arI rfl rfl rfl rfl (by omega)) rfl rfl (kk_wl ?_))
          refine wl_u rfl (ow_y (yh_assign rfl rfl) rfl rfl (kk_wl ?_))
          refine wl_nil ?_
          exact ex_next [] (hn5 (n5, s5 + 1) (Nat.lt_succ_self _) h) ⟨rfl, rfl, rfl, trivial⟩ rfl
  · skip
    replace h := bf c1 h
    have q6 := ltb_false.1 c1
    refine cw_exit ?_
    refine ex_then_exit ?_
    refine ex_then_exit ?_
    obtain rfl := Option.some.inj h
    have h := go_brk hk5
    refine ex_block_exit ?_
    refine ex_seq ?_
    refine cw_seq ?_
    refine cw_region ?_
    refine wl_u rfl (ow_y (yh_assign rfl rfl) rfl rfl (kk_wl ?_))
    refine wl_nil ?_
    refine ex_seq ?_
    refine cw_ret ?_
    obtain rfl := Option.some.inj h
    exact ex_r1 Tb rfl (.tmp rfl) (fun wq hq => ⟨_, rfl, hq.ext, rfl⟩)

def m_spec_l3Left_L4 (N : Nat) (steps : List Step) (done : List Str) : Nat → Int → Option (Ex (Int) (Int))
  | 0, _ => none
  | n + 1, s5 => (bif ltb 0 s5 then (geti done (w64 (s5 - 1))).bind fun y16 => (m_spec_l2At N steps y16).bind fun x18 => (geti steps x18).bind fun y19 => (bif y19.undo then m_spec_l3Left_L4 N steps done n (w64 (s5 - 1))
 else some (Ex.brk (s5)))
 else some (Ex.brk (s5)))

def m_spec_l3Left (N : Nat) (steps : List Step) (done : List Str) : Option (Int) := (m_spec_l3Left_L4 N steps done N done.length).bind fun e4 => e4.go (fun r => r) fun b4 => some b4

set_option maxHeartbeats 4000000 in
theorem c_spec_l3Left (N : Nat) (steps : List Step) (done : List Str) (res : Int) (h : m_spec_l3Left N steps done = some res) (w : World) {a_done a_steps : Option Addr} {c_done c_steps : Nat} (h_steps : stepsL.rd w [] [.slice a_steps steps.length c_steps] steps) (h_done : strsL.rd w [] [.slice a_done done.length c_done] done) : Ret Try.prog 125 [.slice a_steps steps.length c_steps, .slice a_done done.length c_done] w [] fun v w' => v = .int .i64 res := by
  have mh_steps := rd_max h_steps
  have mh_done := rd_max h_done
  unfold m_spec_l3Left at h
  refine ret_enter Try.func125 rfl Try.ntmps125 rfl (Hp.refl w _) ?_
  refine cw_seq ?_
  refine cw_region ?_
  refine wl_u rfl (ow_y (yh_assign rfl rfl) rfl rfl (kk_wl ?_))
  refine wl_nil ?_
  refine ex_seq ?_
  refine cw_seq ?_
  refine cw_region ?_
  refine wl_u rfl (ow_y (yh_move rfl rfl) rfl rfl (kk_wl ?_))
  refine wl_u rfl (ow_y (yh_lenS Tb rfl rfl rfl rfl) rfl rfl (kk_wl ?_))
  refine wl_u rfl (ow_y (yh_assign rfl rfl) rfl rfl (kk_wl ?_))
  refine wl_nil ?_
  refine ex_seq ?_
  refine cw_seq ?_
  refine cw_block ?_
  obtain ⟨e4, he4, hk4⟩ := bd h
  clear h
  refine cw_loopG (σ := Nat × Int) (fun s => m_spec_l3Left_L4 N steps done s.1 s.2 = some e4) (fun s => [(0, .slice a_steps steps.length c_steps), (1, .slice a_done done.length c_done), (5, .int .i64 s.2)]) (fun s => []) (fun s => s.1) (N, done.length) [] he4 ⟨rfl, rfl, rfl, trivial⟩ rfl (fun KL s he4 hn4 => ?_)
  obtain ⟨n4, s5⟩ := s
  simp only at he4 hn4 ⊢
  rcases n4 with _ | n4
  · exact nosome he4
  have h := he4; rw [m_spec_l3Left_L4] at h
  refine cw_seq ?_
  refine cw_seq ?_
  refine cw_region ?_
  refine wl_u rfl (ow_y (yh_move rfl rfl) rfl rfl (kk_wl ?_))
  refine wl_u rfl (ow_y (yh_cmpI rfl rfl rfl rfl) rfl rfl (kk_wl ?_))
  refine wl_u rfl (ow_y (yh_move rfl rfl) rfl rfl (kk_wl ?_))
  refine wl_s rfl rfl (fun c1 => ?_) (fun c1 => ?_)
  · skip
    replace h := bt c1 h
    have q1 := ltb_true.1 c1
    refine wl_g rfl rfl (ow_y (yh_move rfl rfl) rfl rfl (kk_wl ?_))
    refine wl_g rfl rfl (ow_y (yh_move rfl rfl) rfl rfl (kk_wl ?_))
    refine wl_g rfl rfl (ow_y (yh_move rfl rfl) rfl rfl (kk_wl ?_))
    refine wl_g rfl rfl (ow_y (yh_move rfl rfl) rfl rfl (kk_wl ?_))
    refine wl_g rfl rfl (ow_y (yh_arW rfl rfl rfl rfl) rfl rfl (kk_wl ?_))
    obtain ⟨y16, zy16, h⟩ := bd h
    obtain ⟨iy16, hy16⟩ := geti_some zy16
    obtain ⟨b16, o16, ha16⟩ := sl_addr h_done hy16
    subst ha16
    have hc16 := get_str h_done hy16
    refine wl_g rfl rfl (ow_y (yh_idx Tb (k := (w64 (s5 - 1)).toNat) rfl rfl rfl iy16 (get_lt hy16) rfl rfl) rfl rfl (kk_wl ?_))
    refine wl_g rfl rfl (ow_y (yh_loadA0 Tb rfl rfl rfl hc16 rfl) rfl rfl (kk_wl ?_))
    obtain ⟨x18, hx18, h⟩ := bd h
    refine wl_g rfl rfl (ow_cV rfl hb80 rfl (fun w hw => c_spec_l2At N _ _ _ hx18 w (Lay.at_ h_steps hw)) rfl rfl (kk_wl ?_))
    obtain ⟨y19, zy19, h⟩ := bd h
    obtain ⟨iy19, hy19⟩ := geti_some zy19
    obtain ⟨b19, o19, ha19⟩ := sl_addr h_steps hy19
    subst ha19
    obtain ⟨a19, e19, hc19, hf19⟩ := get_step h_steps hy19
    have mx19 := rd_max hf19
    refine wl_g rfl rfl (ow_y (yh_idx Tb (k := x18.toNat) rfl rfl rfl iy19 (get_lt hy19) rfl rfl) rfl rfl (kk_wl ?_))
    refine wl_g rfl rfl (ow_y (yh_field Tb rfl rfl rfl) rfl rfl (kk_wl ?_))
    refine wl_g rfl rfl (ow_y (yh_loadAF Tb (j := 2) rfl rfl rfl hc19 rfl) rfl rfl (kk_wl ?_))
    refine wl_u rfl (ow_y (yh_pickT rfl rfl rfl) rfl rfl (kk_wl ?_))
    refine wl_nil ?_
    refine ex_seq ?_
    refine cw_split rfl (fun c2 => ?_) (fun c2 => ?_)
    · skip
      replace h := bt c2 h
      refine cw_skip ?_
      refine ex_seq ?_
      refine cw_block ?_
      refine cw_region ?_
      refine wl_u rfl (ow_y (yh_move rfl rfl) rfl rfl (kk_wl ?_))
      refine wl_u rfl (ow_y (yh_arW rfl rfl rfl rfl) rfl rfl (kk_wl ?_))
      refine wl_u rfl (ow_y (yh_assign rfl rfl) rfl rfl (kk_wl ?_))
      refine wl_nil ?_
      refine ex_block_normal ?_
      exact ex_next [] (hn4 (n4, w64 (s5 - 1)) (Nat.lt_succ_self _) h) ⟨rfl, rfl, rfl, trivial⟩ rfl
    · skip
      replace h := bf c2 h
      refine cw_exit ?_
      refine ex_then_exit ?_
      refine ex_then_exit ?_
      obtain rfl := Option.some.inj h
      have h := go_brk hk4
      refine ex_block_exit ?_
      refine ex_seq ?_
      refine cw_seq ?_
      refine cw_region ?_
      refine wl_u rfl (ow_y (yh_move rfl rfl) rfl rfl (kk_wl ?_))
      refine wl_u rfl (ow_y (yh_assign rfl rfl) rfl rfl (kk_wl ?_))
      refine wl_nil ?_
      refine ex_seq ?_
      refine cw_ret ?_
      obtain rfl := Option.some.inj h
      exact ex_r1 Tb rfl (.tmp rfl) (fun wq hq => ⟨_, rfl, hq.ext, rfl⟩)
  · skip
    replace h := bf c1 h
    have q2 := ltb_false.1 c1
    refine wl_n rfl rfl rfl rfl ?_
    refine wl_n rfl rfl rfl rfl ?_
    refine wl_n rfl rfl rfl rfl ?_
    refine wl_n rfl rfl rfl rfl ?_
    refine wl_n rfl rfl rfl rfl ?_
    refine wl_n rfl rfl rfl rfl ?_
    refine wl_n rfl rfl rfl rfl ?_
    refine wl_n rfl rfl rfl rfl ?_
    refine wl_n rfl rfl rfl rfl ?_
    refine wl_n rfl rfl rfl rfl ?_
    refine wl_n rfl rfl rfl rfl ?_
    refine wl_u rfl (ow_y (yh_pickF rfl rfl rfl) rfl rfl (kk_wl ?_))
    refine wl_nil ?_
    refine ex_seq ?_
    refine cw_false rfl ?_
    refine cw_exit ?_
    refine ex_then_exit ?_
    refine ex_then_exit ?_
    obtain rfl := Option.some.inj h
    have h := go_brk hk4
    refine ex_block_exit ?_
    refine ex_seq ?_
    refine cw_seq ?_
    refine cw_region ?_
    refine wl_u rfl (ow_y (yh_move rfl rfl) rfl rfl (kk_wl ?_))
    refine wl_u rfl (ow_y (yh_assign rfl rfl) rfl rfl (kk_wl ?_))
    refine wl_nil ?_
    refine ex_seq ?_
    refine cw_ret ?_
    obtain rfl := Option.some.inj h
    exact ex_r1 Tb rfl (.tmp rfl) (fun wq hq => ⟨_, rfl, hq.ext, rfl⟩)

def m_spec_RunValid (N : Nat) (u0 : Flow) (u1 : Run) : Option (Bool) := (m_spec_FlowValid N u0).bind fun x6 => (bif !x6 then some false
 else (m_spec_l3Order N u0.steps u1.done).bind fun x13 => (bif !x13 then some false
 else (bif eqb u1.state 0 then some (ltb ((u1.done.length : Nat) : Int) ((u0.steps.length : Nat) : Int))
 else (bif eqb u1.state 2 then some (eqb ((u1.done.length : Nat) : Int) ((u0.steps.length : Nat) : Int))
 else (bif eqb u1.state 1 then (bif ltb ((u1.done.length : Nat) : Int) ((u0.steps.length : Nat) : Int) then (m_spec_l3Left N u0.steps u1.done).bind fun x50 => some (ltb x50 ((u1.done.length : Nat) : Int))
 else some false)
 else (bif eqb u1.state 3 then (bif ltb ((u1.done.length : Nat) : Int) ((u0.steps.length : Nat) : Int) then (m_spec_l3Left N u0.steps u1.done).bind fun x70 => some (eqb x70 ((u1.done.length : Nat) : Int))
 else some false)
 else some false))))))

set_option maxHeartbeats 4000000 in
theorem c_spec_RunValid (N : Nat) (u0 : Flow) (u1 : Run) (res : Bool) (h : m_spec_RunValid N u0 u1 = some res) (w : World) {a_u0_steps a_u1_done : Option Addr} {c_u0_steps c_u1_done : Nat} (h_u0_steps : stepsL.rd w [] [.slice a_u0_steps u0.steps.length c_u0_steps] u0.steps) (h_u1_done : strsL.rd w [] [.slice a_u1_done u1.done.length c_u1_done] u1.done) : Ret Try.prog 89 [.agg #[.int .i64 u0.ver, .slice a_u0_steps u0.steps.length c_u0_steps], .agg #[.int .i64 u1.state, .slice a_u1_done u1.done.length c_u1_done]] w [] fun v w' => v = .bool res := by
  have mh_u0_steps := rd_max h_u0_steps
  have mh_u1_done := rd_max h_u1_done
  unfold m_spec_RunValid at h
  refine ret_enter Try.func89 rfl Try.ntmps89 rfl (Hp.refl w _) ?_
  refine cw_seq ?_
  refine cw_region ?_
  refine wl_u rfl (ow_boxA rfl rfl rfl rfl (fun g2 => kk_wl ?_))
  refine wl_u rfl (ow_boxA rfl rfl rfl rfl (fun g3 => kk_wl ?_))
  refine wl_u rfl (ow_y (yh_assign rfl rfl) rfl rfl (kk_wl ?_))
  refine wl_nil ?_
  refine ex_seq ?_
  refine cw_seq ?_
  refine cw_seq ?_
  refine cw_region ?_
  refine wl_u rfl (ow_y (yh_loadBA Tb (k := 1) rfl rfl rfl rfl rfl rfl) rfl rfl (kk_wl ?_))
  obtain ⟨x6, hx6, h⟩ := bd h
  refine wl_u rfl (ow_cV rfl hb28 rfl (fun w hw => c_spec_FlowValid N _ _ hx6 w (Lay.at_ h_u0_steps hw)) rfl rfl (kk_wl ?_))
  refine wl_u rfl (ow_y (yh_not rfl rfl) rfl rfl (kk_wl ?_))
  refine wl_u rfl (ow_y (yh_move rfl rfl) rfl rfl (kk_wl ?_))
  refine wl_s rfl rfl (fun c1 => ?_) (fun c1 => ?_)
  · skip
    replace h := bt c1 h
    refine wl_n rfl rfl rfl rfl ?_
    refine wl_n rfl rfl rfl rfl ?_
    refine wl_n rfl rfl rfl rfl ?_
    refine wl_n rfl rfl rfl rfl ?_
    refine wl_n rfl rfl rfl rfl ?_
    refine wl_n rfl rfl rfl rfl ?_
    refine wl_u rfl (ow_y (yh_pickT rfl rfl rfl) rfl rfl (kk_wl ?_))
    refine wl_nil ?_
    refine ex_seq ?_
    refine cw_true rfl ?_
    refine cw_seq ?_
    refine cw_region ?_
    refine wl_u rfl (ow_y (yh_assign rfl rfl) rfl rfl (kk_wl ?_))
    refine wl_nil ?_
    refine ex_seq ?_
    refine cw_ret ?_
    refine ex_then_ret ?_
    obtain rfl := Option.some.inj h
    exact ex_r1 Tb rfl (.tmp rfl) (fun wq hq => ⟨_, rfl, hq.ext, rfl⟩)
  · skip
    replace h := bf c1 h
    refine wl_g rfl rfl (ow_y (yh_field Tb rfl rfl rfl) rfl rfl (kk_wl ?_))
    refine wl_g rfl rfl (ow_y (yh_loadB Tb (k := 1) rfl rfl rfl rfl rfl) rfl rfl (kk_wl ?_))
    refine wl_g rfl rfl (ow_y (yh_field Tb rfl rfl rfl) rfl rfl (kk_wl ?_))
    refine wl_g rfl rfl (ow_y (yh_loadB Tb (k := 0) rfl rfl rfl rfl rfl) rfl rfl (kk_wl ?_))
    obtain ⟨x13, hx13, h⟩ := bd h
    refine wl_g rfl rfl (ow_cV rfl hb90 rfl (fun w hw => c_spec_l3Order N _ _ _ hx13 w (Lay.at_ h_u0_steps hw) (Lay.at_ h_u1_done hw)) rfl rfl (kk_wl ?_))
    refine wl_g rfl rfl (ow_y (yh_not rfl rfl) rfl rfl (kk_wl ?_))
    refine wl_u rfl (ow_y (yh_pickF rfl rfl rfl) rfl rfl (kk_wl ?_))
    refine wl_nil ?_
    refine ex_seq ?_
    refine cw_split rfl (fun c2 => ?_) (fun c2 => ?_)
    · skip
      replace h := bt c2 h
      refine cw_seq ?_
      refine cw_region ?_
      refine wl_u rfl (ow_y (yh_assign rfl rfl) rfl rfl (kk_wl ?_))
      refine wl_nil ?_
      refine ex_seq ?_
      refine cw_ret ?_
      refine ex_then_ret ?_
      obtain rfl := Option.some.inj h
      exact ex_r1 Tb rfl (.tmp rfl) (fun wq hq => ⟨_, rfl, hq.ext, rfl⟩)
    · skip
      replace h := bf c2 h
      refine cw_skip ?_
      refine ex_seq ?_
      refine cw_seq ?_
      refine cw_seq ?_
      refine cw_region ?_
      refine wl_u rfl (ow_y (yh_field Tb rfl rfl rfl) rfl rfl (kk_wl ?_))
      refine wl_u rfl (ow_y (yh_loadB Tb (k := 0) rfl rfl rfl rfl rfl) rfl rfl (kk_wl ?_))
      refine wl_nil ?_
      refine ex_seq ?_
      refine cw_block ?_
      refine cw_seq ?_
      refine cw_region ?_
      refine wl_u rfl (ow_y (yh_cmpI rfl rfl rfl rfl) rfl rfl (kk_wl ?_))
      refine wl_u rfl (ow_y (yh_assign rfl rfl) rfl rfl (kk_wl ?_))
      refine wl_nil ?_
      refine ex_seq ?_
      refine cw_split rfl (fun c3 => ?_) (fun c3 => ?_)
      · skip
        replace h := bt c3 h
        have q1 := eqb_true.1 c3
        refine cw_seq ?_
        refine cw_region ?_
        refine wl_u rfl (ow_y (yh_field Tb rfl rfl rfl) rfl rfl (kk_wl ?_))
        refine wl_u rfl (ow_y (yh_loadB Tb (k := 0) rfl rfl rfl rfl rfl) rfl rfl (kk_wl ?_))
        refine wl_u rfl (ow_y (yh_lenS Tb rfl rfl rfl rfl) rfl rfl (kk_wl ?_))
        refine wl_u rfl (ow_y (yh_field Tb rfl rfl rfl) rfl rfl (kk_wl ?_))
        refine wl_u rfl (ow_y (yh_loadB Tb (k := 1) rfl rfl rfl rfl rfl) rfl rfl (kk_wl ?_))
        refine wl_u rfl (ow_y (yh_lenS Tb rfl rfl rfl rfl) rfl rfl (kk_wl ?_))
        refine wl_u rfl (ow_y (yh_cmpI rfl rfl rfl rfl) rfl rfl (kk_wl ?_))
        refine wl_u rfl (ow_y (yh_assign rfl rfl) rfl rfl (kk_wl ?_))
        refine wl_nil ?_
        refine ex_seq ?_
        refine cw_ret ?_
        refine ex_block_ret ?_
        refine ex_then_ret ?_
        obtain rfl := Option.some.inj h
        exact ex_r1 Tb rfl (.tmp rfl) (fun wq hq => ⟨_, rfl, hq.ext, rfl⟩)
      · skip
        replace h := bf c3 h
        have q2 := eqb_false.1 c3
        refine cw_seq ?_
        refine cw_region ?_
        refine wl_u rfl (ow_y (yh_cmpI rfl rfl rfl rfl) rfl rfl (kk_wl ?_))
        refine wl_u rfl (ow_y (yh_assign rfl rfl) rfl rfl (kk_wl ?_))
        refine wl_nil ?_
        refine ex_seq ?_
        refine cw_split rfl (fun c4 => ?_) (fun c4 => ?_)
        · skip
          replace h := bt c4 h
          have q3 := eqb_true.1 c4
          refine cw_seq ?_
          refine cw_region ?_
          refine wl_u rfl (ow_y (yh_field Tb rfl rfl rfl) rfl rfl (kk_wl ?_))
          refine wl_u rfl (ow_y (yh_loadB Tb (k := 0) rfl rfl rfl rfl rfl) rfl rfl (kk_wl ?_))
          refine wl_u rfl (ow_y (yh_lenS Tb rfl rfl rfl rfl) rfl rfl (kk_wl ?_))
          refine wl_u rfl (ow_y (yh_field Tb rfl rfl rfl) rfl rfl (kk_wl ?_))
          refine wl_u rfl (ow_y (yh_loadB Tb (k := 1) rfl rfl rfl rfl rfl) rfl rfl (kk_wl ?_))
          refine wl_u rfl (ow_y (yh_lenS Tb rfl rfl rfl rfl) rfl rfl (kk_wl ?_))
          refine wl_u rfl (ow_y (yh_cmpI rfl rfl rfl rfl) rfl rfl (kk_wl ?_))
          refine wl_u rfl (ow_y (yh_assign rfl rfl) rfl rfl (kk_wl ?_))
          refine wl_nil ?_
          refine ex_seq ?_
          refine cw_ret ?_
          refine ex_block_ret ?_
          refine ex_then_ret ?_
          obtain rfl := Option.some.inj h
          exact ex_r1 Tb rfl (.tmp rfl) (fun wq hq => ⟨_, rfl, hq.ext, rfl⟩)
        · skip
          replace h := bf c4 h
          have q4 := eqb_false.1 c4
          refine cw_seq ?_
          refine cw_region ?_
          refine wl_u rfl (ow_y (yh_cmpI rfl rfl rfl rfl) rfl rfl (kk_wl ?_))
          refine wl_u rfl (ow_y (yh_assign rfl rfl) rfl rfl (kk_wl ?_))
          refine wl_nil ?_
          refine ex_seq ?_
          refine cw_split rfl (fun c5 => ?_) (fun c5 => ?_)
          · skip
            replace h := bt c5 h
            have q5 := eqb_true.1 c5
            refine cw_seq ?_
            refine cw_dr [0, 1, 2, 3, 4, 5, 6, 7, 8, 9, 10, 11, 13, 14, 15, 16, 17, 18] [] [blkC g3 60 [.int .i64 u1.state, .slice a_u1_done u1.done.length c_u1_done], blkC g2 26 [.int .i64 u0.ver, .slice a_u0_steps u0.steps.length c_u0_steps]] (by kernel_rfl) ?_
            refine wd_take (i := 0) [0, 1] rfl rfl rfl rfl rfl (by kernel_rfl) rfl (fun _ _ _ _ h => h) (yh_field Tb rfl rfl rfl) ?_
            refine wd_take (i := 1) [0, 1] rfl rfl rfl rfl rfl (by kernel_rfl) rfl (fun _ _ _ _ h => h) (yh_loadB Tb (k := 0) rfl rfl rfl rfl rfl) ?_
            refine wd_take (i := 2) [0, 1] rfl rfl rfl rfl rfl (by kernel_rfl) rfl (fun _ _ _ _ h => h) (yh_lenS Tb rfl rfl rfl rfl) ?_
            refine wd_take (i := 3) [0, 1] rfl rfl rfl rfl rfl (by kernel_rfl) rfl (fun _ _ _ _ h => h) (yh_field Tb rfl rfl rfl) ?_
            refine wd_take (i := 4) [0, 1] rfl rfl rfl rfl rfl (by kernel_rfl) rfl (fun _ _ _ _ h => h) (yh_loadB Tb (k := 1) rfl rfl rfl rfl rfl) ?_
            refine wd_take (i := 5) [0, 1] rfl rfl rfl rfl rfl (by kernel_rfl) rfl (fun _ _ _ _ h => h) (yh_lenS Tb rfl rfl rfl rfl) ?_
            refine wd_take (i := 6) [0, 1] rfl rfl rfl rfl rfl (by kernel_rfl) rfl (fun _ _ _ _ h => h) (yh_cmpI rfl rfl rfl rfl) ?_
            refine wd_take (i := 7) [0, 1] rfl rfl rfl rfl rfl (by kernel_rfl) rfl (fun _ _ _ _ h => h) (yh_move rfl rfl) ?_
            refine wd_split 8 rfl rfl rfl (fun c6 => ?_) (fun c6 => ?_)
            · skip
              replace h := bt c6 h
              have q6 := ltb_true.1 c6
              refine wd_take (i := 8) [0, 1] rfl rfl rfl rfl rfl (by kernel_rfl) rfl (fun _ _ _ _ h => h) (yh_field Tb rfl rfl rfl) ?_
              refine wd_take (i := 9) [0, 1] rfl rfl rfl rfl rfl (by kernel_rfl) rfl (fun _ _ _ _ h => h) (yh_loadB Tb (k := 1) rfl rfl rfl rfl rfl) ?_
              refine wd_take (i := 10) [0, 1] rfl rfl rfl rfl rfl (by kernel_rfl) rfl (fun _ _ _ _ h => h) (yh_field Tb rfl rfl rfl) ?_
              refine wd_take (i := 11) [0, 1] rfl rfl rfl rfl rfl (by kernel_rfl) rfl (fun _ _ _ _ h => h) (yh_loadB Tb (k := 0) rfl rfl rfl rfl rfl) ?_
              refine wd_take (i := 13) [0, 1] rfl rfl rfl rfl rfl (by kernel_rfl) rfl (fun _ _ _ _ h => h) (yh_field Tb rfl rfl rfl) ?_
              refine wd_take (i := 14) [0, 1] rfl rfl rfl rfl rfl (by kernel_rfl) rfl (fun _ _ _ _ h => h) (yh_loadB Tb (k := 0) rfl rfl rfl rfl rfl) ?_
              refine wd_take (i := 15) [0, 1] rfl rfl rfl rfl rfl (by kernel_rfl) rfl (fun _ _ _ _ h => h) (yh_lenS Tb rfl rfl rfl rfl) ?_
              obtain ⟨x50, hx50, h⟩ := bd h
              refine wd_one 12 rfl rfl (by kernel_rfl) (ow_cV rfl hb125 rfl (fun w hw => c_spec_l3Left N _ _ _ hx50 w (Lay.at_ h_u0_steps hw) (Lay.at_ h_u1_done hw)) rfl rfl (kk_wd [0, 1] rfl ?_))
              refine wd_take (i := 16) [0, 1] rfl rfl rfl rfl rfl (by kernel_rfl) rfl (fun _ _ _ _ h => h) (yh_cmpI rfl rfl rfl rfl) ?_
              refine wd_take (i := 17) [0, 1] rfl rfl rfl rfl rfl (by kernel_rfl) rfl (fun _ _ _ _ h => h) (yh_pickT rfl rfl rfl) ?_
              refine wd_take (i := 18) [0, 1] rfl rfl rfl rfl rfl (by kernel_rfl) rfl (fun _ _ _ _ h => h) (yh_assign rfl rfl) ?_
              refine wd_done (by kernel_rfl) ?_
              refine ex_seq ?_
              refine cw_ret ?_
              refine ex_block_ret ?_
              refine ex_then_ret ?_
              obtain rfl := Option.some.inj h
              exact ex_r1 Tb rfl (.tmp rfl) (fun wq hq => ⟨_, rfl, hq.ext, rfl⟩)
            · skip
              replace h := bf c6 h
              have q7 := ltb_false.1 c6
              refine wd_skip (i := 8) [0, 1] rfl rfl rfl rfl (by kernel_rfl) rfl (fun _ _ _ h => h) ?_
              refine wd_skip (i := 9) [0, 1] rfl rfl rfl rfl (by kernel_rfl) rfl (fun _ _ _ h => h) ?_
              refine wd_skip (i := 10) [0, 1] rfl rfl rfl rfl (by kernel_rfl) rfl (fun _ _ _ h => h) ?_
              refine wd_skip (i := 11) [0, 1] rfl rfl rfl rfl (by kernel_rfl) rfl (fun _ _ _ h => h) ?_
              refine wd_skip (i := 13) [0, 1] rfl rfl rfl rfl (by kernel_rfl) rfl (fun _ _ _ h => h) ?_
              refine wd_skip (i := 14) [0, 1] rfl rfl rfl rfl (by kernel_rfl) rfl (fun _ _ _ h => h) ?_
              refine wd_skip (i := 15) [0, 1] rfl rfl rfl rfl (by kernel_rfl) rfl (fun _ _ _ h => h) ?_
              refine wd_offD 12 rfl rfl rfl rfl (by kernel_rfl) [0, 1] (fun _ => rfl) ?_
              refine wd_skip (i := 16) [0, 1] rfl rfl rfl rfl (by kernel_rfl) rfl (fun _ _ _ h => h) ?_
              refine wd_take (i := 17) [0, 1] rfl rfl rfl rfl rfl (by kernel_rfl) rfl (fun _ _ _ _ h => h) (yh_pickF rfl rfl rfl) ?_
              refine wd_take (i := 18) [0, 1] rfl rfl rfl rfl rfl (by kernel_rfl) rfl (fun _ _ _ _ h => h) (yh_assign rfl rfl) ?_
              refine wd_done (by kernel_rfl) ?_
              refine ex_seq ?_
              refine cw_ret ?_
              refine ex_block_ret ?_
              refine ex_then_ret ?_
              obtain rfl := Option.some.inj h
              exact ex_r1 Tb rfl (.tmp rfl) (fun wq hq => ⟨_, rfl, hq.ext, rfl⟩)
          · skip
            replace h := bf c5 h
            have q8 := eqb_false.1 c5
            refine cw_seq ?_
            refine cw_region ?_
            refine wl_u rfl (ow_y (yh_cmpI rfl rfl rfl rfl) rfl rfl (kk_wl ?_))
            refine wl_u rfl (ow_y (yh_assign rfl rfl) rfl rfl (kk_wl ?_))
            refine wl_nil ?_
            refine ex_seq ?_
            refine cw_split rfl (fun c7 => ?_) (fun c7 => ?_)
            · skip
              replace h := bt c7 h
              have q9 := eqb_true.1 c7
              refine cw_seq ?_
              refine cw_dr [0, 1, 2, 3, 4, 5, 6, 7, 8, 9, 10, 11, 13, 14, 15, 16, 17, 18] [] [blkC g3 60 [.int .i64 u1.state, .slice a_u1_done u1.done.length c_u1_done], blkC g2 26 [.int .i64 u0.ver, .slice a_u0_steps u0.steps.length c_u0_steps]] (by kernel_rfl) ?_
              refine wd_take (i := 0) [0, 1] rfl rfl rfl rfl rfl (by kernel_rfl) rfl (fun _ _ _ _ h => h) (yh_field Tb rfl rfl rfl) ?_
              refine wd_take (i := 1) [0, 1] rfl rfl rfl rfl rfl (by kernel_rfl) rfl (fun _ _ _ _ h => h) (yh_loadB Tb (k := 0) rfl rfl rfl rfl rfl) ?_
              refine wd_take (i := 2) [0, 1] rfl rfl rfl rfl rfl (by kernel_rfl) rfl (fun _ _ _ _ h => h) (yh_lenS Tb rfl rfl rfl rfl) ?_
              refine wd_take (i := 3) [0, 1] rfl rfl rfl rfl rfl (by kernel_rfl) rfl (fun _ _ _ _ h => h) (yh_field Tb rfl rfl rfl) ?_
              refine wd_take (i := 4) [0, 1] rfl rfl rfl rfl rfl (by kernel_rfl) rfl (fun _ _ _ _ h => h) (yh_loadB Tb (k := 1) rfl rfl rfl rfl rfl) ?_
              refine wd_take (i := 5) [0, 1] rfl rfl rfl rfl rfl (by kernel_rfl) rfl (fun _ _ _ _ h => h) (yh_lenS Tb rfl rfl rfl rfl) ?_
              refine wd_take (i := 6) [0, 1] rfl rfl rfl rfl rfl (by kernel_rfl) rfl (fun _ _ _ _ h => h) (yh_cmpI rfl rfl rfl rfl) ?_
              refine wd_take (i := 7) [0, 1] rfl rfl rfl rfl rfl (by kernel_rfl) rfl (fun _ _ _ _ h => h) (yh_move rfl rfl) ?_
              refine wd_split 8 rfl rfl rfl (fun c8 => ?_) (fun c8 => ?_)
              · skip
                replace h := bt c8 h
                have q10 := ltb_true.1 c8
                refine wd_take (i := 8) [0, 1] rfl rfl rfl rfl rfl (by kernel_rfl) rfl (fun _ _ _ _ h => h) (yh_field Tb rfl rfl rfl) ?_
                refine wd_take (i := 9) [0, 1] rfl rfl rfl rfl rfl (by kernel_rfl) rfl (fun _ _ _ _ h => h) (yh_loadB Tb (k := 1) rfl rfl rfl rfl rfl) ?_
                refine wd_take (i := 10) [0, 1] rfl rfl rfl rfl rfl (by kernel_rfl) rfl (fun _ _ _ _ h => h) (yh_field Tb rfl rfl rfl) ?_
                refine wd_take (i := 11) [0, 1] rfl rfl rfl rfl rfl (by kernel_rfl) rfl (fun _ _ _ _ h => h) (yh_loadB Tb (k := 0) rfl rfl rfl rfl rfl) ?_
                refine wd_take (i := 13) [0, 1] rfl rfl rfl rfl rfl (by kernel_rfl) rfl (fun _ _ _ _ h => h) (yh_field Tb rfl rfl rfl) ?_
                refine wd_take (i := 14) [0, 1] rfl rfl rfl rfl rfl (by kernel_rfl) rfl (fun _ _ _ _ h => h) (yh_loadB Tb (k := 0) rfl rfl rfl rfl rfl) ?_
                refine wd_take (i := 15) [0, 1] rfl rfl rfl rfl rfl (by kernel_rfl) rfl (fun _ _ _ _ h => h) (yh_lenS Tb rfl rfl rfl rfl) ?_
                obtain ⟨x70, hx70, h⟩ := bd h
                refine wd_one 12 rfl rfl (by kernel_rfl) (ow_cV rfl hb125 rfl (fun w hw => c_spec_l3Left N _ _ _ hx70 w (Lay.at_ h_u0_steps hw) (Lay.at_ h_u1_done hw)) rfl rfl (kk_wd [0, 1] rfl ?_))
                refine wd_take (i := 16) [0, 1] rfl rfl rfl rfl rfl (by kernel_rfl) rfl (fun _ _ _ _ h => h) (yh_cmpI rfl rfl rfl rfl) ?_
                refine wd_take (i := 17) [0, 1] rfl rfl rfl rfl rfl (by kernel_rfl) rfl (fun _ _ _ _ h => h) (yh_pickT rfl rfl rfl) ?_
                refine wd_take (i := 18) [0, 1] rfl rfl rfl rfl rfl (by kernel_rfl) rfl (fun _ _ _ _ h => h) (yh_assign rfl rfl) ?_
                refine wd_done (by kernel_rfl) ?_
                refine ex_seq ?_
                refine cw_ret ?_
                refine ex_block_ret ?_
                refine ex_then_ret ?_
                obtain rfl := Option.some.inj h
                exact ex_r1 Tb rfl (.tmp rfl) (fun wq hq => ⟨_, rfl, hq.ext, rfl⟩)
              · skip
                replace h := bf c8 h
                have q11 := ltb_false.1 c8
                refine wd_skip (i := 8) [0, 1] rfl rfl rfl rfl (by kernel_rfl) rfl (fun _ _ _ h => h) ?_
                refine wd_skip (i := 9) [0, 1] rfl rfl rfl rfl (by kernel_rfl) rfl (fun _ _ _ h => h) ?_
                refine wd_skip (i := 10) [0, 1] rfl rfl rfl rfl (by kernel_rfl) rfl (fun _ _ _ h => h) ?_
                refine wd_skip (i := 11) [0, 1] rfl rfl rfl rfl (by kernel_rfl) rfl (fun _ _ _ h => h) ?_
                refine wd_skip (i := 13) [0, 1] rfl rfl rfl rfl (by kernel_rfl) rfl (fun _ _ _ h => h) ?_
                refine wd_skip (i := 14) [0, 1] rfl rfl rfl rfl (by kernel_rfl) rfl (fun _ _ _ h => h) ?_
                refine wd_skip (i := 15) [0, 1] rfl rfl rfl rfl (by kernel_rfl) rfl (fun _ _ _ h => h) ?_
                refine wd_offD 12 rfl rfl rfl rfl (by kernel_rfl) [0, 1] (fun _ => rfl) ?_
                refine wd_skip (i := 16) [0, 1] rfl rfl rfl rfl (by kernel_rfl) rfl (fun _ _ _ h => h) ?_
                refine wd_take (i := 17) [0, 1] rfl rfl rfl rfl rfl (by kernel_rfl) rfl (fun _ _ _ _ h => h) (yh_pickF rfl rfl rfl) ?_
                refine wd_take (i := 18) [0, 1] rfl rfl rfl rfl rfl (by kernel_rfl) rfl (fun _ _ _ _ h => h) (yh_assign rfl rfl) ?_
                refine wd_done (by kernel_rfl) ?_
                refine ex_seq ?_
                refine cw_ret ?_
                refine ex_block_ret ?_
                refine ex_then_ret ?_
                obtain rfl := Option.some.inj h
                exact ex_r1 Tb rfl (.tmp rfl) (fun wq hq => ⟨_, rfl, hq.ext, rfl⟩)
            · skip
              replace h := bf c7 h
              have q12 := eqb_false.1 c7
              refine cw_skip ?_
              refine ex_block_normal ?_
              refine ex_seq ?_
              refine cw_seq ?_
              refine cw_region ?_
              refine wl_u rfl (ow_y (yh_assign rfl rfl) rfl rfl (kk_wl ?_))
              refine wl_nil ?_
              refine ex_seq ?_
              refine cw_ret ?_
              obtain rfl := Option.some.inj h
              exact ex_r1 Tb rfl (.tmp rfl) (fun wq hq => ⟨_, rfl, hq.ext, rfl⟩)

def m_spec_l3Can (N : Nat) (f : Flow) (r : Run) (name : Str) : Option (Bool) := (m_spec_l2At N f.steps name).bind fun x11 => (m_spec_RunValid N f r).bind fun x14 => (bif x14 then (bif eqb r.state 0 then (bif leb 0 x11 then (m_spec_l1At N r.done name).bind fun x28 => (bif ltb x28 0 then (geti f.steps x11).bind fun y37 => (m_spec_l1Have N r.done y37.after).bind fun x40 => some x40
 else some false)
 else some false)
 else some false)
 else some false)

set_option maxHeartbeats 4000000 in
theorem c_spec_l3Can (N : Nat) (f : Flow) (r : Run) (name : Str) (res : Bool) (h : m_spec_l3Can N f r name = some res) (w : World) {a_f_steps a_r_done : Option Addr} {c_f_steps c_r_done : Nat} (h_f_steps : stepsL.rd w [] [.slice a_f_steps f.steps.length c_f_steps] f.steps) (h_r_done : strsL.rd w [] [.slice a_r_done r.done.length c_r_done] r.done) : Ret Try.prog 142 [.agg #[.int .i64 f.ver, .slice a_f_steps f.steps.length c_f_steps], .agg #[.int .i64 r.state, .slice a_r_done r.done.length c_r_done], .string name] w [] fun v w' => v = .bool res := by
  have mh_f_steps := rd_max h_f_steps
  have mh_r_done := rd_max h_r_done
  unfold m_spec_l3Can at h
  refine ret_enter Try.func142 rfl Try.ntmps142 rfl (Hp.refl w _) ?_
  refine cw_seq ?_
  refine cw_region ?_
  refine wl_u rfl (ow_boxA rfl rfl rfl rfl (fun g3 => kk_wl ?_))
  refine wl_u rfl (ow_boxA rfl rfl rfl rfl (fun g4 => kk_wl ?_))
  refine wl_u rfl (ow_y (yh_assign rfl rfl) rfl rfl (kk_wl ?_))
  refine wl_nil ?_
  refine ex_seq ?_
  refine cw_seq ?_
  refine cw_region ?_
  refine wl_u rfl (ow_y (yh_field Tb rfl rfl rfl) rfl rfl (kk_wl ?_))
  refine wl_u rfl (ow_y (yh_loadB Tb (k := 1) rfl rfl rfl rfl rfl) rfl rfl (kk_wl ?_))
  refine wl_u rfl (ow_y (yh_move rfl rfl) rfl rfl (kk_wl ?_))
  obtain ⟨x11, hx11, h⟩ := bd h
  refine wl_u rfl (ow_cV rfl hb80 rfl (fun w hw => c_spec_l2At N _ _ _ hx11 w (Lay.at_ h_f_steps hw)) rfl rfl (kk_wl ?_))
  refine wl_u rfl (ow_y (yh_assign rfl rfl) rfl rfl (kk_wl ?_))
  refine wl_nil ?_
  refine ex_seq ?_
  refine cw_seq ?_
  refine cw_dr [0, 1, 3, 4, 5, 6, 7, 8, 9, 10, 11, 12, 13, 14, 15, 17, 18, 19, 20, 21, 22, 23, 24, 25, 26, 27, 29, 30] [] [blkC g4 60 [.int .i64 r.state, .slice a_r_done r.done.length c_r_done], blkC g3 26 [.int .i64 f.ver, .slice a_f_steps f.steps.length c_f_steps]] (by kernel_rfl) ?_
  refine wd_take (i := 0) [0, 1] rfl rfl rfl rfl rfl (by kernel_rfl) rfl (fun _ _ _ _ h => h) (yh_loadBA Tb (k := 1) rfl rfl rfl rfl rfl rfl) ?_
  refine wd_take (i := 1) [0, 1] rfl rfl rfl rfl rfl (by kernel_rfl) rfl (fun _ _ _ _ h => h) (yh_loadBA Tb (k := 0) rfl rfl rfl rfl rfl rfl) ?_
  obtain ⟨x14, hx14, h⟩ := bd h
  refine wd_one 2 rfl rfl (by kernel_rfl) (ow_cV rfl hb89 rfl (fun w hw => c_spec_RunValid N _ _ _ hx14 w (Lay.at_ h_f_steps hw) (Lay.at_ h_r_done hw)) rfl rfl (kk_wd [0, 1] rfl ?_))
  refine wd_take (i := 3) [0, 1] rfl rfl rfl rfl rfl (by kernel_rfl) rfl (fun _ _ _ _ h => h) (yh_move rfl rfl) ?_
  refine wd_split 4 rfl rfl rfl (fun c1 => ?_) (fun c1 => ?_)
  · skip
    replace h := bt c1 h
    refine wd_take (i := 4) [0, 1] rfl rfl rfl rfl rfl (by kernel_rfl) rfl (fun _ _ _ _ h => h) (yh_field Tb rfl rfl rfl) ?_
    refine wd_take (i := 5) [0, 1] rfl rfl rfl rfl rfl (by kernel_rfl) rfl (fun _ _ _ _ h => h) (yh_loadB Tb (k := 0) rfl rfl rfl rfl rfl) ?_
    refine wd_take (i := 6) [0, 1] rfl rfl rfl rfl rfl (by kernel_rfl) rfl (fun _ _ _ _ h => h) (yh_cmpI rfl rfl rfl rfl) ?_
    refine wd_take (i := 7) [0, 1] rfl rfl rfl rfl rfl (by kernel_rfl) rfl (fun _ _ _ _ h => h) (yh_pickT rfl rfl rfl) ?_
    refine wd_take (i := 8) [0, 1] rfl rfl rfl rfl rfl (by kernel_rfl) rfl (fun _ _ _ _ h => h) (yh_move rfl rfl) ?_
    refine wd_split 9 rfl rfl rfl (fun c2 => ?_) (fun c2 => ?_)
    · skip
      replace h := bt c2 h
      have q1 := eqb_true.1 c2
      refine wd_take (i := 9) [0, 1] rfl rfl rfl rfl rfl (by kernel_rfl) rfl (fun _ _ _ _ h => h) (yh_move rfl rfl) ?_
      refine wd_take (i := 10) [0, 1] rfl rfl rfl rfl rfl (by kernel_rfl) rfl (fun _ _ _ _ h => h) (yh_cmpI rfl rfl rfl rfl) ?_
      refine wd_take (i := 11) [0, 1] rfl rfl rfl rfl rfl (by kernel_rfl) rfl (fun _ _ _ _ h => h) (yh_pickT rfl rfl rfl) ?_
      refine wd_take (i := 12) [0, 1] rfl rfl rfl rfl rfl (by kernel_rfl) rfl (fun _ _ _ _ h => h) (yh_move rfl rfl) ?_
      refine wd_split 13 rfl rfl rfl (fun c3 => ?_) (fun c3 => ?_)
      · skip
        replace h := bt c3 h
        have q2 := leb_true.1 c3
        refine wd_take (i := 13) [0, 1] rfl rfl rfl rfl rfl (by kernel_rfl) rfl (fun _ _ _ _ h => h) (yh_field Tb rfl rfl rfl) ?_
        refine wd_take (i := 14) [0, 1] rfl rfl rfl rfl rfl (by kernel_rfl) rfl (fun _ _ _ _ h => h) (yh_loadB Tb (k := 0) rfl rfl rfl rfl rfl) ?_
        refine wd_take (i := 15) [0, 1] rfl rfl rfl rfl rfl (by kernel_rfl) rfl (fun _ _ _ _ h => h) (yh_move rfl rfl) ?_
        obtain ⟨x28, hx28, h⟩ := bd h
        refine wd_one 16 rfl rfl (by kernel_rfl) (ow_cV rfl hb119 rfl (fun w hw => c_spec_l1At N _ _ _ hx28 w (Lay.at_ h_r_done hw)) rfl rfl (kk_wd [0, 1] rfl ?_))
        refine wd_take (i := 17) [0, 1] rfl rfl rfl rfl rfl (by kernel_rfl) rfl (fun _ _ _ _ h => h) (yh_cmpI rfl rfl rfl rfl) ?_
        refine wd_take (i := 18) [0, 1] rfl rfl rfl rfl rfl (by kernel_rfl) rfl (fun _ _ _ _ h => h) (yh_pickT rfl rfl rfl) ?_
        refine wd_take (i := 19) [0, 1] rfl rfl rfl rfl rfl (by kernel_rfl) rfl (fun _ _ _ _ h => h) (yh_move rfl rfl) ?_
        refine wd_split 20 rfl rfl rfl (fun c4 => ?_) (fun c4 => ?_)
        · skip
          replace h := bt c4 h
          have q3 := ltb_true.1 c4
          refine wd_take (i := 20) [0, 1] rfl rfl rfl rfl rfl (by kernel_rfl) rfl (fun _ _ _ _ h => h) (yh_field Tb rfl rfl rfl) ?_
          refine wd_take (i := 21) [0, 1] rfl rfl rfl rfl rfl (by kernel_rfl) rfl (fun _ _ _ _ h => h) (yh_loadB Tb (k := 0) rfl rfl rfl rfl rfl) ?_
          refine wd_take (i := 22) [0, 1] rfl rfl rfl rfl rfl (by kernel_rfl) rfl (fun _ _ _ _ h => h) (yh_field Tb rfl rfl rfl) ?_
          refine wd_take (i := 23) [0, 1] rfl rfl rfl rfl rfl (by kernel_rfl) rfl (fun _ _ _ _ h => h) (yh_loadB Tb (k := 1) rfl rfl rfl rfl rfl) ?_
          refine wd_take (i := 24) [0, 1] rfl rfl rfl rfl rfl (by kernel_rfl) rfl (fun _ _ _ _ h => h) (yh_move rfl rfl) ?_
          obtain ⟨y37, zy37, h⟩ := bd h
          obtain ⟨iy37, hy37⟩ := geti_some zy37
          obtain ⟨b37, o37, ha37⟩ := sl_addr h_f_steps hy37
          subst ha37
          obtain ⟨a37, e37, hc37, hf37⟩ := get_step h_f_steps hy37
          have mx37 := rd_max hf37
          refine wd_take (i := 25) [0, 1] rfl rfl rfl rfl rfl (by kernel_rfl) rfl (fun _ _ _ _ h => h) (yh_idx Tb (k := x11.toNat) rfl rfl rfl iy37 (get_lt hy37) rfl rfl) ?_
          refine wd_take (i := 26) [0, 1] rfl rfl rfl rfl rfl (by kernel_rfl) rfl (fun _ _ _ _ h => h) (yh_field Tb rfl rfl rfl) ?_
          refine wd_take (i := 27) [0, 1] rfl rfl rfl rfl rfl (by kernel_rfl) rfl (fun _ _ _ _ h => h) (yh_loadAF Tb (j := 1) rfl rfl rfl hc37 rfl) ?_
          obtain ⟨x40, hx40, h⟩ := bd h
          refine wd_one 28 rfl rfl (by kernel_rfl) (ow_cV rfl hb126 rfl (fun w hw => c_spec_l1Have N _ _ _ hx40 w (Lay.at_ h_r_done hw) (Lay.at_ hf37 hw)) rfl rfl (kk_wd [0, 1] rfl ?_))
          refine wd_take (i := 29) [0, 1] rfl rfl rfl rfl rfl (by kernel_rfl) rfl (fun _ _ _ _ h => h) (yh_pickT rfl rfl rfl) ?_
          refine wd_take (i := 30) [0, 1] rfl rfl rfl rfl rfl (by kernel_rfl) rfl (fun _ _ _ _ h => h) (yh_assign rfl rfl) ?_
          refine wd_done (by kernel_rfl) ?_
          refine ex_seq ?_
          refine cw_ret ?_
          obtain rfl := Option.some.inj h
          exact ex_r1 Tb rfl (.tmp rfl) (fun wq hq => ⟨_, rfl, hq.ext, rfl⟩)
        · skip
          replace h := bf c4 h
          have q4 := ltb_false.1 c4
          refine wd_skip (i := 20) [0, 1] rfl rfl rfl rfl (by kernel_rfl) rfl (fun _ _ _ h => h) ?_
          refine wd_skip (i := 21) [0, 1] rfl rfl rfl rfl (by kernel_rfl) rfl (fun _ _ _ h => h) ?_
          refine wd_skip (i := 22) [0, 1] rfl rfl rfl rfl (by kernel_rfl) rfl (fun _ _ _ h => h) ?_
          refine wd_skip (i := 23) [0, 1] rfl rfl rfl rfl (by kernel_rfl) rfl (fun _ _ _ h => h) ?_
          refine wd_skip (i := 24) [0, 1] rfl rfl rfl rfl (by kernel_rfl) rfl (fun _ _ _ h => h) ?_
          refine wd_skip (i := 25) [0, 1] rfl rfl rfl rfl (by kernel_rfl) rfl (fun _ _ _ h => h) ?_
          refine wd_skip (i := 26) [0, 1] rfl rfl rfl rfl (by kernel_rfl) rfl (fun _ _ _ h => h) ?_
          refine wd_skip (i := 27) [0, 1] rfl rfl rfl rfl (by kernel_rfl) rfl (fun _ _ _ h => h) ?_
          refine wd_offD 28 rfl rfl rfl rfl (by kernel_rfl) [0, 1] (fun _ => rfl) ?_
          refine wd_take (i := 29) [0, 1] rfl rfl rfl rfl rfl (by kernel_rfl) rfl (fun _ _ _ _ h => h) (yh_pickF rfl rfl rfl) ?_
          refine wd_take (i := 30) [0, 1] rfl rfl rfl rfl rfl (by kernel_rfl) rfl (fun _ _ _ _ h => h) (yh_assign rfl rfl) ?_
          refine wd_done (by kernel_rfl) ?_
          refine ex_seq ?_
          refine cw_ret ?_
          obtain rfl := Option.some.inj h
          exact ex_r1 Tb rfl (.tmp rfl) (fun wq hq => ⟨_, rfl, hq.ext, rfl⟩)
      · skip
        replace h := bf c3 h
        have q5 := leb_false.1 c3
        refine wd_skip (i := 13) [0, 1] rfl rfl rfl rfl (by kernel_rfl) rfl (fun _ _ _ h => h) ?_
        refine wd_skip (i := 14) [0, 1] rfl rfl rfl rfl (by kernel_rfl) rfl (fun _ _ _ h => h) ?_
        refine wd_skip (i := 15) [0, 1] rfl rfl rfl rfl (by kernel_rfl) rfl (fun _ _ _ h => h) ?_
        refine wd_offD 16 rfl rfl rfl rfl (by kernel_rfl) [0, 1] (fun _ => rfl) ?_
        refine wd_skip (i := 17) [0, 1] rfl rfl rfl rfl (by kernel_rfl) rfl (fun _ _ _ h => h) ?_
        refine wd_take (i := 18) [0, 1] rfl rfl rfl rfl rfl (by kernel_rfl) rfl (fun _ _ _ _ h => h) (yh_pickF rfl rfl rfl) ?_
        refine wd_take (i := 19) [0, 1] rfl rfl rfl rfl rfl (by kernel_rfl) rfl (fun _ _ _ _ h => h) (yh_move rfl rfl) ?_
        refine wd_split 20 rfl rfl rfl nofun (fun _ => ?_)
        refine wd_skip (i := 20) [0, 1] rfl rfl rfl rfl (by kernel_rfl) rfl (fun _ _ _ h => h) ?_
        refine wd_skip (i := 21) [0, 1] rfl rfl rfl rfl (by kernel_rfl) rfl (fun _ _ _ h => h) ?_
        refine wd_skip (i := 22) [0, 1] rfl rfl rfl rfl (by kernel_rfl) rfl (fun _ _ _ h => h) ?_
        refine wd_skip (i := 23) [0, 1] rfl rfl rfl rfl (by kernel_rfl) rfl (fun _ _ _ h => h) ?_
        refine wd_skip (i := 24) [0, 1] rfl rfl rfl rfl (by kernel_rfl) rfl (fun _ _ _ h => h) ?_
        refine wd_skip (i := 25) [0, 1] rfl rfl rfl rfl (by kernel_rfl) rfl (fun _ _ _ h => h) ?_
        refine wd_skip (i := 26) [0, 1] rfl rfl rfl rfl (by kernel_rfl) rfl (fun _ _ _ h => h) ?_
        refine wd_skip (i := 27) [0, 1] rfl rfl rfl rfl (by kernel_rfl) rfl (fun _ _ _ h => h) ?_
        refine wd_offD 28 rfl rfl rfl rfl (by kernel_rfl) [0, 1] (fun _ => rfl) ?_
        refine wd_take (i := 29) [0, 1] rfl rfl rfl rfl rfl (by kernel_rfl) rfl (fun _ _ _ _ h => h) (yh_pickF rfl rfl rfl) ?_
        refine wd_take (i := 30) [0, 1] rfl rfl rfl rfl rfl (by kernel_rfl) rfl (fun _ _ _ _ h => h) (yh_assign rfl rfl) ?_
        refine wd_done (by kernel_rfl) ?_
        refine ex_seq ?_
        refine cw_ret ?_
        obtain rfl := Option.some.inj h
        exact ex_r1 Tb rfl (.tmp rfl) (fun wq hq => ⟨_, rfl, hq.ext, rfl⟩)
    · skip
      replace h := bf c2 h
      have q6 := eqb_false.1 c2
      refine wd_skip (i := 9) [0, 1] rfl rfl rfl rfl (by kernel_rfl) rfl (fun _ _ _ h => h) ?_
      refine wd_skip (i := 10) [0, 1] rfl rfl rfl rfl (by kernel_rfl) rfl (fun _ _ _ h => h) ?_
      refine wd_take (i := 11) [0, 1] rfl rfl rfl rfl rfl (by kernel_rfl) rfl (fun _ _ _ _ h => h) (yh_pickF rfl rfl rfl) ?_
      refine wd_take (i := 12) [0, 1] rfl rfl rfl rfl rfl (by kernel_rfl) rfl (fun _ _ _ _ h => h) (yh_move rfl rfl) ?_
      refine wd_split 13 rfl rfl rfl nofun (fun _ => ?_)
      refine wd_skip (i := 13) [0, 1] rfl rfl rfl rfl (by kernel_rfl) rfl (fun _ _ _ h => h) ?_
      refine wd_skip (i := 14) [0, 1] rfl rfl rfl rfl (by kernel_rfl) rfl (fun _ _ _ h => h) ?_
      refine wd_skip (i := 15) [0, 1] rfl rfl rfl rfl (by kernel_rfl) rfl (fun _ _ _ h => h) ?_
      refine wd_offD 16 rfl rfl rfl rfl (by kernel_rfl) [0, 1] (fun _ => rfl) ?_
      refine wd_skip (i := 17) [0, 1] rfl rfl rfl rfl (by kernel_rfl) rfl (fun _ _ _ h => h) ?_
      refine wd_take (i := 18) [0, 1] rfl rfl rfl rfl rfl (by kernel_rfl) rfl (fun _ _ _ _ h => h) (yh_pickF rfl rfl rfl) ?_
      refine wd_take (i := 19) [0, 1] rfl rfl rfl rfl rfl (by kernel_rfl) rfl (fun _ _ _ _ h => h) (yh_move rfl rfl) ?_
      refine wd_split 20 rfl rfl rfl nofun (fun _ => ?_)
      refine wd_skip (i := 20) [0, 1] rfl rfl rfl rfl (by kernel_rfl) rfl (fun _ _ _ h => h) ?_
      refine wd_skip (i := 21) [0, 1] rfl rfl rfl rfl (by kernel_rfl) rfl (fun _ _ _ h => h) ?_
      refine wd_skip (i := 22) [0, 1] rfl rfl rfl rfl (by kernel_rfl) rfl (fun _ _ _ h => h) ?_
      refine wd_skip (i := 23) [0, 1] rfl rfl rfl rfl (by kernel_rfl) rfl (fun _ _ _ h => h) ?_
      refine wd_skip (i := 24) [0, 1] rfl rfl rfl rfl (by kernel_rfl) rfl (fun _ _ _ h => h) ?_
      refine wd_skip (i := 25) [0, 1] rfl rfl rfl rfl (by kernel_rfl) rfl (fun _ _ _ h => h) ?_
      refine wd_skip (i := 26) [0, 1] rfl rfl rfl rfl (by kernel_rfl) rfl (fun _ _ _ h => h) ?_
      refine wd_skip (i := 27) [0, 1] rfl rfl rfl rfl (by kernel_rfl) rfl (fun _ _ _ h => h) ?_
      refine wd_offD 28 rfl rfl rfl rfl (by kernel_rfl) [0, 1] (fun _ => rfl) ?_
      refine wd_take (i := 29) [0, 1] rfl rfl rfl rfl rfl (by kernel_rfl) rfl (fun _ _ _ _ h => h) (yh_pickF rfl rfl rfl) ?_
      refine wd_take (i := 30) [0, 1] rfl rfl rfl rfl rfl (by kernel_rfl) rfl (fun _ _ _ _ h => h) (yh_assign rfl rfl) ?_
      refine wd_done (by kernel_rfl) ?_
      refine ex_seq ?_
      refine cw_ret ?_
      obtain rfl := Option.some.inj h
      exact ex_r1 Tb rfl (.tmp rfl) (fun wq hq => ⟨_, rfl, hq.ext, rfl⟩)
  · skip
    replace h := bf c1 h
    refine wd_skip (i := 4) [0, 1] rfl rfl rfl rfl (by kernel_rfl) rfl (fun _ _ _ h => h) ?_
    refine wd_skip (i := 5) [0, 1] rfl rfl rfl rfl (by kernel_rfl) rfl (fun _ _ _ h => h) ?_
    refine wd_skip (i := 6) [0, 1] rfl rfl rfl rfl (by kernel_rfl) rfl (fun _ _ _ h => h) ?_
    refine wd_take (i := 7) [0, 1] rfl rfl rfl rfl rfl (by kernel_rfl) rfl (fun _ _ _ _ h => h) (yh_pickF rfl rfl rfl) ?_
    refine wd_take (i := 8) [0, 1] rfl rfl rfl rfl rfl (by kernel_rfl) rfl (fun _ _ _ _ h => h) (yh_move rfl rfl) ?_
    refine wd_split 9 rfl rfl rfl nofun (fun _ => ?_)
    refine wd_skip (i := 9) [0, 1] rfl rfl rfl rfl (by kernel_rfl) rfl (fun _ _ _ h => h) ?_
    refine wd_skip (i := 10) [0, 1] rfl rfl rfl rfl (by kernel_rfl) rfl (fun _ _ _ h => h) ?_
    refine wd_take (i := 11) [0, 1] rfl rfl rfl rfl rfl (by kernel_rfl) rfl (fun _ _ _ _ h => h) (yh_pickF rfl rfl rfl) ?_
    refine wd_take (i := 12) [0, 1] rfl rfl rfl rfl rfl (by kernel_rfl) rfl (fun _ _ _ _ h => h) (yh_move rfl rfl) ?_
    refine wd_split 13 rfl rfl rfl nofun (fun _ => ?_)
    refine wd_skip (i := 13) [0, 1] rfl rfl rfl rfl (by kernel_rfl) rfl (fun _ _ _ h => h) ?_
    refine wd_skip (i := 14) [0, 1] rfl rfl rfl rfl (by kernel_rfl) rfl (fun _ _ _ h => h) ?_
    refine wd_skip (i := 15) [0, 1] rfl rfl rfl rfl (by kernel_rfl) rfl (fun _ _ _ h => h) ?_
    refine wd_offD 16 rfl rfl rfl rfl (by kernel_rfl) [0, 1] (fun _ => rfl) ?_
    refine wd_skip (i := 17) [0, 1] rfl rfl rfl rfl (by kernel_rfl) rfl (fun _ _ _ h => h) ?_
    refine wd_take (i := 18) [0, 1] rfl rfl rfl rfl rfl (by kernel_rfl) rfl (fun _ _ _ _ h => h) (yh_pickF rfl rfl rfl) ?_
    refine wd_take (i := 19) [0, 1] rfl rfl rfl rfl rfl (by kernel_rfl) rfl (fun _ _ _ _ h => h) (yh_move rfl rfl) ?_
    refine wd_split 20 rfl rfl rfl nofun (fun _ => ?_)
    refine wd_skip (i := 20) [0, 1] rfl rfl rfl rfl (by kernel_rfl) rfl (fun _ _ _ h => h) ?_
    refine wd_skip (i := 21) [0, 1] rfl rfl rfl rfl (by kernel_rfl) rfl (fun _ _ _ h => h) ?_
    refine wd_skip (i := 22) [0, 1] rfl rfl rfl rfl (by kernel_rfl) rfl (fun _ _ _ h => h) ?_
    refine wd_skip (i := 23) [0, 1] rfl rfl rfl rfl (by kernel_rfl) rfl (fun _ _ _ h => h) ?_
    refine wd_skip (i := 24) [0, 1] rfl rfl rfl rfl (by kernel_rfl) rfl (fun _ _ _ h => h) ?_
    refine wd_skip (i := 25) [0, 1] rfl rfl rfl rfl (by kernel_rfl) rfl (fun _ _ _ h => h) ?_
    refine wd_skip (i := 26) [0, 1] rfl rfl rfl rfl (by kernel_rfl) rfl (fun _ _ _ h => h) ?_
    refine wd_skip (i := 27) [0, 1] rfl rfl rfl rfl (by kernel_rfl) rfl (fun _ _ _ h => h) ?_
    refine wd_offD 28 rfl rfl rfl rfl (by kernel_rfl) [0, 1] (fun _ => rfl) ?_
    refine wd_take (i := 29) [0, 1] rfl rfl rfl rfl rfl (by kernel_rfl) rfl (fun _ _ _ _ h => h) (yh_pickF rfl rfl rfl) ?_
    refine wd_take (i := 30) [0, 1] rfl rfl rfl rfl rfl (by kernel_rfl) rfl (fun _ _ _ _ h => h) (yh_assign rfl rfl) ?_
    refine wd_done (by kernel_rfl) ?_
    refine ex_seq ?_
    refine cw_ret ?_
    obtain rfl := Option.some.inj h
    exact ex_r1 Tb rfl (.tmp rfl) (fun wq hq => ⟨_, rfl, hq.ext, rfl⟩)

def m_spec_RunDo (N : Nat) (f : Flow) (r : Run) (name : Str) : Option (Run × Bool) := (m_spec_l3Can N f r name).bind fun x12 => (bif !x12 then some ((Run.mk 0 []), false)
 else (appd ([] : List Str) r.done).bind fun l18 => (appd (([] : List Str) ++ r.done) ([name] : List Str)).bind fun l21 => (bif eqb ((((([] : List Str) ++ r.done) ++ ([name] : List Str)).length : Nat) : Int) ((f.steps.length : Nat) : Int) then some ((Run.mk 2 ((([] : List Str) ++ r.done) ++ ([name] : List Str))), true)
 else some ((Run.mk 0 ((([] : List Str) ++ r.done) ++ ([name] : List Str))), true)))

set_option maxHeartbeats 4000000 in
theorem c_spec_RunDo (N : Nat) (f : Flow) (r : Run) (name : Str) (res : Run × Bool) (h : m_spec_RunDo N f r name = some res) (w : World) {a_f_steps a_r_done : Option Addr} {c_f_steps c_r_done : Nat} (h_f_steps : stepsL.rd w [] [.slice a_f_steps f.steps.length c_f_steps] f.steps) (h_r_done : strsL.rd w [] [.slice a_r_done r.done.length c_r_done] r.done) : Ret Try.prog 139 [.agg #[.int .i64 f.ver, .slice a_f_steps f.steps.length c_f_steps], .agg #[.int .i64 r.state, .slice a_r_done r.done.length c_r_done], .string name] w [] fun v w' => ∃ a1 c1 F1, v = .tuple #[.agg #[.int .i64 res.1.state, .slice a1 res.1.done.length c1], .bool res.2] ∧ NewC w w' [owC strsL F1 [.slice a1 res.1.done.length c1] res.1.done] := by
  have mh_f_steps := rd_max h_f_steps
  have mh_r_done := rd_max h_r_done
  unfold m_spec_RunDo at h
  refine ret_enter Try.func139 rfl Try.ntmps139 rfl (Hp.refl w _) ?_
  refine cw_seq ?_
  refine cw_region ?_
  refine wl_u rfl (ow_boxA rfl rfl rfl rfl (fun g3 => kk_wl ?_))
  refine wl_u rfl (ow_boxA rfl rfl rfl rfl (fun g4 => kk_wl ?_))
  refine wl_u rfl (ow_allocA Tb rfl rfl rfl rfl (fun g6 => kk_wl ?_))
  refine wl_u rfl (ow_y (yh_assign rfl rfl) rfl rfl (kk_wl ?_))
  refine wl_nil ?_
  refine ex_seq ?_
  refine cw_seq ?_
  refine cw_seq ?_
  refine cw_region ?_
  refine wl_u rfl (ow_y (yh_loadBA Tb (k := 2) rfl rfl rfl rfl rfl rfl) rfl rfl (kk_wl ?_))
  refine wl_u rfl (ow_y (yh_loadBA Tb (k := 1) rfl rfl rfl rfl rfl rfl) rfl rfl (kk_wl ?_))
  refine wl_u rfl (ow_y (yh_move rfl rfl) rfl rfl (kk_wl ?_))
  obtain ⟨x12, hx12, h⟩ := bd h
  refine wl_u rfl (ow_cV rfl hb142 rfl (fun w hw => c_spec_l3Can N _ _ _ _ hx12 w (Lay.at_ h_f_steps hw) (Lay.at_ h_r_done hw)) rfl rfl (kk_wl ?_))
  refine wl_u rfl (ow_y (yh_not rfl rfl) rfl rfl (kk_wl ?_))
  refine wl_nil ?_
  refine ex_seq ?_
  refine cw_split rfl (fun c1 => ?_) (fun c1 => ?_)
  · skip
    replace h := bt c1 h
    refine cw_seq ?_
    refine cw_region ?_
    refine wl_u rfl (ow_y (yh_build [.int .i64 0, .slice none 0 0] rfl rfl (by kernel_rfl)) rfl rfl (kk_wl ?_))
    refine wl_u rfl (ow_storeA Tb (k := 0) rfl rfl rfl rfl rfl rfl rfl rfl rfl (kk_wl ?_))
    refine wl_u rfl (ow_y (yh_assign rfl rfl) rfl rfl (kk_wl ?_))
    refine wl_nil ?_
    refine ex_seq ?_
    refine cw_ret ?_
    refine ex_then_ret ?_
    refine ex_nilS strsL rfl ?_
    obtain rfl := Option.some.inj h
    exact ex_r2 Tb rfl (.cellA 1 rfl rfl rfl rfl rfl) (.tmp rfl) (fun wq hq => ⟨_, rfl, hq.ext, ⟨none, 0, [], rfl, NewC.sel [0] hq rfl⟩⟩)
  · skip
    replace h := bf c1 h
    refine cw_skip ?_
    refine ex_seq ?_
    refine cw_seq ?_
    refine cw_region ?_
    refine wl_u rfl (ow_lit0 Tb rfl rfl rfl rfl rfl rfl (fun g15 => kk_chg (c' := owC strsL [g15] [.slice (some ⟨g15, 0, none⟩) 0 0] ([] : List Str)) 0 rfl (fun w hA => own_strsL ([] : List Str) hA rfl (by simp [maxLen])) rfl (kk_wl ?_)))
    refine wl_u rfl (ow_y (yh_field Tb rfl rfl rfl) rfl rfl (kk_wl ?_))
    refine wl_u rfl (ow_y (yh_loadB Tb (k := 2) rfl rfl rfl rfl rfl) rfl rfl (kk_wl ?_))
    obtain ⟨hll18, h⟩ := bd_appd h
    refine wl_u rfl (ow_appP Tb (i := 0) rfl rfl rfl rfl rfl (fun w hw => Lay.at_ h_r_done hw) rfl rfl rfl rfl hll18 (by decide) rfl rfl (fun a18 c18 F18 => kk_wl ?_))
    refine wl_u rfl (ow_y (yh_move rfl rfl) rfl rfl (kk_wl ?_))
    refine wl_u rfl (ow_lit1 Tb rfl rfl rfl rfl rfl rfl rfl rfl rfl rfl (fun g20 => kk_chg (c' := owC strsL [g20] [.slice (some ⟨g20, 0, none⟩) 1 1] ([name] : List Str)) 0 rfl (fun w hA => own_strsL ([name] : List Str) hA rfl (by simp [maxLen])) rfl (kk_wl ?_)))
    obtain ⟨hll21, h⟩ := bd_appd h
    refine wl_u rfl (ow_appP Tb (i := 1) rfl rfl rfl rfl rfl (fun w hw => rdo (A := strsL) 0 rfl hw) rfl rfl rfl rfl hll21 (by decide) rfl rfl (fun a21 c21 F21 => kk_wl ?_))
    refine wl_u rfl (ow_y (yh_build [.int .i64 0, .slice a21 (((([] : List Str) ++ r.done) ++ ([name] : List Str)).length) c21] rfl rfl (by kernel_rfl)) rfl rfl (kk_wl ?_))
    refine wl_u rfl (ow_allocA Tb rfl rfl rfl rfl (fun g8 => kk_wl ?_))
    refine wl_u rfl (ow_storeA Tb (k := 0) rfl rfl rfl rfl rfl rfl rfl rfl rfl (kk_wl ?_))
    refine wl_nil ?_
    refine ex_seq ?_
    refine cw_seq ?_
    refine cw_seq ?_
    refine cw_region ?_
    refine wl_u rfl (ow_y (yh_field Tb rfl rfl rfl) rfl rfl (kk_wl ?_))
    refine wl_u rfl (ow_y (yh_loadB Tb (k := 0) rfl rfl rfl rfl rfl) rfl rfl (kk_wl ?_))
    refine wl_know (((([] : List Str) ++ r.done) ++ ([name] : List Str)).length ≤ 9223372036854775807) (fun w hw => own_max 1 rfl hw) (fun mo25 => ?_)
    refine wl_u rfl (ow_y (yh_lenS Tb rfl rfl rfl rfl) rfl rfl (kk_wl ?_))
    refine wl_u rfl (ow_y (yh_field Tb rfl rfl rfl) rfl rfl (kk_wl ?_))
    refine wl_u rfl (ow_y (yh_loadB Tb (k := 5) rfl rfl rfl rfl rfl) rfl rfl (kk_wl ?_))
    refine wl_u rfl (ow_y (yh_lenS Tb rfl rfl rfl rfl) rfl rfl (kk_wl ?_))
    refine wl_u rfl (ow_y (yh_cmpI rfl rfl rfl rfl) rfl rfl (kk_wl ?_))
    refine wl_nil ?_
    refine ex_seq ?_
    refine cw_split rfl (fun c2 => ?_) (fun c2 => ?_)
    · skip
      replace h := bt c2 h
      have q1 := eqb_true.1 c2
      refine cw_region ?_
      refine wl_u rfl (ow_y (yh_field Tb rfl rfl rfl) rfl rfl (kk_wl ?_))
      refine wl_u rfl (ow_store1 Tb (k := 0) rfl rfl rfl rfl rfl rfl rfl rfl rfl (kk_wl ?_))
      refine wl_nil ?_
      refine ex_seq ?_
      refine cw_seq ?_
      refine cw_region ?_
      refine wl_u rfl (ow_y (yh_loadBA Tb (k := 0) rfl rfl rfl rfl rfl rfl) rfl rfl (kk_wl ?_))
      refine wl_u rfl (ow_storeA Tb (k := 3) rfl rfl rfl rfl rfl rfl rfl rfl rfl (kk_wl ?_))
      refine wl_u rfl (ow_y (yh_assign rfl rfl) rfl rfl (kk_wl ?_))
      refine wl_nil ?_
      refine ex_seq ?_
      refine cw_ret ?_
      obtain rfl := Option.some.inj h
      exact ex_r2 Tb rfl (.cellA 0 rfl rfl rfl rfl rfl) (.tmp rfl) (fun wq hq => ⟨_, rfl, hq.ext, ⟨a21, c21, F21, rfl, NewC.sel [2] hq rfl⟩⟩)
    · skip
      replace h := bf c2 h
      have q2 := eqb_false.1 c2
      refine cw_skip ?_
      refine ex_seq ?_
      refine cw_seq ?_
      refine cw_region ?_
      refine wl_u rfl (ow_y (yh_loadBA Tb (k := 0) rfl rfl rfl rfl rfl rfl) rfl rfl (kk_wl ?_))
      refine wl_u rfl (ow_storeA Tb (k := 3) rfl rfl rfl rfl rfl rfl rfl rfl rfl (kk_wl ?_))
      refine wl_u rfl (ow_y (yh_assign rfl rfl) rfl rfl (kk_wl ?_))
      refine wl_nil ?_
      refine ex_seq ?_
      refine cw_ret ?_
      obtain rfl := Option.some.inj h
      exact ex_r2 Tb rfl (.cellA 0 rfl rfl rfl rfl rfl) (.tmp rfl) (fun wq hq => ⟨_, rfl, hq.ext, ⟨a21, c21, F21, rfl, NewC.sel [2] hq rfl⟩⟩)

def m_spec_l3Back (N : Nat) (f : Flow) (done : List Str) : Option (Run) := (appd ([] : List Str) done).bind fun l8 => (m_spec_l3Left N f.steps done).bind fun x13 => (bif eqb x13 ((done.length : Nat) : Int) then some (Run.mk 3 (([] : List Str) ++ done))
 else some (Run.mk 1 (([] : List Str) ++ done)))

set_option maxHeartbeats 4000000 in
theorem c_spec_l3Back (N : Nat) (f : Flow) (done : List Str) (res : Run) (h : m_spec_l3Back N f done = some res) (w : World) {a_done a_f_steps : Option Addr} {c_done c_f_steps : Nat} (h_f_steps : stepsL.rd w [] [.slice a_f_steps f.steps.length c_f_steps] f.steps) (h_done : strsL.rd w [] [.slice a_done done.length c_done] done) : Ret Try.prog 91 [.agg #[.int .i64 f.ver, .slice a_f_steps f.steps.length c_f_steps], .slice a_done done.length c_done] w [] fun v w' => ∃ a1 c1 F1, v = .agg #[.int .i64 res.state, .slice a1 res.done.length c1] ∧ NewC w w' [owC strsL F1 [.slice a1 res.done.length c1] res.done] := by
  have mh_f_steps := rd_max h_f_steps
  have mh_done := rd_max h_done
  unfold m_spec_l3Back at h
  refine ret_enter Try.func91 rfl Try.ntmps91 rfl (Hp.refl w _) ?_
  refine cw_seq ?_
  refine cw_region ?_
  refine wl_u rfl (ow_boxA rfl rfl rfl rfl (fun g2 => kk_wl ?_))
  refine wl_u rfl (ow_allocA Tb rfl rfl rfl rfl (fun g4 => kk_wl ?_))
  refine wl_nil ?_
  refine ex_seq ?_
  refine cw_seq ?_
  refine cw_region ?_
  refine wl_u rfl (ow_lit0 Tb rfl rfl rfl rfl rfl rfl (fun g6 => kk_chg (c' := owC strsL [g6] [.slice (some ⟨g6, 0, none⟩) 0 0] ([] : List Str)) 0 rfl (fun w hA => own_strsL ([] : List Str) hA rfl (by simp [maxLen])) rfl (kk_wl ?_)))
  refine wl_u rfl (ow_y (yh_move rfl rfl) rfl rfl (kk_wl ?_))
  obtain ⟨hll8, h⟩ := bd_appd h
  refine wl_u rfl (ow_appP Tb (i := 0) rfl rfl rfl rfl rfl (fun w hw => Lay.at_ h_done hw) rfl rfl rfl rfl hll8 (by decide) rfl rfl (fun a8 c8 F8 => kk_wl ?_))
  refine wl_u rfl (ow_y (yh_buildA rfl rfl (by kernel_rfl)) rfl rfl (kk_wl ?_))
  refine wl_u rfl (ow_allocA Tb rfl rfl rfl rfl (fun g5 => kk_wl ?_))
  refine wl_u rfl (ow_storeA Tb (k := 0) rfl rfl rfl rfl rfl rfl rfl rfl rfl (kk_wl ?_))
  refine wl_nil ?_
  refine ex_seq ?_
  refine cw_seq ?_
  refine cw_seq ?_
  refine cw_region ?_
  refine wl_u rfl (ow_y (yh_field Tb rfl rfl rfl) rfl rfl (kk_wl ?_))
  refine wl_u rfl (ow_y (yh_loadB Tb (k := 3) rfl rfl rfl rfl rfl) rfl rfl (kk_wl ?_))
  refine wl_u rfl (ow_y (yh_move rfl rfl) rfl rfl (kk_wl ?_))
  obtain ⟨x13, hx13, h⟩ := bd h
  refine wl_u rfl (ow_cV rfl hb125 rfl (fun w hw => c_spec_l3Left N _ _ _ hx13 w (Lay.at_ h_f_steps hw) (Lay.at_ h_done hw)) rfl rfl (kk_wl ?_))
  refine wl_u rfl (ow_y (yh_move rfl rfl) rfl rfl (kk_wl ?_))
  refine wl_u rfl (ow_y (yh_lenS Tb rfl rfl rfl rfl) rfl rfl (kk_wl ?_))
  refine wl_u rfl (ow_y (yh_cmpI rfl rfl rfl rfl) rfl rfl (kk_wl ?_))
  refine wl_nil ?_
  refine ex_seq ?_
  refine cw_split rfl (fun c1 => ?_) (fun c1 => ?_)
  · skip
    replace h := bt c1 h
    have q1 := eqb_true.1 c1
    refine cw_region ?_
    refine wl_u rfl (ow_y (yh_field Tb rfl rfl rfl) rfl rfl (kk_wl ?_))
    refine wl_u rfl (ow_store1 Tb (k := 0) rfl rfl rfl rfl rfl rfl rfl rfl rfl (kk_wl ?_))
    refine wl_nil ?_
    refine ex_seq ?_
    refine cw_seq ?_
    refine cw_region ?_
    refine wl_u rfl (ow_y (yh_loadBA Tb (k := 0) rfl rfl rfl rfl rfl rfl) rfl rfl (kk_wl ?_))
    refine wl_u rfl (ow_storeA Tb (k := 2) rfl rfl rfl rfl rfl rfl rfl rfl rfl (kk_wl ?_))
    refine wl_nil ?_
    refine ex_seq ?_
    refine cw_ret ?_
    obtain rfl := Option.some.inj h
    exact ex_r1 Tb rfl (.cellA 0 rfl rfl rfl rfl rfl) (fun wq hq => ⟨_, rfl, hq.ext, ⟨a8, c8, F8, rfl, NewC.sel [2] hq rfl⟩⟩)
  · skip
    replace h := bf c1 h
    have q2 := eqb_false.1 c1
    refine cw_skip ?_
    refine ex_seq ?_
    refine cw_seq ?_
    refine cw_region ?_
    refine wl_u rfl (ow_y (yh_loadBA Tb (k := 0) rfl rfl rfl rfl rfl rfl) rfl rfl (kk_wl ?_))
    refine wl_u rfl (ow_storeA Tb (k := 2) rfl rfl rfl rfl rfl rfl rfl rfl rfl (kk_wl ?_))
    refine wl_nil ?_
    refine ex_seq ?_
    refine cw_ret ?_
    obtain rfl := Option.some.inj h
    exact ex_r1 Tb rfl (.cellA 0 rfl rfl rfl rfl rfl) (fun wq hq => ⟨_, rfl, hq.ext, ⟨a8, c8, F8, rfl, NewC.sel [2] hq rfl⟩⟩)

def m_spec_l91Run_L10 (N : Nat) (cd : List UInt8) (u1 : Flow) (x25 : (Int) × Nat) : Nat → Nat → Int → (List Str) → Int → Option (Ex (Nat × Int × List Str × Int) ((Run) × Nat))
  | 0, _, _, _, _ => none
  | n + 1, s0_c_1, s5_c_0, s5_c_1, s8 => (bif ltb s8 x25.1 then (m_spec_FlowReady N u1 s5_c_1).bind fun x34 => ((bif ltb 0 ((x34.length : Nat) : Int) then some (eqb s5_c_0 0)
 else some false) : Option (Bool)).bind fun j115 => (bif j115 then (m_spec_l6Rd_pick N cd s0_c_1 ((x34.length : Nat) : Int)).bind fun x50 => (geti x34 x50.1).bind fun y51 => (m_spec_RunDo N u1 (Run.mk s5_c_0 s5_c_1) y51).bind fun x53 => m_spec_l91Run_L10 N cd u1 x25 n x50.2 x53.1.state x53.1.done (w64 (s8 + 1))
 else m_spec_l91Run_L10 N cd u1 x25 n s0_c_1 s5_c_0 s5_c_1 (w64 (s8 + 1)))
 else some (Ex.brk (s0_c_1, s5_c_0, s5_c_1, s8)))

def m_spec_l91Run (N : Nat) (cd : List UInt8) (p : Nat) (u1 : Flow) : Option ((Run) × Nat) := (m_spec_RunNew N u1).bind fun x14 => (bif !x14.2 then some ((Run.mk 0 []), p)
 else (lsz u1.steps.length).bind fun v24_ => (m_spec_l6Rd_pick N cd p (((u1.steps.length : Nat) : Int) + 2)).bind fun x25 => (m_spec_l91Run_L10 N cd u1 x25 N x25.2 x14.1.state x14.1.done 0).bind fun e10 => e10.go (fun r => r) fun b10 => ((bif eqb b10.2.1 0 then (m_spec_l6Rd_pick N cd b10.1 3).bind fun x62 => (bif eqb x62.1 0 then (m_spec_l3Back N u1 b10.2.2.1).bind fun x68 => some (x62.2, x68.state, x68.done)
 else some (x62.2, b10.2.1, b10.2.2.1))
 else some (b10.1, b10.2.1, b10.2.2.1)) : Option (Nat × Int × (List Str))).bind fun j118 => (m_spec_l6Rd_pick N cd j118.1 40).bind fun x70 => (bif eqb x70.1 0 then (m_spec_l6Rd_pick N cd x70.2 6).bind fun x74 => some ((Run.mk (w64 (x74.1 - 1)) j118.2.2), x74.2)
 else (bif eqb x70.1 1 then (appd j118.2.2 ([(⟨#[97]⟩ : Str)] : List Str)).bind fun l82 => some ((Run.mk j118.2.1 (j118.2.2 ++ ([(⟨#[97]⟩ : Str)] : List Str))), x70.2)
 else some ((Run.mk j118.2.1 j118.2.2), x70.2))))

set_option maxHeartbeats 4000000 in
theorem c_spec_l91Run (N : Nat) (cd : List UInt8) (p : Nat) (u1 : Flow) (res : (Run) × Nat) (h : m_spec_l91Run N cd p u1 = some res) (w : World) {a_u1_steps : Option Addr} {c_u1_steps : Nat} {u0 ccd : Nat} {acd : Option Addr} (hr : (blkC u0 120 [.slice acd cd.length ccd, .int .i64 ((p : Nat) : Int)]).A w) (hcd : bytesL.rd w [u0] [.slice acd cd.length ccd] cd) (h_u1_steps : stepsL.rd w [u0] [.slice a_u1_steps u1.steps.length c_u1_steps] u1.steps) : Ret Try.prog 128 [.pointer (some ⟨u0, 0, none⟩), .agg #[.int .i64 u1.ver, .slice a_u1_steps u1.steps.length c_u1_steps]] w [u0] fun v w' => ∃ a1 c1 F1, v = .agg #[.int .i64 res.1.state, .slice a1 res.1.done.length c1] ∧ NewM w w' [u0] [owC strsL F1 [.slice a1 res.1.done.length c1] res.1.done, blkC u0 120 [.slice acd cd.length ccd, .int .i64 ((res.2 : Nat) : Int)]] := by
  have mh_u1_steps := rd_max h_u1_steps
  have mhcd := rd_max hcd
  unfold m_spec_l91Run at h
  refine ret_enter Try.func128 rfl Try.ntmps128 rfl (hp_one hr (by simp [blkC])) ?_
  refine cw_seq ?_
  refine cw_region ?_
  refine wl_u rfl (ow_boxA rfl rfl rfl rfl (fun g3 => kk_wl ?_))
  refine wl_u rfl (ow_allocA Tb rfl rfl rfl rfl (fun g4 => kk_wl ?_))
  refine wl_nil ?_
  refine ex_seq ?_
  refine cw_seq ?_
  refine cw_region ?_
  refine wl_u rfl (ow_y (yh_loadBA Tb (k := 1) rfl rfl rfl rfl rfl rfl) rfl rfl (kk_wl ?_))
  obtain ⟨x14, hx14, h⟩ := bd h
  refine wl_u rfl (ow_cN1 rfl hb137 rfl (fun w hw => c_spec_RunNew N _ _ hx14 w (Lay.at_ h_u1_steps hw)) rfl rfl (fun a14 c14 F14 => kk_wl ?_))
  refine wl_u rfl (ow_y (yh_move rfl rfl) rfl rfl (kk_wl ?_))
  refine wl_u rfl (ow_y (yh_extract rfl rfl rfl) rfl rfl (kk_wl ?_))
  refine wl_u rfl (ow_y (yh_extract rfl rfl rfl) rfl rfl (kk_wl ?_))
  refine wl_u rfl (ow_allocA Tb rfl rfl rfl rfl (fun g5 => kk_wl ?_))
  refine wl_u rfl (ow_storeA Tb (k := 0) rfl rfl rfl rfl rfl rfl rfl rfl rfl (kk_wl ?_))
  refine wl_u rfl (ow_y (yh_assign rfl rfl) rfl rfl (kk_wl ?_))
  refine wl_nil ?_
  refine ex_seq ?_
  refine cw_seq ?_
  refine cw_seq ?_
  refine cw_region ?_
  refine wl_u rfl (ow_y (yh_move rfl rfl) rfl rfl (kk_wl ?_))
  refine wl_u rfl (ow_y (yh_not rfl rfl) rfl rfl (kk_wl ?_))
  refine wl_nil ?_
  refine ex_seq ?_
  refine cw_split rfl (fun c1 => ?_) (fun c1 => ?_)
  · skip
    replace h := bt c1 h
    refine cw_seq ?_
    refine cw_region ?_
    refine wl_u rfl (ow_y (yh_build [.int .i64 0, .slice none 0 0] rfl rfl (by kernel_rfl)) rfl rfl (kk_wl ?_))
    refine wl_u rfl (ow_storeA Tb (k := 2) rfl rfl rfl rfl rfl rfl rfl rfl rfl (kk_wl ?_))
    refine wl_nil ?_
    refine ex_seq ?_
    refine cw_ret ?_
    refine ex_then_ret ?_
    refine ex_nilS strsL rfl ?_
    obtain rfl := Option.some.inj h
    exact ex_r1 Tb rfl (.cellA 1 rfl rfl rfl rfl rfl) (fun wq hq => ⟨_, rfl, hq.ext, ⟨none, 0, [], rfl, NewM.sel [0, 5] hq rfl⟩⟩)
  · skip
    replace h := bf c1 h
    refine cw_skip ?_
    refine ex_seq ?_
    refine cw_seq ?_
    refine cw_region ?_
    refine wl_u rfl (ow_y (yh_move rfl rfl) rfl rfl (kk_wl ?_))
    refine wl_u rfl (ow_y (yh_field Tb rfl rfl rfl) rfl rfl (kk_wl ?_))
    refine wl_u rfl (ow_y (yh_loadB Tb (k := 3) rfl rfl rfl rfl rfl) rfl rfl (kk_wl ?_))
    refine wl_u rfl (ow_y (yh_lenS Tb rfl rfl rfl rfl) rfl rfl (kk_wl ?_))
    obtain ⟨v24_, hv24_, h⟩ := bd h
    have mv24_ := lsz_some hv24_
    refine wl_u rfl (ow_y (yh_arI rfl rfl rfl rfl (by omega)) rfl rfl (kk_wl ?_))
    obtain ⟨x25, hx25, h⟩ := bd h
    refine wl_u rfl (ow_cM0 4 rfl hb71 rfl rfl (fun w hw => c_spec_l6Rd_pick N _ _ _ _ hx25 w (hw.at (i := 4) rfl) (Lay.atR (i := 4) hcd rfl hw)) rfl rfl (kk_wl ?_))
    refine wl_u rfl (ow_y (yh_assign rfl rfl) rfl rfl (kk_wl ?_))
    refine wl_nil ?_
    refine ex_seq ?_
    refine cw_seq ?_
    refine cw_seq ?_
    refine cw_region ?_
    refine wl_u rfl (ow_y (yh_assign rfl rfl) rfl rfl (kk_wl ?_))
    refine wl_nil ?_
    refine ex_seq ?_
    refine cw_block ?_
    obtain ⟨e10, he10, hk10⟩ := bd h
    clear h
    refine cw_loopG (σ := Nat × Nat × Int × (List Str) × Int × (Option Addr) × Nat × (List Nat)) (fun s => m_spec_l91Run_L10 N cd u1 x25 s.1 s.2.1 s.2.2.1 s.2.2.2.1 s.2.2.2.2.1 = some e10) (fun s => [(0, .pointer (some ⟨u0, 0, none⟩)), (3, .pointer (some ⟨g3, 0, none⟩)), (4, .pointer (some ⟨g4, 0, none⟩)), (5, .pointer (some ⟨g5, 0, none⟩)), (7, .int .i64 x25.1), (8, .int .i64 s.2.2.2.2.1)]) (fun s => [blkC u0 120 [.slice acd cd.length ccd, .int .i64 ((s.2.1 : Nat) : Int)], blkC g3 26 [.int .i64 u1.ver, .slice a_u1_steps u1.steps.length c_u1_steps], blkC g4 60 [.int .i64 0, .slice none 0 0], blkC g5 60 [.int .i64 s.2.2.1, .slice s.2.2.2.2.2.1 s.2.2.2.1.length s.2.2.2.2.2.2.1], owC strsL s.2.2.2.2.2.2.2 [.slice s.2.2.2.2.2.1 s.2.2.2.1.length s.2.2.2.2.2.2.1] s.2.2.2.1]) (fun s => s.1) (N, x25.2, x14.1.state, x14.1.done, 0, a14, c14, F14) [0, 4, 3, 1, 2] he10 ⟨rfl, rfl, rfl, rfl, rfl, rfl, trivial⟩ rfl (fun KL s he10 hn10 => ?_)
    obtain ⟨n10, s0_c_1, s5_c_0, s5_c_1, s8, as5_c_1, cs5_c_1, Fs5_c_1⟩ := s
    simp only at he10 hn10 ⊢
    rcases n10 with _ | n10
    · exact nosome he10
    have h := he10; rw [m_spec_l91Run_L10] at h
    refine cw_seq ?_
    refine cw_seq ?_
    refine cw_region ?_
    refine wl_u rfl (ow_y (yh_move rfl rfl) rfl rfl (kk_wl ?_))
    refine wl_u rfl (ow_y (yh_move rfl rfl) rfl rfl (kk_wl ?_))
    refine wl_u rfl (ow_y (yh_cmpI rfl rfl rfl rfl) rfl rfl (kk_wl ?_))
    refine wl_nil ?_
    refine ex_seq ?_
    refine cw_split rfl (fun c2 => ?_) (fun c2 => ?_)
    · skip
      replace h := bt c2 h
      have q1 := ltb_true.1 c2
      refine cw_skip ?_
      refine ex_seq ?_
      refine cw_seq ?_
      refine cw_block ?_
      refine cw_seq ?_
      refine cw_region ?_
      refine wl_u rfl (ow_y (yh_loadBA Tb (k := 1) rfl rfl rfl rfl rfl rfl) rfl rfl (kk_wl ?_))
      refine wl_u rfl (ow_y (yh_field Tb rfl rfl rfl) rfl rfl (kk_wl ?_))
      refine wl_u rfl (ow_y (yh_loadB Tb (k := 3) rfl rfl rfl rfl rfl) rfl rfl (kk_wl ?_))
      obtain ⟨x34, hx34, h⟩ := bd h
      refine wl_u rfl (ow_cN1 rfl hb138 rfl (fun w hw => c_spec_FlowReady N _ _ _ hx34 w (Lay.at_ h_u1_steps hw) (rdo (A := strsL) 4 rfl hw)) rfl rfl (fun a34 c34 F34 => kk_wl ?_))
      refine wl_u rfl (ow_y (yh_assign rfl rfl) rfl rfl (kk_wl ?_))
      refine wl_nil ?_
      refine ex_seq ?_
      obtain ⟨j115, he115, hk115⟩ := bd h
      clear h
      refine cw_cut (σ := Unit) (fun s => True) (fun s => [(0, .pointer (some ⟨u0, 0, none⟩)), (3, .pointer (some ⟨g3, 0, none⟩)), (4, .pointer (some ⟨g4, 0, none⟩)), (5, .pointer (some ⟨g5, 0, none⟩)), (7, .int .i64 x25.1), (8, .int .i64 s8), (9, .slice a34 x34.length c34), (42, .bool j115)]) (fun s => [blkC u0 120 [.slice acd cd.length ccd, .int .i64 ((s0_c_1 : Nat) : Int)], blkC g3 26 [.int .i64 u1.ver, .slice a_u1_steps u1.steps.length c_u1_steps], blkC g4 60 [.int .i64 0, .slice none 0 0], blkC g5 60 [.int .i64 s5_c_0, .slice as5_c_1 s5_c_1.length cs5_c_1], owC strsL Fs5_c_1 [.slice as5_c_1 s5_c_1.length cs5_c_1] s5_c_1, owC strsL F34 [.slice a34 x34.length c34] x34]) (fun s hI => ?_) (fun KL hn115 => ?_)
      · skip
        have h := hk115
        refine cw_split rfl (fun c3 => ?_) (fun c3 => ?_)
        · skip
          replace h := bt c3 h
          refine cw_seq ?_
          refine cw_dr [0, 1, 2, 3, 4, 5, 7, 8, 10, 11, 12, 15] [] [blkC g3 26 [.int .i64 u1.ver, .slice a_u1_steps u1.steps.length c_u1_steps], blkC g4 60 [.int .i64 0, .slice none 0 0], blkC g5 60 [.int .i64 s5_c_0, .slice as5_c_1 s5_c_1.length cs5_c_1], owC strsL Fs5_c_1 [.slice as5_c_1 s5_c_1.length cs5_c_1] s5_c_1, owC strsL F34 [.slice a34 x34.length c34] x34] (by kernel_rfl) ?_
          refine wd_take (i := 0) [1, 2, 3, 4, 5] rfl rfl rfl rfl rfl (by kernel_rfl) rfl (fun _ _ _ _ h => h) (yh_loadBA Tb (k := 0) rfl rfl rfl rfl rfl rfl) ?_
          refine wd_take (i := 1) [1, 2, 3, 4, 5] rfl rfl rfl rfl rfl (by kernel_rfl) rfl (fun _ _ _ _ h => h) (yh_loadBA Tb (k := 2) rfl rfl rfl rfl rfl rfl) ?_
          refine wd_take (i := 2) [1, 2, 3, 4, 5] rfl rfl rfl rfl rfl (by kernel_rfl) rfl (fun _ _ _ _ h => h) (yh_move rfl rfl) ?_
          refine wd_take (i := 3) [1, 2, 3, 4, 5] rfl rfl rfl rfl rfl (by kernel_rfl) rfl (fun _ _ _ _ h => h) (yh_move rfl rfl) ?_
          refine wd_take (i := 4) [1, 2, 3, 4, 5] rfl rfl rfl rfl rfl (by kernel_rfl) rfl (fun _ _ _ _ h => h) (yh_move rfl rfl) ?_
          refine wd_know (x34.length ≤ 9223372036854775807) (fun w hw => own_max 5 rfl hw) (fun mo49 => ?_)
          refine wd_take (i := 5) [1, 2, 3, 4, 5] rfl rfl rfl rfl rfl (by kernel_rfl) rfl (fun _ _ _ _ h => h) (yh_lenS Tb rfl rfl rfl rfl) ?_
          refine wd_all [6, 13] (by kernel_rfl) (by simp) (fun i hi => ?_)
          simp only [List.mem_cons, List.not_mem_nil, or_false] at hi
          rcases hi with rfl | rfl
          · refine ⟨_, rfl, rfl, ?_⟩
            obtain ⟨x50, hx50, h⟩ := bd h
            refine (ow_cM0 0 rfl hb71 rfl rfl (fun w hw => c_spec_l6Rd_pick N _ _ _ _ hx50 w (hw.at (i := 0) rfl) (Lay.atR (i := 0) hcd rfl hw)) rfl rfl (kk_wd [1, 2, 3, 4, 5] rfl ?_))
            obtain ⟨y51, zy51, h⟩ := bd h
            obtain ⟨iy51, hy51⟩ := geti_some zy51
            refine wd_ex (fun g => a34 = some ⟨g, 0, none⟩) (fun w hw => own_addrK 5 rfl hy51 hw) (fun g51 hg51 => ?_)
            subst hg51
            refine wd_take (i := 7) [1, 2, 3, 4, 5] rfl rfl rfl rfl rfl (by kernel_rfl) rfl (fun _ _ _ _ h => h) (yh_idx Tb (k := x50.1.toNat) rfl rfl rfl iy51 (get_lt hy51) rfl rfl) ?_
            refine wd_take (i := 8) [1, 2, 3, 4, 5] rfl rfl rfl rfl rfl (by kernel_rfl) rfl (fun _ _ _ _ h => h) (yh_loadO0 Tb 4 rfl rfl rfl rfl rfl hy51 rfl) ?_
            refine wd_all [9, 13] (by kernel_rfl) (by simp) (fun i hi => ?_)
            simp only [List.mem_cons, List.not_mem_nil, or_false] at hi
            rcases hi with rfl | rfl
            · refine ⟨_, rfl, rfl, ?_⟩
              obtain ⟨x53, hx53, h⟩ := bd h
              refine (ow_cN1 rfl hb139 rfl (fun w hw => c_spec_RunDo N _ _ _ _ hx53 w (Lay.at_ h_u1_steps hw) (rdo (A := strsL) 4 rfl hw)) rfl rfl (fun a53 c53 F53 => kk_wd [2, 3, 4, 5, 6] rfl ?_))
              refine wd_take (i := 10) [2, 3, 4, 5, 6] rfl rfl rfl rfl rfl (by kernel_rfl) rfl (fun _ _ _ _ h => h) (yh_move rfl rfl) ?_
              refine wd_take (i := 11) [2, 3, 4, 5, 6] rfl rfl rfl rfl rfl (by kernel_rfl) rfl (fun _ _ _ _ h => h) (yh_extract rfl rfl rfl) ?_
              refine wd_take (i := 12) [2, 3, 4, 5, 6] rfl rfl rfl rfl rfl (by kernel_rfl) rfl (fun _ _ _ _ h => h) (yh_extract rfl rfl rfl) ?_
              refine wd_one 13 rfl rfl (by kernel_rfl) (ow_allocA Tb rfl rfl rfl rfl (fun g10 => kk_wd [3, 4, 5, 6, 7] rfl ?_))
              refine wd_one 14 rfl rfl (by kernel_rfl) (ow_storeA Tb (k := 0) rfl rfl rfl rfl rfl rfl rfl rfl rfl (kk_wd [3, 4, 5, 6, 7] rfl ?_))
              refine wd_take (i := 15) [3, 4, 5, 6, 7] rfl rfl rfl rfl rfl (by kernel_rfl) rfl (fun _ _ _ _ h => h) (yh_assign rfl rfl) ?_
              refine wd_done (by kernel_rfl) ?_
              refine ex_seq ?_
              refine cw_region ?_
              refine wl_u rfl (ow_y (yh_loadBA Tb (k := 0) rfl rfl rfl rfl rfl rfl) rfl rfl (kk_wl ?_))
              refine wl_u rfl (ow_storeA Tb (k := 5) rfl rfl rfl rfl rfl rfl rfl rfl rfl (kk_wl ?_))
              refine wl_nil ?_
              refine ex_block_normal ?_
              refine ex_seq ?_
              refine cw_region ?_
              refine wl_u rfl (ow_y (yh_move rfl rfl) rfl rfl (kk_wl ?_))
              refine wl_u rfl (ow_y (yh_arW rfl rfl rfl rfl) rfl rfl (kk_wl ?_))
              refine wl_u rfl (ow_y (yh_assign rfl rfl) rfl rfl (kk_wl ?_))
              refine wl_nil ?_
              exact ex_next [3, 4, 5, 0, 2] (hn10 (n10, x50.2, x53.1.state, x53.1.done, w64 (s8 + 1), a53, c53, F53) (Nat.lt_succ_self _) h) ⟨rfl, rfl, rfl, rfl, rfl, rfl, trivial⟩ rfl
            · refine ⟨_, rfl, rfl, ?_⟩
              refine (ow_allocA Tb rfl rfl rfl rfl (fun g10 => kk_wd [2, 3, 4, 5, 6] rfl ?_))
              obtain ⟨x53, hx53, h⟩ := bd h
              refine wd_one 9 rfl rfl (by kernel_rfl) (ow_cN1 rfl hb139 rfl (fun w hw => c_spec_RunDo N _ _ _ _ hx53 w (Lay.at_ h_u1_steps hw) (rdo (A := strsL) 5 rfl hw)) rfl rfl (fun a53 c53 F53 => kk_wd [3, 4, 5, 6, 7] rfl ?_))
              refine wd_take (i := 10) [3, 4, 5, 6, 7] rfl rfl rfl rfl rfl (by kernel_rfl) rfl (fun _ _ _ _ h => h) (yh_move rfl rfl) ?_
              refine wd_take (i := 11) [3, 4, 5, 6, 7] rfl rfl rfl rfl rfl (by kernel_rfl) rfl (fun _ _ _ _ h => h) (yh_extract rfl rfl rfl) ?_
              refine wd_take (i := 12) [3, 4, 5, 6, 7] rfl rfl rfl rfl rfl (by kernel_rfl) rfl (fun _ _ _ _ h => h) (yh_extract rfl rfl rfl) ?_
              refine wd_one 14 rfl rfl (by kernel_rfl) (ow_storeA Tb (k := 1) rfl rfl rfl rfl rfl rfl rfl rfl rfl (kk_wd [3, 4, 5, 6, 7] rfl ?_))
              refine wd_take (i := 15) [3, 4, 5, 6, 7] rfl rfl rfl rfl rfl (by kernel_rfl) rfl (fun _ _ _ _ h => h) (yh_assign rfl rfl) ?_
              refine wd_done (by kernel_rfl) ?_
              refine ex_seq ?_
              refine cw_region ?_
              refine wl_u rfl (ow_y (yh_loadBA Tb (k := 0) rfl rfl rfl rfl rfl rfl) rfl rfl (kk_wl ?_))
              refine wl_u rfl (ow_storeA Tb (k := 5) rfl rfl rfl rfl rfl rfl rfl rfl rfl (kk_wl ?_))
              refine wl_nil ?_
              refine ex_block_normal ?_
              refine ex_seq ?_
              refine cw_region ?_
              refine wl_u rfl (ow_y (yh_move rfl rfl) rfl rfl (kk_wl ?_))
              refine wl_u rfl (ow_y (yh_arW rfl rfl rfl rfl) rfl rfl (kk_wl ?_))
              refine wl_u rfl (ow_y (yh_assign rfl rfl) rfl rfl (kk_wl ?_))
              refine wl_nil ?_
              exact ex_next [3, 4, 5, 0, 2] (hn10 (n10, x50.2, x53.1.state, x53.1.done, w64 (s8 + 1), a53, c53, F53) (Nat.lt_succ_self _) h) ⟨rfl, rfl, rfl, rfl, rfl, rfl, trivial⟩ rfl
          · refine ⟨_, rfl, rfl, ?_⟩
            refine (ow_allocA Tb rfl rfl rfl rfl (fun g10 => kk_wd [2, 3, 4, 5, 6] rfl ?_))
            obtain ⟨x50, hx50, h⟩ := bd h
            refine wd_one 6 rfl rfl (by kernel_rfl) (ow_cM0 1 rfl hb71 rfl rfl (fun w hw => c_spec_l6Rd_pick N _ _ _ _ hx50 w (hw.at (i := 1) rfl) (Lay.atR (i := 1) hcd rfl hw)) rfl rfl (kk_wd [2, 3, 4, 5, 6] rfl ?_))
            obtain ⟨y51, zy51, h⟩ := bd h
            obtain ⟨iy51, hy51⟩ := geti_some zy51
            refine wd_ex (fun g => a34 = some ⟨g, 0, none⟩) (fun w hw => own_addrK 6 rfl hy51 hw) (fun g51 hg51 => ?_)
            subst hg51
            refine wd_take (i := 7) [2, 3, 4, 5, 6] rfl rfl rfl rfl rfl (by kernel_rfl) rfl (fun _ _ _ _ h => h) (yh_idx Tb (k := x50.1.toNat) rfl rfl rfl iy51 (get_lt hy51) rfl rfl) ?_
            refine wd_take (i := 8) [2, 3, 4, 5, 6] rfl rfl rfl rfl rfl (by kernel_rfl) rfl (fun _ _ _ _ h => h) (yh_loadO0 Tb 4 rfl rfl rfl rfl rfl hy51 rfl) ?_
            obtain ⟨x53, hx53, h⟩ := bd h
            refine wd_one 9 rfl rfl (by kernel_rfl) (ow_cN1 rfl hb139 rfl (fun w hw => c_spec_RunDo N _ _ _ _ hx53 w (Lay.at_ h_u1_steps hw) (rdo (A := strsL) 5 rfl hw)) rfl rfl (fun a53 c53 F53 => kk_wd [3, 4, 5, 6, 7] rfl ?_))
            refine wd_take (i := 10) [3, 4, 5, 6, 7] rfl rfl rfl rfl rfl (by kernel_rfl) rfl (fun _ _ _ _ h => h) (yh_move rfl rfl) ?_
            refine wd_take (i := 11) [3, 4, 5, 6, 7] rfl rfl rfl rfl rfl (by kernel_rfl) rfl (fun _ _ _ _ h => h) (yh_extract rfl rfl rfl) ?_
            refine wd_take (i := 12) [3, 4, 5, 6, 7] rfl rfl rfl rfl rfl (by kernel_rfl) rfl (fun _ _ _ _ h => h) (yh_extract rfl rfl rfl) ?_
            refine wd_one 14 rfl rfl (by kernel_rfl) (ow_storeA Tb (k := 2) rfl rfl rfl rfl rfl rfl rfl rfl rfl (kk_wd [3, 4, 5, 6, 7] rfl ?_))
            refine wd_take (i := 15) [3, 4, 5, 6, 7] rfl rfl rfl rfl rfl (by kernel_rfl) rfl (fun _ _ _ _ h => h) (yh_assign rfl rfl) ?_
            refine wd_done (by kernel_rfl) ?_
            refine ex_seq ?_
            refine cw_region ?_
            refine wl_u rfl (ow_y (yh_loadBA Tb (k := 0) rfl rfl rfl rfl rfl rfl) rfl rfl (kk_wl ?_))
            refine wl_u rfl (ow_storeA Tb (k := 5) rfl rfl rfl rfl rfl rfl rfl rfl rfl (kk_wl ?_))
            refine wl_nil ?_
            refine ex_block_normal ?_
            refine ex_seq ?_
            refine cw_region ?_
            refine wl_u rfl (ow_y (yh_move rfl rfl) rfl rfl (kk_wl ?_))
            refine wl_u rfl (ow_y (yh_arW rfl rfl rfl rfl) rfl rfl (kk_wl ?_))
            refine wl_u rfl (ow_y (yh_assign rfl rfl) rfl rfl (kk_wl ?_))
            refine wl_nil ?_
            exact ex_next [3, 4, 5, 0, 2] (hn10 (n10, x50.2, x53.1.state, x53.1.done, w64 (s8 + 1), a53, c53, F53) (Nat.lt_succ_self _) h) ⟨rfl, rfl, rfl, rfl, rfl, rfl, trivial⟩ rfl
        · skip
          replace h := bf c3 h
          refine cw_skip ?_
          refine ex_block_normal ?_
          refine ex_seq ?_
          refine cw_region ?_
          refine wl_u rfl (ow_y (yh_move rfl rfl) rfl rfl (kk_wl ?_))
          refine wl_u rfl (ow_y (yh_arW rfl rfl rfl rfl) rfl rfl (kk_wl ?_))
          refine wl_u rfl (ow_y (yh_assign rfl rfl) rfl rfl (kk_wl ?_))
          refine wl_nil ?_
          exact ex_next [0, 1, 2, 3, 4] (hn10 (n10, s0_c_1, s5_c_0, s5_c_1, w64 (s8 + 1), as5_c_1, cs5_c_1, Fs5_c_1) (Nat.lt_succ_self _) h) ⟨rfl, rfl, rfl, rfl, rfl, rfl, trivial⟩ rfl
      · skip
        have h := he115
        refine cw_region ?_
        refine wl_u rfl (ow_y (yh_move rfl rfl) rfl rfl (kk_wl ?_))
        refine wl_know (x34.length ≤ 9223372036854775807) (fun w hw => own_max 0 rfl hw) (fun mo36 => ?_)
        refine wl_u rfl (ow_y (yh_lenS Tb rfl rfl rfl rfl) rfl rfl (kk_wl ?_))
        refine wl_u rfl (ow_y (yh_cmpI rfl rfl rfl rfl) rfl rfl (kk_wl ?_))
        refine wl_u rfl (ow_y (yh_move rfl rfl) rfl rfl (kk_wl ?_))
        refine wl_s rfl rfl (fun c4 => ?_) (fun c4 => ?_)
        · skip
          replace h := bt c4 h
          have q2 := ltb_true.1 c4
          refine wl_g rfl rfl (ow_y (yh_field Tb rfl rfl rfl) rfl rfl (kk_wl ?_))
          refine wl_g rfl rfl (ow_y (yh_loadB Tb (k := 4) rfl rfl rfl rfl rfl) rfl rfl (kk_wl ?_))
          refine wl_g rfl rfl (ow_y (yh_cmpI rfl rfl rfl rfl) rfl rfl (kk_wl ?_))
          refine wl_u rfl (ow_y (yh_pickT rfl rfl rfl) rfl rfl (kk_wl ?_))
          refine wl_nil ?_
          obtain rfl := Option.some.inj h
          exact ex_next [1, 2, 3, 4, 5, 0] (hn115 () trivial) ⟨rfl, rfl, rfl, rfl, rfl, rfl, rfl, rfl, trivial⟩ rfl
        · skip
          replace h := bf c4 h
          have q3 := ltb_false.1 c4
          refine wl_n rfl rfl rfl rfl ?_
          refine wl_n rfl rfl rfl rfl ?_
          refine wl_n rfl rfl rfl rfl ?_
          refine wl_u rfl (ow_y (yh_pickF rfl rfl rfl) rfl rfl (kk_wl ?_))
          refine wl_nil ?_
          obtain rfl := Option.some.inj h
          exact ex_next [1, 2, 3, 4, 5, 0] (hn115 () trivial) ⟨rfl, rfl, rfl, rfl, rfl, rfl, rfl, rfl, trivial⟩ rfl
    · skip
      replace h := bf c2 h
      have q4 := ltb_false.1 c2
      refine cw_exit ?_
      refine ex_then_exit ?_
      refine ex_then_exit ?_
      obtain rfl := Option.some.inj h
      have h := go_brk hk10
      refine ex_block_exit ?_
      refine ex_seq ?_
      obtain ⟨j118, he118, hk118⟩ := bd h
      clear h
      refine cw_cut (σ := (Option Addr) × Nat × (List Nat)) (fun s => True) (fun s => [(0, .pointer (some ⟨u0, 0, none⟩)), (4, .pointer (some ⟨g4, 0, none⟩)), (5, .pointer (some ⟨g5, 0, none⟩))]) (fun s => [blkC u0 120 [.slice acd cd.length ccd, .int .i64 ((j118.1 : Nat) : Int)], blkC g4 60 [.int .i64 0, .slice none 0 0], blkC g5 60 [.int .i64 j118.2.1, .slice s.1 j118.2.2.length s.2.1], owC strsL s.2.2 [.slice s.1 j118.2.2.length s.2.1] j118.2.2]) (fun s hI => ?_) (fun KL hn118 => ?_)
      · skip
        obtain ⟨ak118_5_c_1, ck118_5_c_1, Fk118_5_c_1⟩ := s
        simp only at ⊢
        have h := hk118
        refine cw_seq ?_
        refine cw_seq ?_
        refine cw_region ?_
        refine wl_u rfl (ow_y (yh_move rfl rfl) rfl rfl (kk_wl ?_))
        obtain ⟨x70, hx70, h⟩ := bd h
        have mp70 := pick_lt hx70 (by decide)
        refine wl_u rfl (ow_cM0 0 rfl hb71 rfl rfl (fun w hw => c_spec_l6Rd_pick N _ _ _ _ hx70 w (hw.at (i := 0) rfl) (Lay.atR (i := 0) hcd rfl hw)) rfl rfl (kk_wl ?_))
        refine wl_nil ?_
        refine ex_seq ?_
        refine cw_block ?_
        refine cw_seq ?_
        refine cw_region ?_
        refine wl_u rfl (ow_y (yh_cmpI rfl rfl rfl rfl) rfl rfl (kk_wl ?_))
        refine wl_u rfl (ow_y (yh_assign rfl rfl) rfl rfl (kk_wl ?_))
        refine wl_nil ?_
        refine ex_seq ?_
        refine cw_split rfl (fun c5 => ?_) (fun c5 => ?_)
        · skip
          replace h := bt c5 h
          have q5 := eqb_true.1 c5
          refine cw_region ?_
          refine wl_u rfl (ow_y (yh_move rfl rfl) rfl rfl (kk_wl ?_))
          obtain ⟨x74, hx74, h⟩ := bd h
          have mp74 := pick_lt hx74 (by decide)
          refine wl_u rfl (ow_cM0 0 rfl hb71 rfl rfl (fun w hw => c_spec_l6Rd_pick N _ _ _ _ hx74 w (hw.at (i := 0) rfl) (Lay.atR (i := 0) hcd rfl hw)) rfl rfl (kk_wl ?_))
          refine wl_u rfl (ow_y (yh_arW rfl rfl rfl rfl) rfl rfl (kk_wl ?_))
          refine wl_u rfl (ow_y (yh_field Tb rfl rfl rfl) rfl rfl (kk_wl ?_))
          refine wl_u rfl (ow_store1 Tb (k := 2) rfl rfl rfl rfl rfl rfl rfl rfl rfl (kk_wl ?_))
          refine wl_nil ?_
          refine ex_block_normal ?_
          refine ex_seq ?_
          refine cw_seq ?_
          refine cw_region ?_
          refine wl_u rfl (ow_y (yh_loadBA Tb (k := 0) rfl rfl rfl rfl rfl rfl) rfl rfl (kk_wl ?_))
          refine wl_u rfl (ow_storeA Tb (k := 2) rfl rfl rfl rfl rfl rfl rfl rfl rfl (kk_wl ?_))
          refine wl_nil ?_
          refine ex_seq ?_
          refine cw_ret ?_
          obtain rfl := Option.some.inj h
          exact ex_r1 Tb rfl (.cellA 0 rfl rfl rfl rfl rfl) (fun wq hq => ⟨_, rfl, hq.ext, ⟨ak118_5_c_1, ck118_5_c_1, Fk118_5_c_1, rfl, NewM.sel [3, 2] hq rfl⟩⟩)
        · skip
          replace h := bf c5 h
          have q6 := eqb_false.1 c5
          refine cw_seq ?_
          refine cw_region ?_
          refine wl_u rfl (ow_y (yh_cmpI rfl rfl rfl rfl) rfl rfl (kk_wl ?_))
          refine wl_u rfl (ow_y (yh_assign rfl rfl) rfl rfl (kk_wl ?_))
          refine wl_nil ?_
          refine ex_seq ?_
          refine cw_split rfl (fun c6 => ?_) (fun c6 => ?_)
          · skip
            replace h := bt c6 h
            have q7 := eqb_true.1 c6
            refine cw_region ?_
            refine wl_u rfl (ow_y (yh_field Tb rfl rfl rfl) rfl rfl (kk_wl ?_))
            refine wl_u rfl (ow_y (yh_loadB Tb (k := 2) rfl rfl rfl rfl rfl) rfl rfl (kk_wl ?_))
            refine wl_u rfl (ow_lit1 Tb rfl rfl rfl rfl rfl rfl rfl rfl rfl rfl (fun g81 => kk_chg (c' := owC strsL [g81] [.slice (some ⟨g81, 0, none⟩) 1 1] ([(⟨#[97]⟩ : Str)] : List Str)) 0 rfl (fun w hA => own_strsL ([(⟨#[97]⟩ : Str)] : List Str) hA rfl (by simp [maxLen])) rfl (kk_wl ?_)))
            obtain ⟨hll82, h⟩ := bd_appd h
            refine wl_u rfl (ow_appP Tb (i := 4) rfl rfl rfl rfl rfl (fun w hw => rdo (A := strsL) 0 rfl hw) rfl rfl rfl rfl hll82 (by decide) rfl rfl (fun a82 c82 F82 => kk_wl ?_))
            refine wl_u rfl (ow_y (yh_field Tb rfl rfl rfl) rfl rfl (kk_wl ?_))
            refine wl_u rfl (ow_store1 Tb (k := 4) rfl rfl rfl rfl rfl rfl rfl rfl rfl (kk_wl ?_))
            refine wl_nil ?_
            refine ex_block_normal ?_
            refine ex_seq ?_
            refine cw_seq ?_
            refine cw_region ?_
            refine wl_u rfl (ow_y (yh_loadBA Tb (k := 0) rfl rfl rfl rfl rfl rfl) rfl rfl (kk_wl ?_))
            refine wl_u rfl (ow_storeA Tb (k := 4) rfl rfl rfl rfl rfl rfl rfl rfl rfl (kk_wl ?_))
            refine wl_nil ?_
            refine ex_seq ?_
            refine cw_ret ?_
            obtain rfl := Option.some.inj h
            exact ex_r1 Tb rfl (.cellA 0 rfl rfl rfl rfl rfl) (fun wq hq => ⟨_, rfl, hq.ext, ⟨a82, c82, F82, rfl, NewM.sel [2, 4] hq rfl⟩⟩)
          · skip
            replace h := bf c6 h
            have q8 := eqb_false.1 c6
            refine cw_skip ?_
            refine ex_block_normal ?_
            refine ex_seq ?_
            refine cw_seq ?_
            refine cw_region ?_
            refine wl_u rfl (ow_y (yh_loadBA Tb (k := 2) rfl rfl rfl rfl rfl rfl) rfl rfl (kk_wl ?_))
            refine wl_u rfl (ow_storeA Tb (k := 1) rfl rfl rfl rfl rfl rfl rfl rfl rfl (kk_wl ?_))
            refine wl_nil ?_
            refine ex_seq ?_
            refine cw_ret ?_
            obtain rfl := Option.some.inj h
            exact ex_r1 Tb rfl (.cellA 0 rfl rfl rfl rfl rfl) (fun wq hq => ⟨_, rfl, hq.ext, ⟨ak118_5_c_1, ck118_5_c_1, Fk118_5_c_1, rfl, NewM.sel [3, 1] hq rfl⟩⟩)
      · skip
        have h := he118
        refine cw_seq ?_
        refine cw_region ?_
        refine wl_u rfl (ow_y (yh_field Tb rfl rfl rfl) rfl rfl (kk_wl ?_))
        refine wl_u rfl (ow_y (yh_loadB Tb (k := 3) rfl rfl rfl rfl rfl) rfl rfl (kk_wl ?_))
        refine wl_u rfl (ow_y (yh_cmpI rfl rfl rfl rfl) rfl rfl (kk_wl ?_))
        refine wl_u rfl (ow_y (yh_move rfl rfl) rfl rfl (kk_wl ?_))
        refine wl_s rfl rfl (fun c7 => ?_) (fun c7 => ?_)
        · skip
          replace h := bt c7 h
          have q9 := eqb_true.1 c7
          refine wl_g rfl rfl (ow_y (yh_move rfl rfl) rfl rfl (kk_wl ?_))
          obtain ⟨x62, hx62, h⟩ := bd h
          have mp62 := pick_lt hx62 (by decide)
          refine wl_g rfl rfl (ow_cM0 0 rfl hb71 rfl rfl (fun w hw => c_spec_l6Rd_pick N _ _ _ _ hx62 w (hw.at (i := 0) rfl) (Lay.atR (i := 0) hcd rfl hw)) rfl rfl (kk_wl ?_))
          refine wl_g rfl rfl (ow_y (yh_cmpI rfl rfl rfl rfl) rfl rfl (kk_wl ?_))
          refine wl_u rfl (ow_y (yh_pickT rfl rfl rfl) rfl rfl (kk_wl ?_))
          refine wl_nil ?_
          refine ex_seq ?_
          refine cw_split rfl (fun c8 => ?_) (fun c8 => ?_)
          · skip
            replace h := bt c8 h
            have q10 := eqb_true.1 c8
            refine cw_region ?_
            refine wl_u rfl (ow_y (yh_loadBA Tb (k := 1) rfl rfl rfl rfl rfl rfl) rfl rfl (kk_wl ?_))
            refine wl_u rfl (ow_y (yh_field Tb rfl rfl rfl) rfl rfl (kk_wl ?_))
            refine wl_u rfl (ow_y (yh_loadB Tb (k := 3) rfl rfl rfl rfl rfl) rfl rfl (kk_wl ?_))
            obtain ⟨x68, hx68, h⟩ := bd h
            refine wl_u rfl (ow_cN1 rfl hb91 rfl (fun w hw => c_spec_l3Back N _ _ _ hx68 w (Lay.at_ h_u1_steps hw) (rdo (A := strsL) 4 rfl hw)) rfl rfl (fun a68 c68 F68 => kk_wl ?_))
            refine wl_u rfl (ow_storeA Tb (k := 4) rfl rfl rfl rfl rfl rfl rfl rfl rfl (kk_wl ?_))
            refine wl_nil ?_
            obtain rfl := Option.some.inj h
            exact ex_next [2, 4, 0, 1] (hn118 (a68, c68, F68) trivial) ⟨rfl, rfl, rfl, trivial⟩ rfl
          · skip
            replace h := bf c8 h
            have q11 := eqb_false.1 c8
            refine cw_skip ?_
            obtain rfl := Option.some.inj h
            exact ex_next [0, 2, 3, 4] (hn118 (as5_c_1, cs5_c_1, Fs5_c_1) trivial) ⟨rfl, rfl, rfl, trivial⟩ rfl
        · skip
          replace h := bf c7 h
          have q12 := eqb_false.1 c7
          refine wl_n rfl rfl rfl rfl ?_
          refine wl_n rfl rfl rfl rfl ?_
          refine wl_n rfl rfl rfl rfl ?_
          refine wl_u rfl (ow_y (yh_pickF rfl rfl rfl) rfl rfl (kk_wl ?_))
          refine wl_nil ?_
          refine ex_seq ?_
          refine cw_false rfl ?_
          refine cw_skip ?_
          obtain rfl := Option.some.inj h
          exact ex_next [0, 2, 3, 4] (hn118 (as5_c_1, cs5_c_1, Fs5_c_1) trivial) ⟨rfl, rfl, rfl, trivial⟩ rfl

def m_spec_l91Both (N : Nat) (cd : List UInt8) (p : Nat) : Option ((Flow × Run) × Nat) := (m_spec_l91Flow N cd p).bind fun x6 => (m_spec_l91Run N cd x6.2 x6.1).bind fun x10 => some ((x6.1, x10.1), x10.2)

set_option maxHeartbeats 4000000 in
theorem c_spec_l91Both (N : Nat) (cd : List UInt8) (p : Nat) (res : (Flow × Run) × Nat) (h : m_spec_l91Both N cd p = some res) (w : World) {r ccd : Nat} {acd : Option Addr} (hr : (blkC r 120 [.slice acd cd.length ccd, .int .i64 ((p : Nat) : Int)]).A w) (hcd : bytesL.rd w [r] [.slice acd cd.length ccd] cd) : Ret Try.prog 102 [.pointer (some ⟨r, 0, none⟩)] w [r] fun v w' => ∃ a1 c1 F1 a2 c2 F2, v = .tuple #[.agg #[.int .i64 res.1.1.ver, .slice a1 res.1.1.steps.length c1], .agg #[.int .i64 res.1.2.state, .slice a2 res.1.2.done.length c2]] ∧ NewM w w' [r] [owC stepsL F1 [.slice a1 res.1.1.steps.length c1] res.1.1.steps, owC strsL F2 [.slice a2 res.1.2.done.length c2] res.1.2.done, blkC r 120 [.slice acd cd.length ccd, .int .i64 ((res.2 : Nat) : Int)]] := by
  have mhcd := rd_max hcd
  unfold m_spec_l91Both at h
  refine ret_enter Try.func102 rfl Try.ntmps102 rfl (hp_one hr (by simp [blkC])) ?_
  refine cw_seq ?_
  refine cw_region ?_
  refine wl_u rfl (ow_allocA Tb rfl rfl rfl rfl (fun g2 => kk_wl ?_))
  refine wl_u rfl (ow_allocA Tb rfl rfl rfl rfl (fun g3 => kk_wl ?_))
  refine wl_nil ?_
  refine ex_seq ?_
  refine cw_seq ?_
  refine cw_region ?_
  refine wl_u rfl (ow_y (yh_move rfl rfl) rfl rfl (kk_wl ?_))
  obtain ⟨x6, hx6, h⟩ := bd h
  refine wl_u rfl (ow_cM1 2 rfl hb61 rfl rfl (fun w hw => c_spec_l91Flow N _ _ _ hx6 w (hw.at (i := 2) rfl) (Lay.atR (i := 2) hcd rfl hw)) rfl rfl (fun a6 c6 F6 => kk_wl ?_))
  refine wl_u rfl (ow_allocA Tb rfl rfl rfl rfl (fun g4 => kk_wl ?_))
  refine wl_u rfl (ow_storeA Tb (k := 0) rfl rfl rfl rfl rfl rfl rfl rfl rfl (kk_wl ?_))
  refine wl_nil ?_
  refine ex_seq ?_
  refine cw_seq ?_
  refine cw_dr [0, 1, 2] [4, 5] [blkC g4 26 [.int .i64 x6.1.ver, .slice a6 x6.1.steps.length c6], owC stepsL F6 [.slice a6 x6.1.steps.length c6] x6.1.steps, blkC g3 60 [.int .i64 0, .slice none 0 0], blkC g2 26 [.int .i64 0, .slice none 0 0]] (by kernel_rfl) ?_
  refine wd_take (i := 0) [0, 1, 3, 4] rfl rfl rfl rfl rfl (by kernel_rfl) rfl (fun _ _ _ _ h => h) (yh_loadBA Tb (k := 0) rfl rfl rfl rfl rfl rfl) ?_
  refine wd_take (i := 1) [0, 1, 3, 4] rfl rfl rfl rfl rfl (by kernel_rfl) rfl (fun _ _ _ _ h => h) (yh_move rfl rfl) ?_
  refine wd_take (i := 2) [0, 1, 3, 4] rfl rfl rfl rfl rfl (by kernel_rfl) rfl (fun _ _ _ _ h => h) (yh_loadBA Tb (k := 0) rfl rfl rfl rfl rfl rfl) ?_
  obtain ⟨x10, hx10, h⟩ := bd h
  refine wd_one 3 rfl rfl (by kernel_rfl) (ow_cM1 2 rfl hb128 rfl rfl (fun w hw => c_spec_l91Run N _ _ _ _ hx10 w (hw.at (i := 2) rfl) (Lay.atR (i := 2) hcd rfl hw) (rdoR (A := stepsL) 1 2 rfl rfl rfl hw)) rfl rfl (fun a10 c10 F10 => kk_wd [2, 3, 4, 5] rfl ?_))
  refine wd_one 4 rfl rfl (by kernel_rfl) (ow_storeA Tb (k := 5) rfl rfl rfl rfl rfl rfl rfl rfl rfl (kk_wdT rfl ?_))
  refine wd_one 5 rfl rfl (by kernel_rfl) (ow_storeA Tb (k := 5) rfl rfl rfl rfl rfl rfl rfl rfl rfl (kk_wdT rfl ?_))
  refine wd_done (by kernel_rfl) ?_
  refine ex_seq ?_
  refine cw_ret ?_
  obtain rfl := Option.some.inj h
  exact ex_r2 Tb rfl (.cellA 1 rfl rfl rfl rfl rfl) (.cellA 0 rfl rfl rfl rfl rfl) (fun wq hq => ⟨_, rfl, hq.ext, ⟨a6, c6, F6, a10, c10, F10, rfl, NewM.sel [5, 2, 3] hq rfl⟩⟩)

def m_spec_l91Names_L6 (N : Nat) (cd : List UInt8) (x8 : (Int) × Nat) : Nat → Nat → (List Str) → Nat → Option (Ex (Nat × List Str × Nat) ((List Str) × Nat))
  | 0, _, _, _ => none
  | n + 1, s0_c_1, s3, s5 => (bif ltb ((s5 : Nat) : Int) x8.1 then (m_spec_l91Name N cd s0_c_1).bind fun x16 => (appd s3 ([x16.1] : List Str)).bind fun l18 => m_spec_l91Names_L6 N cd x8 n x16.2 (s3 ++ ([x16.1] : List Str)) (s5 + 1)
 else some (Ex.brk (s0_c_1, s3, s5)))

def m_spec_l91Names (N : Nat) (cd : List UInt8) (p : Nat) : Option ((List Str) × Nat) := (m_spec_l6Rd_pick N cd p 6).bind fun x8 => (m_spec_l91Names_L6 N cd x8 N x8.2 ([] : List Str) 0).bind fun e6 => e6.go (fun r => r) fun b6 => some (b6.2.1, b6.1)

set_option maxHeartbeats 4000000 in
theorem c_spec_l91Names (N : Nat) (cd : List UInt8) (p : Nat) (res : (List Str) × Nat) (h : m_spec_l91Names N cd p = some res) (w : World) {r ccd : Nat} {acd : Option Addr} (hr : (blkC r 120 [.slice acd cd.length ccd, .int .i64 ((p : Nat) : Int)]).A w) (hcd : bytesL.rd w [r] [.slice acd cd.length ccd] cd) : Ret Try.prog 103 [.pointer (some ⟨r, 0, none⟩)] w [r] fun v w' => ∃ a1 c1 F1, v = .slice a1 res.1.length c1 ∧ NewM w w' [r] [owC strsL F1 [.slice a1 res.1.length c1] res.1, blkC r 120 [.slice acd cd.length ccd, .int .i64 ((res.2 : Nat) : Int)]] := by
  have mhcd := rd_max hcd
  unfold m_spec_l91Names at h
  refine ret_enter Try.func103 rfl Try.ntmps103 rfl (hp_one hr (by simp [blkC])) ?_
  refine cw_seq ?_
  refine cw_region ?_
  refine wl_u rfl (ow_y (yh_assign rfl rfl) rfl rfl (kk_wl ?_))
  refine wl_nil ?_
  refine ex_seq ?_
  refine cw_seq ?_
  refine cw_region ?_
  refine wl_u rfl (ow_lit0 Tb rfl rfl rfl rfl rfl rfl (fun g6 => kk_chg (c' := owC strsL [g6] [.slice (some ⟨g6, 0, none⟩) 0 0] ([] : List Str)) 0 rfl (fun w hA => own_strsL ([] : List Str) hA rfl (by simp [maxLen])) rfl (kk_wl ?_)))
  refine wl_u rfl (ow_y (yh_assign rfl rfl) rfl rfl (kk_wl ?_))
  refine wl_nil ?_
  refine ex_seq ?_
  refine cw_seq ?_
  refine cw_region ?_
  refine wl_u rfl (ow_y (yh_move rfl rfl) rfl rfl (kk_wl ?_))
  obtain ⟨x8, hx8, h⟩ := bd h
  have mp8 := pick_lt hx8 (by decide)
  refine wl_u rfl (ow_cM0 1 rfl hb71 rfl rfl (fun w hw => c_spec_l6Rd_pick N _ _ _ _ hx8 w (hw.at (i := 1) rfl) (Lay.atR (i := 1) hcd rfl hw)) rfl rfl (kk_wl ?_))
  refine wl_u rfl (ow_y (yh_assign rfl rfl) rfl rfl (kk_wl ?_))
  refine wl_nil ?_
  refine ex_seq ?_
  refine cw_seq ?_
  refine cw_seq ?_
  refine cw_region ?_
  refine wl_u rfl (ow_y (yh_assign rfl rfl) rfl rfl (kk_wl ?_))
  refine wl_nil ?_
  refine ex_seq ?_
  refine cw_block ?_
  obtain ⟨e6, he6, hk6⟩ := bd h
  clear h
  refine cw_loopG (σ := Nat × Nat × (List Str) × Nat × (Option Addr) × Nat × (List Nat)) (fun s => m_spec_l91Names_L6 N cd x8 s.1 s.2.1 s.2.2.1 s.2.2.2.1 = some e6) (fun s => [(0, .pointer (some ⟨r, 0, none⟩)), (3, .slice s.2.2.2.2.1 s.2.2.1.length s.2.2.2.2.2.1), (4, .int .i64 x8.1), (5, .int .i64 ((s.2.2.2.1 : Nat) : Int))]) (fun s => [blkC r 120 [.slice acd cd.length ccd, .int .i64 ((s.2.1 : Nat) : Int)], owC strsL s.2.2.2.2.2.2 [.slice s.2.2.2.2.1 s.2.2.1.length s.2.2.2.2.2.1] s.2.2.1]) (fun s => s.1) (N, x8.2, ([] : List Str), 0, (some ⟨g6, 0, none⟩), 0, [g6]) [0, 1] he6 ⟨rfl, rfl, rfl, rfl, trivial⟩ rfl (fun KL s he6 hn6 => ?_)
  obtain ⟨n6, s0_c_1, s3, s5, as3, cs3, Fs3⟩ := s
  simp only at he6 hn6 ⊢
  rcases n6 with _ | n6
  · exact nosome he6
  have h := he6; rw [m_spec_l91Names_L6] at h
  refine cw_seq ?_
  refine cw_seq ?_
  refine cw_region ?_
  refine wl_u rfl (ow_y (yh_move rfl rfl) rfl rfl (kk_wl ?_))
  refine wl_u rfl (ow_y (yh_move rfl rfl) rfl rfl (kk_wl ?_))
  refine wl_u rfl (ow_y (yh_cmpI rfl rfl rfl rfl) rfl rfl (kk_wl ?_))
  refine wl_nil ?_
  refine ex_seq ?_
  refine cw_split rfl (fun c1 => ?_) (fun c1 => ?_)
  · skip
    replace h := bt c1 h
    have q1 := ltb_true.1 c1
    refine cw_skip ?_
    refine ex_seq ?_
    refine cw_seq ?_
    refine cw_block ?_
    refine cw_region ?_
    refine wl_u rfl (ow_y (yh_move rfl rfl) rfl rfl (kk_wl ?_))
    refine wl_u rfl (ow_y (yh_move rfl rfl) rfl rfl (kk_wl ?_))
    obtain ⟨x16, hx16, h⟩ := bd h
    refine wl_u rfl (ow_cM0 0 rfl hb129 rfl rfl (fun w hw => c_spec_l91Name N _ _ _ hx16 w (hw.at (i := 0) rfl) (Lay.atR (i := 0) hcd rfl hw)) rfl rfl (kk_wl ?_))
    refine wl_u rfl (ow_lit1 Tb rfl rfl rfl rfl rfl rfl rfl rfl rfl rfl (fun g17 => kk_chg (c' := owC strsL [g17] [.slice (some ⟨g17, 0, none⟩) 1 1] ([x16.1] : List Str)) 0 rfl (fun w hA => own_strsL ([x16.1] : List Str) hA rfl (by simp [maxLen])) rfl (kk_wl ?_)))
    obtain ⟨hll18, h⟩ := bd_appd h
    refine wl_u rfl (ow_appP Tb (i := 2) rfl rfl rfl rfl rfl (fun w hw => rdo (A := strsL) 0 rfl hw) rfl rfl rfl rfl hll18 (by decide) rfl rfl (fun a18 c18 F18 => kk_wl ?_))
    refine wl_u rfl (ow_y (yh_assign rfl rfl) rfl rfl (kk_wl ?_))
    refine wl_nil ?_
    refine ex_block_normal ?_
    refine ex_seq ?_
    refine cw_region ?_
    refine wl_u rfl (ow_y (yh_move rfl rfl) rfl rfl (kk_wl ?_))
    refine wl_u rfl (ow_y (yh_arI rfl rfl rfl rfl (by omega)) rfl rfl (kk_wl ?_))
    refine wl_u rfl (ow_y (yh_assign rfl rfl) rfl rfl (kk_wl ?_))
    refine wl_nil ?_
    exact ex_next [2, 0] (hn6 (n6, x16.2, (s3 ++ ([x16.1] : List Str)), s5 + 1, a18, c18, F18) (Nat.lt_succ_self _) h) ⟨rfl, rfl, rfl, rfl, trivial⟩ rfl
  · skip
    replace h := bf c1 h
    have q2 := ltb_false.1 c1
    refine cw_exit ?_
    refine ex_then_exit ?_
    refine ex_then_exit ?_
    obtain rfl := Option.some.inj h
    have h := go_brk hk6
    refine ex_block_exit ?_
    refine ex_seq ?_
    refine cw_seq ?_
    refine cw_region ?_
    refine wl_u rfl (ow_y (yh_move rfl rfl) rfl rfl (kk_wl ?_))
    refine wl_u rfl (ow_y (yh_assign rfl rfl) rfl rfl (kk_wl ?_))
    refine wl_nil ?_
    refine ex_seq ?_
    refine cw_ret ?_
    obtain rfl := Option.some.inj h
    exact ex_r1 Tb rfl (.tmp rfl) (fun wq hq => ⟨_, rfl, hq.ext, ⟨as3, cs3, Fs3, rfl, NewM.sel [1, 0] hq rfl⟩⟩)

def m_spec_DrawFitBad (N : Nat) (code : List UInt8) : Option (Flow × List Str) := (m_spec_l91Both N (code.take 2000) 0).bind fun x11 => (m_spec_l6Rd_pick N (code.take 2000) x11.2 3).bind fun x15 => (bif eqb x15.1 0 then (m_spec_l91Names N (code.take 2000) x15.2).bind fun x19 => some (x11.1.1, x19.1)
 else (m_spec_l92Other N (code.take 2000) x15.2 x11.1.1).bind fun x22 => some (x22.1, x11.1.2.done))

set_option maxHeartbeats 4000000 in
theorem c_spec_DrawFitBad (N : Nat) (code : List UInt8) (res : Flow × List Str) (h : m_spec_DrawFitBad N code = some res) (w : World) {a_code : Option Addr} {c_code : Nat} (h_code : bytesL.rd w [] [.slice a_code code.length c_code] code) : Ret Try.prog 53 [.slice a_code code.length c_code] w [] fun v w' => ∃ a1 c1 F1 a2 c2 F2, v = .tuple #[.agg #[.int .i64 res.1.ver, .slice a1 res.1.steps.length c1], .slice a2 res.2.length c2] ∧ NewC w w' [owC stepsL F1 [.slice a1 res.1.steps.length c1] res.1.steps, owC strsL F2 [.slice a2 res.2.length c2] res.2] := by
  have mh_code := rd_max h_code
  unfold m_spec_DrawFitBad at h
  refine ret_enter Try.func53 rfl Try.ntmps53 rfl (Hp.refl w _) ?_
  refine cw_seq ?_
  refine cw_region ?_
  refine wl_u rfl (ow_allocA Tb rfl rfl rfl rfl (fun g2 => kk_wl ?_))
  refine wl_u rfl (ow_y (yh_assign rfl rfl) rfl rfl (kk_wl ?_))
  refine wl_nil ?_
  refine ex_seq ?_
  refine cw_seq ?_
  refine cw_region ?_
  refine wl_u rfl (ow_y (yh_move rfl rfl) rfl rfl (kk_wl ?_))
  have hf8 := take_fact h_code 2000
  refine wl_u rfl (ow_open rfl rfl (fun w hw => Lay.at_ h_code hw) rfl rfl (fun g8 => kk_wl ?_))
  refine wl_u rfl (ow_y (yh_assign rfl rfl) rfl rfl (kk_wl ?_))
  refine wl_nil ?_
  refine ex_seq ?_
  refine cw_seq ?_
  refine cw_region ?_
  refine wl_u rfl (ow_y (yh_move rfl rfl) rfl rfl (kk_wl ?_))
  obtain ⟨x11, hx11, h⟩ := bd h
  refine wl_u rfl (ow_cM2 0 rfl hb102 rfl rfl (fun w hw => c_spec_l91Both N _ _ _ hx11 w (hw.at (i := 0) rfl) (Lay.atR (i := 0) hf8 rfl hw)) rfl rfl (fun a11 c11 F11 a11_2 c11_2 F11_2 => kk_wl ?_))
  refine wl_u rfl (ow_y (yh_move rfl rfl) rfl rfl (kk_wl ?_))
  refine wl_u rfl (ow_y (yh_extract rfl rfl rfl) rfl rfl (kk_wl ?_))
  refine wl_u rfl (ow_y (yh_extract rfl rfl rfl) rfl rfl (kk_wl ?_))
  refine wl_u rfl (ow_allocA Tb rfl rfl rfl rfl (fun g5 => kk_wl ?_))
  refine wl_u rfl (ow_allocA Tb rfl rfl rfl rfl (fun g6 => kk_wl ?_))
  refine wl_u rfl (ow_storeA Tb (k := 1) rfl rfl rfl rfl rfl rfl rfl rfl rfl (kk_wl ?_))
  refine wl_u rfl (ow_storeA Tb (k := 1) rfl rfl rfl rfl rfl rfl rfl rfl rfl (kk_wl ?_))
  refine wl_nil ?_
  refine ex_seq ?_
  refine cw_seq ?_
  refine cw_seq ?_
  refine cw_region ?_
  refine wl_u rfl (ow_y (yh_move rfl rfl) rfl rfl (kk_wl ?_))
  obtain ⟨x15, hx15, h⟩ := bd h
  have mp15 := pick_lt hx15 (by decide)
  refine wl_u rfl (ow_cM0 4 rfl hb71 rfl rfl (fun w hw => c_spec_l6Rd_pick N _ _ _ _ hx15 w (hw.at (i := 4) rfl) (Lay.atR (i := 4) hf8 rfl hw)) rfl rfl (kk_wl ?_))
  refine wl_u rfl (ow_y (yh_cmpI rfl rfl rfl rfl) rfl rfl (kk_wl ?_))
  refine wl_nil ?_
  refine ex_seq ?_
  refine cw_split rfl (fun c1 => ?_) (fun c1 => ?_)
  · skip
    replace h := bt c1 h
    have q1 := eqb_true.1 c1
    refine cw_seq ?_
    refine cw_dr [0, 1] [3, 4] [blkC g6 60 [.int .i64 x11.1.2.state, .slice a11_2 x11.1.2.done.length c11_2], blkC g5 26 [.int .i64 x11.1.1.ver, .slice a11 x11.1.1.steps.length c11], owC stepsL F11 [.slice a11 x11.1.1.steps.length c11] x11.1.1.steps, owC strsL F11_2 [.slice a11_2 x11.1.2.done.length c11_2] x11.1.2.done, blkC g2 26 [.int .i64 0, .slice none 0 0]] (by kernel_rfl) ?_
    refine wd_take (i := 0) [1, 2, 3, 4, 5] rfl rfl rfl rfl rfl (by kernel_rfl) rfl (fun _ _ _ _ h => h) (yh_loadBA Tb (k := 1) rfl rfl rfl rfl rfl rfl) ?_
    refine wd_take (i := 1) [1, 2, 3, 4, 5] rfl rfl rfl rfl rfl (by kernel_rfl) rfl (fun _ _ _ _ h => h) (yh_move rfl rfl) ?_
    obtain ⟨x19, hx19, h⟩ := bd h
    refine wd_one 2 rfl rfl (by kernel_rfl) (ow_cM1 0 rfl hb103 rfl rfl (fun w hw => c_spec_l91Names N _ _ _ hx19 w (hw.at (i := 0) rfl) (Lay.atR (i := 0) hf8 rfl hw)) rfl rfl (fun a19 c19 F19 => kk_wd [2, 3, 4, 5, 6] rfl ?_))
    refine wd_one 3 rfl rfl (by kernel_rfl) (ow_storeA Tb (k := 6) rfl rfl rfl rfl rfl rfl rfl rfl rfl (kk_wdT rfl ?_))
    refine wd_one 4 rfl rfl (by kernel_rfl) (ow_y (yh_assign rfl rfl) rfl rfl (kk_wdT rfl ?_))
    refine wd_done (by kernel_rfl) ?_
    refine ex_seq ?_
    refine cw_ret ?_
    refine ex_then_ret ?_
    obtain rfl := Option.some.inj h
    exact ex_r2 Tb rfl (.cellA 0 rfl rfl rfl rfl rfl) (.tmp rfl) (fun wq hq => ⟨_, rfl, hq.ext, ⟨a11, c11, F11, a19, c19, F19, rfl, NewC.sel [5, 1] hq rfl⟩⟩)
  · skip
    replace h := bf c1 h
    have q2 := eqb_false.1 c1
    refine cw_skip ?_
    refine ex_seq ?_
    refine cw_seq ?_
    refine cw_dr [0, 1, 3, 4, 6] [] [blkC g6 60 [.int .i64 x11.1.2.state, .slice a11_2 x11.1.2.done.length c11_2], blkC g5 26 [.int .i64 x11.1.1.ver, .slice a11 x11.1.1.steps.length c11], owC stepsL F11 [.slice a11 x11.1.1.steps.length c11] x11.1.1.steps, owC strsL F11_2 [.slice a11_2 x11.1.2.done.length c11_2] x11.1.2.done] (by kernel_rfl) ?_
    refine wd_take (i := 0) [1, 2, 3, 4] rfl rfl rfl rfl rfl (by kernel_rfl) rfl (fun _ _ _ _ h => h) (yh_move rfl rfl) ?_
    refine wd_take (i := 1) [1, 2, 3, 4] rfl rfl rfl rfl rfl (by kernel_rfl) rfl (fun _ _ _ _ h => h) (yh_loadBA Tb (k := 1) rfl rfl rfl rfl rfl rfl) ?_
    refine wd_take (i := 3) [1, 2, 3, 4] rfl rfl rfl rfl rfl (by kernel_rfl) rfl (fun _ _ _ _ h => h) (yh_field Tb rfl rfl rfl) ?_
    refine wd_take (i := 4) [1, 2, 3, 4] rfl rfl rfl rfl rfl (by kernel_rfl) rfl (fun _ _ _ _ h => h) (yh_loadB Tb (k := 0) rfl rfl rfl rfl rfl) ?_
    obtain ⟨x22, hx22, h⟩ := bd h
    refine wd_one 2 rfl rfl (by kernel_rfl) (ow_cM1 0 rfl hb77 rfl rfl (fun w hw => c_spec_l92Other N _ _ _ _ hx22 w (hw.at (i := 0) rfl) (Lay.atR (i := 0) hf8 rfl hw) (rdoR (A := stepsL) 3 0 rfl rfl rfl hw)) rfl rfl (fun a22 c22 F22 => kk_wd [2, 3, 4, 5] rfl ?_))
    refine wd_one 5 rfl rfl (by kernel_rfl) (ow_storeA Tb (k := 6) rfl rfl rfl rfl rfl rfl rfl rfl rfl (kk_wd [3, 4, 5, 6] rfl ?_))
    refine wd_take (i := 6) [3, 4, 5, 6] rfl rfl rfl rfl rfl (by kernel_rfl) rfl (fun _ _ _ _ h => h) (yh_assign rfl rfl) ?_
    refine wd_done (by kernel_rfl) ?_
    refine ex_seq ?_
    refine cw_ret ?_
    obtain rfl := Option.some.inj h
    exact ex_r2 Tb rfl (.cellA 0 rfl rfl rfl rfl rfl) (.tmp rfl) (fun wq hq => ⟨_, rfl, hq.ext, ⟨a22, c22, F22, a11_2, c11_2, F11_2, rfl, NewC.sel [1, 6] hq rfl⟩⟩)

def m_impl_Flow_at_f1 (N : Nat) (s_ : Step) (name : Str) : Option (Bool) := some (seq s_.name name)

set_option maxHeartbeats 4000000 in
theorem c_impl_Flow_at_f1 (N : Nat) (s_ : Step) (name : Str) (res : Bool) (h : m_impl_Flow_at_f1 N s_ name = some res) (w : World) {a_s__after : Option Addr} {c_s__after : Nat} {g_name : Nat} (h_s__after : strsL.rd w [] [.slice a_s__after s_.after.length c_s__after] s_.after) (hg_name : CellN w [] g_name 0 [.string name]) : Ret Try.prog 131 [.agg #[.string s_.name, .slice a_s__after s_.after.length c_s__after, .bool s_.undo], .pointer (some ⟨g_name, 0, none⟩)] w [] fun v w' => v = .bool res := by
  have mh_s__after := rd_max h_s__after
  unfold m_impl_Flow_at_f1 at h
  refine ret_enter Try.func131 rfl Try.ntmps131 rfl (Hp.refl w _) ?_
  refine cw_seq ?_
  refine cw_region ?_
  refine wl_u rfl (ow_boxA rfl rfl rfl rfl (fun g2 => kk_wl ?_))
  refine wl_u rfl (ow_y (yh_assign rfl rfl) rfl rfl (kk_wl ?_))
  refine wl_nil ?_
  refine ex_seq ?_
  refine cw_seq ?_
  refine cw_region ?_
  refine wl_u rfl (ow_y (yh_field Tb rfl rfl rfl) rfl rfl (kk_wl ?_))
  refine wl_u rfl (ow_y (yh_loadB Tb (k := 0) rfl rfl rfl rfl rfl) rfl rfl (kk_wl ?_))
  refine wl_u rfl (ow_y (yh_loadA0 Tb rfl rfl rfl hg_name rfl) rfl rfl (kk_wl ?_))
  refine wl_u rfl (ow_y (yh_cmpS rfl rfl rfl rfl) rfl rfl (kk_wl ?_))
  refine wl_u rfl (ow_y (yh_assign rfl rfl) rfl rfl (kk_wl ?_))
  refine wl_nil ?_
  refine ex_seq ?_
  refine cw_ret ?_
  obtain rfl := Option.some.inj h
  exact ex_r1 Tb rfl (.tmp rfl) (fun wq hq => ⟨_, rfl, hq.ext, rfl⟩)

def m_slices_IndexFunc_Step_L4 (N : Nat) (s_ : List Step) (f : Step → Option Bool) : Nat → Nat → Option (Ex (Nat) (Int))
  | 0, _ => none
  | n + 1, s8 => (bif ltb ((s8 : Nat) : Int) ((s_.length : Nat) : Int) then (s_[s8]?).bind fun y14 => (f y14).bind fun x16 => (bif x16 then some (Ex.ret ((s8 : Nat) : Int))
 else m_slices_IndexFunc_Step_L4 N s_ f n (s8 + 1))
 else some (Ex.brk (s8)))

def m_slices_IndexFunc_Step (N : Nat) (s_ : List Step) (f : Step → Option Bool) : Option (Int) := (m_slices_IndexFunc_Step_L4 N s_ f N 0).bind fun e4 => e4.go (fun r => r) fun b4 => some (-1)

set_option maxHeartbeats 4000000 in
theorem c_slices_IndexFunc_Step (N : Nat) (s_ : List Step) (f : Step → Option Bool) (res : Int) (h : m_slices_IndexFunc_Step N s_ f = some res) (w : World) {a_s_ : Option Addr} {c_s_ : Nat} {k_f : FuncId} {caps_f : List Value} (h_s_ : stepsL.rd w [] [.slice a_s_ s_.length c_s_] s_) (hb_f : hasBody Try.prog k_f) (hf_f : ∀ x0 b, f x0 = some b → ∀ w', ExtM [] w w' → ∀ a1 c1, strsL.rd w' [] [.slice a1 x0.after.length c1] x0.after → Ret Try.prog k_f ([.agg #[.string x0.name, .slice a1 x0.after.length c1, .bool x0.undo]] ++ caps_f) w' [] fun v _ => v = .bool b) : Ret Try.prog 130 [.slice a_s_ s_.length c_s_, .func (.func k_f) #[] caps_f.toArray] w [] fun v w' => v = .int .i64 res := by
  have mh_s_ := rd_max h_s_
  unfold m_slices_IndexFunc_Step at h
  refine ret_enter Try.func130 rfl Try.ntmps130 rfl (Hp.refl w _) ?_
  refine cw_seq ?_
  refine cw_region ?_
  refine wl_u rfl (ow_y (yh_assign rfl rfl) rfl rfl (kk_wl ?_))
  refine wl_nil ?_
  refine ex_seq ?_
  refine cw_seq ?_
  refine cw_seq ?_
  refine cw_region ?_
  refine wl_u rfl (ow_y (yh_move rfl rfl) rfl rfl (kk_wl ?_))
  refine wl_u rfl (ow_y (yh_lenS Tb rfl rfl rfl rfl) rfl rfl (kk_wl ?_))
  refine wl_u rfl (ow_y (yh_move rfl rfl) rfl rfl (kk_wl ?_))
  refine wl_nil ?_
  refine ex_seq ?_
  refine cw_block ?_
  obtain ⟨e4, he4, hk4⟩ := bd h
  clear h
  refine cw_loopG (σ := Nat × Nat) (fun s => m_slices_IndexFunc_Step_L4 N s_ f s.1 s.2 = some e4) (fun s => [(0, .slice a_s_ s_.length c_s_), (1, .func (.func k_f) #[] caps_f.toArray), (7, .int .i64 ((s_.length : Nat) : Int)), (8, .int .i64 ((s.2 : Nat) : Int))]) (fun s => []) (fun s => s.1) (N, 0) [] he4 ⟨rfl, rfl, rfl, rfl, trivial⟩ rfl (fun KL s he4 hn4 => ?_)
  obtain ⟨n4, s8⟩ := s
  simp only at he4 hn4 ⊢
  rcases n4 with _ | n4
  · exact nosome he4
  have h := he4; rw [m_slices_IndexFunc_Step_L4] at h
  refine cw_seq ?_
  refine cw_region ?_
  refine wl_u rfl (ow_y (yh_cmpI rfl rfl rfl rfl) rfl rfl (kk_wl ?_))
  refine wl_nil ?_
  refine ex_seq ?_
  refine cw_seq ?_
  refine cw_split rfl (fun c1 => ?_) (fun c1 => ?_)
  · skip
    replace h := bt c1 h
    have q1 := ltb_true.1 c1
    refine cw_skip ?_
    refine ex_seq ?_
    refine cw_seq ?_
    refine cw_block ?_
    refine cw_seq ?_
    refine cw_region ?_
    refine wl_u rfl (ow_y (yh_move rfl rfl) rfl rfl (kk_wl ?_))
    refine wl_u rfl (ow_y (yh_assign rfl rfl) rfl rfl (kk_wl ?_))
    refine wl_nil ?_
    refine ex_seq ?_
    refine cw_seq ?_
    refine cw_region ?_
    refine wl_u rfl (ow_y (yh_move rfl rfl) rfl rfl (kk_wl ?_))
    refine wl_u rfl (ow_y (yh_move rfl rfl) rfl rfl (kk_wl ?_))
    refine wl_u rfl (ow_y (yh_move rfl rfl) rfl rfl (kk_wl ?_))
    obtain ⟨y14, hy14, h⟩ := bd h
    obtain ⟨b14, o14, ha14⟩ := sl_addr h_s_ hy14
    subst ha14
    obtain ⟨a14, e14, hc14, hf14⟩ := get_step h_s_ hy14
    have mx14 := rd_max hf14
    refine wl_u rfl (ow_y (yh_idx Tb (k := s8) rfl rfl rfl rfl (get_lt hy14) rfl rfl) rfl rfl (kk_wl ?_))
    refine wl_u rfl (ow_y (yh_loadAN Tb rfl rfl rfl rfl hc14 rfl) rfl rfl (kk_wl ?_))
    obtain ⟨x16, hx16, h⟩ := bd h
    refine wl_u rfl (ow_callV rfl rfl hb_f rfl rfl (fun w hw => hf_f _ _ hx16 w hw.ext _ _ (Lay.at_ hf14 hw)) rfl rfl (kk_wl ?_))
    refine wl_nil ?_
    refine ex_seq ?_
    refine cw_split rfl (fun c2 => ?_) (fun c2 => ?_)
    · skip
      replace h := bt c2 h
      refine cw_seq ?_
      refine cw_region ?_
      refine wl_u rfl (ow_y (yh_move rfl rfl) rfl rfl (kk_wl ?_))
      refine wl_u rfl (ow_y (yh_assign rfl rfl) rfl rfl (kk_wl ?_))
      refine wl_nil ?_
      refine ex_seq ?_
      refine cw_ret ?_
      refine ex_block_ret ?_
      refine ex_then_ret ?_
      refine ex_then_ret ?_
      refine ex_block_ret ?_
      refine ex_then_ret ?_
      obtain rfl := Option.some.inj h
      obtain rfl := go_ret hk4
      exact ex_r1 Tb rfl (.tmp rfl) (fun wq hq => ⟨_, rfl, hq.ext, rfl⟩)
    · skip
      replace h := bf c2 h
      refine cw_skip ?_
      refine ex_block_normal ?_
      refine ex_seq ?_
      refine cw_region ?_
      refine wl_u rfl (ow_y (yh_arI rfl rfl rfl rfl (by omega)) rfl rfl (kk_wl ?_))
      refine wl_u rfl (ow_y (yh_move rfl rfl) rfl rfl (kk_wl ?_))
      refine wl_nil ?_
      exact ex_next [] (hn4 (n4, s8 + 1) (Nat.lt_succ_self _) h) ⟨rfl, rfl, rfl, rfl, trivial⟩ rfl
  · skip
    replace h := bf c1 h
    have q2 := ltb_false.1 c1
    refine cw_exit ?_
    refine ex_then_exit ?_
    refine ex_then_exit ?_
    obtain rfl := Option.some.inj h
    have h := go_brk hk4
    refine ex_block_exit ?_
    refine ex_seq ?_
    refine cw_seq ?_
    refine cw_region ?_
    refine wl_u rfl (ow_y (yh_assign rfl rfl) rfl rfl (kk_wl ?_))
    refine wl_nil ?_
    refine ex_seq ?_
    refine cw_ret ?_
    obtain rfl := Option.some.inj h
    exact ex_r1 Tb rfl (.tmp rfl) (fun wq hq => ⟨_, rfl, hq.ext, rfl⟩)

def m_impl_Flow_at (N : Nat) (f : Flow) (name : Str) : Option (Int) := (m_slices_IndexFunc_Step N f.steps (fun x0 => m_impl_Flow_at_f1 N x0 name)).bind fun x8 => some x8

set_option maxHeartbeats 4000000 in
theorem c_impl_Flow_at (N : Nat) (f : Flow) (name : Str) (res : Int) (h : m_impl_Flow_at N f name = some res) (w : World) {a_f_steps : Option Addr} {c_f_steps : Nat} (h_f_steps : stepsL.rd w [] [.slice a_f_steps f.steps.length c_f_steps] f.steps) : Ret Try.prog 104 [.agg #[.int .i64 f.ver, .slice a_f_steps f.steps.length c_f_steps], .string name] w [] fun v w' => v = .int .i64 res := by
  have mh_f_steps := rd_max h_f_steps
  unfold m_impl_Flow_at at h
  refine ret_enter Try.func104 rfl Try.ntmps104 rfl (Hp.refl w _) ?_
  refine cw_seq ?_
  refine cw_region ?_
  refine wl_u rfl (ow_boxA rfl rfl rfl rfl (fun g2 => kk_wl ?_))
  refine wl_u rfl (ow_box1 rfl rfl rfl rfl rfl (fun g3 => kk_wl ?_))
  refine wl_u rfl (ow_y (yh_assign rfl rfl) rfl rfl (kk_wl ?_))
  refine wl_nil ?_
  refine ex_seq ?_
  refine cw_seq ?_
  refine cw_region ?_
  refine wl_u rfl (ow_y (yh_field Tb rfl rfl rfl) rfl rfl (kk_wl ?_))
  refine wl_u rfl (ow_y (yh_loadB Tb (k := 1) rfl rfl rfl rfl rfl) rfl rfl (kk_wl ?_))
  refine wl_u rfl (ow_y (yh_mkfn rfl rfl) rfl rfl (kk_wl ?_))
  obtain ⟨x8, hx8, h⟩ := bd h
  refine wl_u rfl (ow_cV rfl hb130 rfl (fun w hw => c_slices_IndexFunc_Step N _ _ _ hx8 w (Lay.at_ h_f_steps hw) hb131 (fun x0 b hb w' hE a1 c1 h1 => c_impl_Flow_at_f1 N x0 name b hb w' h1 (cell_blk ((hw.step hE).at (i := 0) rfl)))) rfl rfl (kk_wl ?_))
  refine wl_u rfl (ow_y (yh_assign rfl rfl) rfl rfl (kk_wl ?_))
  refine wl_nil ?_
  refine ex_seq ?_
  refine cw_ret ?_
  obtain rfl := Option.some.inj h
  exact ex_r1 Tb rfl (.tmp rfl) (fun wq hq => ⟨_, rfl, hq.ext, rfl⟩)

def m_impl_Flow_bad_L5 (N : Nat) (f : Flow) (done : List Str) : Nat → Nat → Option (Ex (Nat) (Str × Bool))
  | 0, _ => none
  | n + 1, s11 => (bif ltb ((s11 : Nat) : Int) ((done.length : Nat) : Int) then (done[s11]?).bind fun y14 => (m_impl_Flow_at N f y14).bind fun x18 => (bif ltb x18 0 then some (Ex.ret (y14, true))
 else (slTo done ((s11 : Nat) : Int)).bind fun l24 => (m_slices_Contains_string N l24 y14).bind fun x26 => (bif x26 then some (Ex.ret (y14, true))
 else (slTo done ((s11 : Nat) : Int)).bind fun l31 => (geti f.steps x18).bind fun y35 => (m_impl_NamesHave N l31 y35.after).bind fun x38 => (bif !x38 then some (Ex.ret (y14, true))
 else m_impl_Flow_bad_L5 N f done n (s11 + 1))))
 else some (Ex.brk (s11)))

def m_impl_Flow_bad (N : Nat) (f : Flow) (done : List Str) : Option (Str × Bool) := (m_impl_Flow_bad_L5 N f done N 0).bind fun e5 => e5.go (fun r => r) fun b5 => some ((⟨#[]⟩ : Str), false)

set_option maxHeartbeats 4000000 in
theorem c_impl_Flow_bad (N : Nat) (f : Flow) (done : List Str) (res : Str × Bool) (h : m_impl_Flow_bad N f done = some res) (w : World) {a_done a_f_steps : Option Addr} {c_done c_f_steps : Nat} (h_f_steps : stepsL.rd w [] [.slice a_f_steps f.steps.length c_f_steps] f.steps) (h_done : strsL.rd w [] [.slice a_done done.length c_done] done) : Ret Try.prog 94 [.agg #[.int .i64 f.ver, .slice a_f_steps f.steps.length c_f_steps], .slice a_done done.length c_done] w [] fun v w' => v = .tuple #[.string res.1, .bool res.2] := by
  have mh_f_steps := rd_max h_f_steps
  have mh_done := rd_max h_done
  unfold m_impl_Flow_bad at h
  refine ret_enter Try.func94 rfl Try.ntmps94 rfl (Hp.refl w _) ?_
  refine cw_seq ?_
  refine cw_region ?_
  refine wl_u rfl (ow_boxA rfl rfl rfl rfl (fun g2 => kk_wl ?_))
  refine wl_u rfl (ow_y (yh_assign rfl rfl) rfl rfl (kk_wl ?_))
  refine wl_u rfl (ow_y (yh_assign rfl rfl) rfl rfl (kk_wl ?_))
  refine wl_nil ?_
  refine ex_seq ?_
  refine cw_seq ?_
  refine cw_seq ?_
  refine cw_region ?_
  refine wl_u rfl (ow_y (yh_move rfl rfl) rfl rfl (kk_wl ?_))
  refine wl_u rfl (ow_y (yh_lenS Tb rfl rfl rfl rfl) rfl rfl (kk_wl ?_))
  refine wl_u rfl (ow_y (yh_move rfl rfl) rfl rfl (kk_wl ?_))
  refine wl_nil ?_
  refine ex_seq ?_
  refine cw_block ?_
  obtain ⟨e5, he5, hk5⟩ := bd h
  clear h
  refine cw_loopG (σ := Nat × Nat) (fun s => m_impl_Flow_bad_L5 N f done s.1 s.2 = some e5) (fun s => [(1, .slice a_done done.length c_done), (2, .pointer (some ⟨g2, 0, none⟩)), (9, .slice a_done done.length c_done), (10, .int .i64 ((done.length : Nat) : Int)), (11, .int .i64 ((s.2 : Nat) : Int))]) (fun s => [blkC g2 26 [.int .i64 f.ver, .slice a_f_steps f.steps.length c_f_steps]]) (fun s => s.1) (N, 0) [0] he5 ⟨rfl, rfl, rfl, rfl, rfl, trivial⟩ rfl (fun KL s he5 hn5 => ?_)
  obtain ⟨n5, s11⟩ := s
  simp only at he5 hn5 ⊢
  rcases n5 with _ | n5
  · exact nosome he5
  have h := he5; rw [m_impl_Flow_bad_L5] at h
  refine cw_seq ?_
  refine cw_region ?_
  refine wl_u rfl (ow_y (yh_cmpI rfl rfl rfl rfl) rfl rfl (kk_wl ?_))
  refine wl_nil ?_
  refine ex_seq ?_
  refine cw_seq ?_
  refine cw_split rfl (fun c1 => ?_) (fun c1 => ?_)
  · skip
    replace h := bt c1 h
    have q1 := ltb_true.1 c1
    refine cw_skip ?_
    refine ex_seq ?_
    refine cw_seq ?_
    refine cw_block ?_
    refine cw_seq ?_
    refine cw_region ?_
    refine wl_u rfl (ow_y (yh_move rfl rfl) rfl rfl (kk_wl ?_))
    obtain ⟨y14, hy14, h⟩ := bd h
    obtain ⟨b14, o14, ha14⟩ := sl_addr h_done hy14
    subst ha14
    have hc14 := get_str h_done hy14
    refine wl_u rfl (ow_y (yh_idx Tb (k := s11) rfl rfl rfl rfl (get_lt hy14) rfl rfl) rfl rfl (kk_wl ?_))
    refine wl_u rfl (ow_y (yh_loadA0 Tb rfl rfl rfl hc14 rfl) rfl rfl (kk_wl ?_))
    refine wl_u rfl (ow_y (yh_assign rfl rfl) rfl rfl (kk_wl ?_))
    refine wl_u rfl (ow_y (yh_assign rfl rfl) rfl rfl (kk_wl ?_))
    refine wl_nil ?_
    refine ex_seq ?_
    refine cw_seq ?_
    refine cw_region ?_
    refine wl_u rfl (ow_y (yh_loadBA Tb (k := 0) rfl rfl rfl rfl rfl rfl) rfl rfl (kk_wl ?_))
    refine wl_u rfl (ow_y (yh_move rfl rfl) rfl rfl (kk_wl ?_))
    obtain ⟨x18, hx18, h⟩ := bd h
    refine wl_u rfl (ow_cV rfl hb104 rfl (fun w hw => c_impl_Flow_at N _ _ _ hx18 w (Lay.at_ h_f_steps hw)) rfl rfl (kk_wl ?_))
    refine wl_u rfl (ow_y (yh_assign rfl rfl) rfl rfl (kk_wl ?_))
    refine wl_nil ?_
    refine ex_seq ?_
    refine cw_seq ?_
    refine cw_dr [0, 1, 2, 3, 4, 5, 6, 8, 9, 10, 11, 12, 13, 14, 15, 16, 17, 18, 20, 21] [] [blkC g2 26 [.int .i64 f.ver, .slice a_f_steps f.steps.length c_f_steps]] (by kernel_rfl) ?_
    refine wd_take (i := 0) [0] rfl rfl rfl rfl rfl (by kernel_rfl) rfl (fun _ _ _ _ h => h) (yh_move rfl rfl) ?_
    refine wd_take (i := 1) [0] rfl rfl rfl rfl rfl (by kernel_rfl) rfl (fun _ _ _ _ h => h) (yh_cmpI rfl rfl rfl rfl) ?_
    refine wd_take (i := 2) [0] rfl rfl rfl rfl rfl (by kernel_rfl) rfl (fun _ _ _ _ h => h) (yh_move rfl rfl) ?_
    refine wd_split 3 rfl rfl rfl (fun c2 => ?_) (fun c2 => ?_)
    · skip
      replace h := bt c2 h
      have q2 := ltb_true.1 c2
      refine wd_skip (i := 3) [0] rfl rfl rfl rfl (by kernel_rfl) rfl (fun _ _ _ h => h) ?_
      refine wd_skip (i := 4) [0] rfl rfl rfl rfl (by kernel_rfl) rfl (fun _ _ _ h => h) ?_
      refine wd_skip (i := 5) [0] rfl rfl rfl rfl (by kernel_rfl) rfl (fun _ _ _ h => h) ?_
      refine wd_skip (i := 6) [0] rfl rfl rfl rfl (by kernel_rfl) rfl (fun _ _ _ h => h) ?_
      refine wd_offD 7 rfl rfl rfl rfl (by kernel_rfl) [0] (fun _ => rfl) ?_
      refine wd_take (i := 8) [0] rfl rfl rfl rfl rfl (by kernel_rfl) rfl (fun _ _ _ _ h => h) (yh_pickT rfl rfl rfl) ?_
      refine wd_take (i := 9) [0] rfl rfl rfl rfl rfl (by kernel_rfl) rfl (fun _ _ _ _ h => h) (yh_move rfl rfl) ?_
      refine wd_split 10 rfl rfl rfl (fun _ => ?_) nofun
      refine wd_skip (i := 10) [0] rfl rfl rfl rfl (by kernel_rfl) rfl (fun _ _ _ h => h) ?_
      refine wd_skip (i := 11) [0] rfl rfl rfl rfl (by kernel_rfl) rfl (fun _ _ _ h => h) ?_
      refine wd_skip (i := 12) [0] rfl rfl rfl rfl (by kernel_rfl) rfl (fun _ _ _ h => h) ?_
      refine wd_skip (i := 13) [0] rfl rfl rfl rfl (by kernel_rfl) rfl (fun _ _ _ h => h) ?_
      refine wd_skip (i := 14) [0] rfl rfl rfl rfl (by kernel_rfl) rfl (fun _ _ _ h => h) ?_
      refine wd_skip (i := 15) [0] rfl rfl rfl rfl (by kernel_rfl) rfl (fun _ _ _ h => h) ?_
      refine wd_skip (i := 16) [0] rfl rfl rfl rfl (by kernel_rfl) rfl (fun _ _ _ h => h) ?_
      refine wd_skip (i := 17) [0] rfl rfl rfl rfl (by kernel_rfl) rfl (fun _ _ _ h => h) ?_
      refine wd_skip (i := 18) [0] rfl rfl rfl rfl (by kernel_rfl) rfl (fun _ _ _ h => h) ?_
      refine wd_offD 19 rfl rfl rfl rfl (by kernel_rfl) [0] (fun _ => rfl) ?_
      refine wd_skip (i := 20) [0] rfl rfl rfl rfl (by kernel_rfl) rfl (fun _ _ _ h => h) ?_
      refine wd_take (i := 21) [0] rfl rfl rfl rfl rfl (by kernel_rfl) rfl (fun _ _ _ _ h => h) (yh_pickT rfl rfl rfl) ?_
      refine wd_done (by kernel_rfl) ?_
      refine ex_seq ?_
      refine cw_true rfl ?_
      refine cw_seq ?_
      refine cw_region ?_
      refine wl_u rfl (ow_y (yh_move rfl rfl) rfl rfl (kk_wl ?_))
      refine wl_u rfl (ow_y (yh_assign rfl rfl) rfl rfl (kk_wl ?_))
      refine wl_u rfl (ow_y (yh_assign rfl rfl) rfl rfl (kk_wl ?_))
      refine wl_nil ?_
      refine ex_seq ?_
      refine cw_ret ?_
      refine ex_block_ret ?_
      refine ex_then_ret ?_
      refine ex_then_ret ?_
      refine ex_block_ret ?_
      refine ex_then_ret ?_
      obtain rfl := Option.some.inj h
      obtain rfl := go_ret hk5
      exact ex_r2 Tb rfl (.tmp rfl) (.tmp rfl) (fun wq hq => ⟨_, rfl, hq.ext, rfl⟩)
    · skip
      replace h := bf c2 h
      have q3 := ltb_false.1 c2
      refine wd_take (i := 3) [0] rfl rfl rfl rfl rfl (by kernel_rfl) rfl (fun _ _ _ _ h => h) (yh_move rfl rfl) ?_
      refine wd_take (i := 4) [0] rfl rfl rfl rfl rfl (by kernel_rfl) rfl (fun _ _ _ _ h => h) (yh_move rfl rfl) ?_
      obtain ⟨l24, zl24, h⟩ := bd h
      obtain ⟨il24, jl24⟩ := slTo_K zl24
      have hf24 := sl_takeK h_done zl24
      have mx24 := rd_max hf24
      refine wd_take (i := 5) [0] rfl rfl rfl rfl rfl (by kernel_rfl) rfl (fun _ _ _ _ h => h) (yh_sliceH Tb (k := l24.length) rfl rfl rfl il24 (Nat.le_trans jl24 (rd_cap h_done)) rfl rfl) ?_
      refine wd_take (i := 6) [0] rfl rfl rfl rfl rfl (by kernel_rfl) rfl (fun _ _ _ _ h => h) (yh_move rfl rfl) ?_
      obtain ⟨x26, hx26, h⟩ := bd h
      refine wd_one 7 rfl rfl (by kernel_rfl) (ow_cV rfl hb106 rfl (fun w hw => c_slices_Contains_string N _ _ _ hx26 w (Lay.at_ hf24 hw)) rfl rfl (kk_wd [0] rfl ?_))
      refine wd_take (i := 8) [0] rfl rfl rfl rfl rfl (by kernel_rfl) rfl (fun _ _ _ _ h => h) (yh_pickF rfl rfl rfl) ?_
      refine wd_take (i := 9) [0] rfl rfl rfl rfl rfl (by kernel_rfl) rfl (fun _ _ _ _ h => h) (yh_move rfl rfl) ?_
      refine wd_split 10 rfl rfl rfl (fun c3 => ?_) (fun c3 => ?_)
      · skip
        replace h := bt c3 h
        refine wd_skip (i := 10) [0] rfl rfl rfl rfl (by kernel_rfl) rfl (fun _ _ _ h => h) ?_
        refine wd_skip (i := 11) [0] rfl rfl rfl rfl (by kernel_rfl) rfl (fun _ _ _ h => h) ?_
        refine wd_skip (i := 12) [0] rfl rfl rfl rfl (by kernel_rfl) rfl (fun _ _ _ h => h) ?_
        refine wd_skip (i := 13) [0] rfl rfl rfl rfl (by kernel_rfl) rfl (fun _ _ _ h => h) ?_
        refine wd_skip (i := 14) [0] rfl rfl rfl rfl (by kernel_rfl) rfl (fun _ _ _ h => h) ?_
        refine wd_skip (i := 15) [0] rfl rfl rfl rfl (by kernel_rfl) rfl (fun _ _ _ h => h) ?_
        refine wd_skip (i := 16) [0] rfl rfl rfl rfl (by kernel_rfl) rfl (fun _ _ _ h => h) ?_
        refine wd_skip (i := 17) [0] rfl rfl rfl rfl (by kernel_rfl) rfl (fun _ _ _ h => h) ?_
        refine wd_skip (i := 18) [0] rfl rfl rfl rfl (by kernel_rfl) rfl (fun _ _ _ h => h) ?_
        refine wd_offD 19 rfl rfl rfl rfl (by kernel_rfl) [0] (fun _ => rfl) ?_
        refine wd_skip (i := 20) [0] rfl rfl rfl rfl (by kernel_rfl) rfl (fun _ _ _ h => h) ?_
        refine wd_take (i := 21) [0] rfl rfl rfl rfl rfl (by kernel_rfl) rfl (fun _ _ _ _ h => h) (yh_pickT rfl rfl rfl) ?_
        refine wd_done (by kernel_rfl) ?_
        refine ex_seq ?_
        refine cw_true rfl ?_
        refine cw_seq ?_
        refine cw_region ?_
        refine wl_u rfl (ow_y (yh_move rfl rfl) rfl rfl (kk_wl ?_))
        refine wl_u rfl (ow_y (yh_assign rfl rfl) rfl rfl (kk_wl ?_))
        refine wl_u rfl (ow_y (yh_assign rfl rfl) rfl rfl (kk_wl ?_))
        refine wl_nil ?_
        refine ex_seq ?_
        refine cw_ret ?_
        refine ex_block_ret ?_
        refine ex_then_ret ?_
        refine ex_then_ret ?_
        refine ex_block_ret ?_
        refine ex_then_ret ?_
        obtain rfl := Option.some.inj h
        obtain rfl := go_ret hk5
        exact ex_r2 Tb rfl (.tmp rfl) (.tmp rfl) (fun wq hq => ⟨_, rfl, hq.ext, rfl⟩)
      · skip
        replace h := bf c3 h
        refine wd_take (i := 10) [0] rfl rfl rfl rfl rfl (by kernel_rfl) rfl (fun _ _ _ _ h => h) (yh_move rfl rfl) ?_
        refine wd_take (i := 11) [0] rfl rfl rfl rfl rfl (by kernel_rfl) rfl (fun _ _ _ _ h => h) (yh_move rfl rfl) ?_
        obtain ⟨l31, zl31, h⟩ := bd h
        obtain ⟨il31, jl31⟩ := slTo_K zl31
        have hf31 := sl_takeK h_done zl31
        have mx31 := rd_max hf31
        refine wd_take (i := 12) [0] rfl rfl rfl rfl rfl (by kernel_rfl) rfl (fun _ _ _ _ h => h) (yh_sliceH Tb (k := l31.length) rfl rfl rfl il31 (Nat.le_trans jl31 (rd_cap h_done)) rfl rfl) ?_
        refine wd_take (i := 13) [0] rfl rfl rfl rfl rfl (by kernel_rfl) rfl (fun _ _ _ _ h => h) (yh_field Tb rfl rfl rfl) ?_
        refine wd_take (i := 14) [0] rfl rfl rfl rfl rfl (by kernel_rfl) rfl (fun _ _ _ _ h => h) (yh_loadB Tb (k := 0) rfl rfl rfl rfl rfl) ?_
        refine wd_take (i := 15) [0] rfl rfl rfl rfl rfl (by kernel_rfl) rfl (fun _ _ _ _ h => h) (yh_move rfl rfl) ?_
        obtain ⟨y35, zy35, h⟩ := bd h
        obtain ⟨iy35, hy35⟩ := geti_some zy35
        obtain ⟨b35, o35, ha35⟩ := sl_addr h_f_steps hy35
        subst ha35
        obtain ⟨a35, e35, hc35, hf35⟩ := get_step h_f_steps hy35
        have mx35 := rd_max hf35
        refine wd_take (i := 16) [0] rfl rfl rfl rfl rfl (by kernel_rfl) rfl (fun _ _ _ _ h => h) (yh_idx Tb (k := x18.toNat) rfl rfl rfl iy35 (get_lt hy35) rfl rfl) ?_
        refine wd_take (i := 17) [0] rfl rfl rfl rfl rfl (by kernel_rfl) rfl (fun _ _ _ _ h => h) (yh_field Tb rfl rfl rfl) ?_
        refine wd_take (i := 18) [0] rfl rfl rfl rfl rfl (by kernel_rfl) rfl (fun _ _ _ _ h => h) (yh_loadAF Tb (j := 1) rfl rfl rfl hc35 rfl) ?_
        obtain ⟨x38, hx38, h⟩ := bd h
        refine wd_one 19 rfl rfl (by kernel_rfl) (ow_cV rfl hb58 rfl (fun w hw => c_impl_NamesHave N _ _ _ hx38 w (Lay.at_ hf31 hw) (Lay.at_ hf35 hw)) rfl rfl (kk_wd [0] rfl ?_))
        refine wd_take (i := 20) [0] rfl rfl rfl rfl rfl (by kernel_rfl) rfl (fun _ _ _ _ h => h) (yh_not rfl rfl) ?_
        refine wd_take (i := 21) [0] rfl rfl rfl rfl rfl (by kernel_rfl) rfl (fun _ _ _ _ h => h) (yh_pickF rfl rfl rfl) ?_
        refine wd_done (by kernel_rfl) ?_
        refine ex_seq ?_
        refine cw_split rfl (fun c4 => ?_) (fun c4 => ?_)
        · skip
          replace h := bt c4 h
          refine cw_seq ?_
          refine cw_region ?_
          refine wl_u rfl (ow_y (yh_move rfl rfl) rfl rfl (kk_wl ?_))
          refine wl_u rfl (ow_y (yh_assign rfl rfl) rfl rfl (kk_wl ?_))
          refine wl_u rfl (ow_y (yh_assign rfl rfl) rfl rfl (kk_wl ?_))
          refine wl_nil ?_
          refine ex_seq ?_
          refine cw_ret ?_
          refine ex_block_ret ?_
          refine ex_then_ret ?_
          refine ex_then_ret ?_
          refine ex_block_ret ?_
          refine ex_then_ret ?_
          obtain rfl := Option.some.inj h
          obtain rfl := go_ret hk5
          exact ex_r2 Tb rfl (.tmp rfl) (.tmp rfl) (fun wq hq => ⟨_, rfl, hq.ext, rfl⟩)
        · skip
          replace h := bf c4 h
          refine cw_skip ?_
          refine ex_block_normal ?_
          refine ex_seq ?_
          refine cw_region ?_
          refine wl_u rfl (ow_y (yh_arI rfl rfl rfl rfl (by omega)) rfl rfl (kk_wl ?_))
          refine wl_u rfl (ow_y (yh_move rfl rfl) rfl rfl (kk_wl ?_))
          refine wl_nil ?_
          exact ex_next [0] (hn5 (n5, s11 + 1) (Nat.lt_succ_self _) h) ⟨rfl, rfl, rfl, rfl, rfl, trivial⟩ rfl
  · skip
    replace h := bf c1 h
    have q4 := ltb_false.1 c1
    refine cw_exit ?_
    refine ex_then_exit ?_
    refine ex_then_exit ?_
    obtain rfl := Option.some.inj h
    have h := go_brk hk5
    refine ex_block_exit ?_
    refine ex_seq ?_
    refine cw_seq ?_
    refine cw_region ?_
    refine wl_u rfl (ow_y (yh_assign rfl rfl) rfl rfl (kk_wl ?_))
    refine wl_u rfl (ow_y (yh_assign rfl rfl) rfl rfl (kk_wl ?_))
    refine wl_nil ?_
    refine ex_seq ?_
    refine cw_ret ?_
    obtain rfl := Option.some.inj h
    exact ex_r2 Tb rfl (.tmp rfl) (.tmp rfl) (fun wq hq => ⟨_, rfl, hq.ext, rfl⟩)

def m_impl_FitBad (N : Nat) (g : Flow) (done : List Str) : Option (Str × Bool) := (m_impl_FlowValid N g).bind fun x7 => (bif !x7 then some ((⟨#[]⟩ : Str), false)
 else (m_impl_Flow_bad N g done).bind fun x11 => some (x11.1, x11.2))

set_option maxHeartbeats 4000000 in
theorem c_impl_FitBad (N : Nat) (g : Flow) (done : List Str) (res : Str × Bool) (h : m_impl_FitBad N g done = some res) (w : World) {a_done a_g_steps : Option Addr} {c_done c_g_steps : Nat} (h_g_steps : stepsL.rd w [] [.slice a_g_steps g.steps.length c_g_steps] g.steps) (h_done : strsL.rd w [] [.slice a_done done.length c_done] done) : Ret Try.prog 54 [.agg #[.int .i64 g.ver, .slice a_g_steps g.steps.length c_g_steps], .slice a_done done.length c_done] w [] fun v w' => v = .tuple #[.string res.1, .bool res.2] := by
  have mh_g_steps := rd_max h_g_steps
  have mh_done := rd_max h_done
  unfold m_impl_FitBad at h
  refine ret_enter Try.func54 rfl Try.ntmps54 rfl (Hp.refl w _) ?_
  refine cw_seq ?_
  refine cw_region ?_
  refine wl_u rfl (ow_boxA rfl rfl rfl rfl (fun g2 => kk_wl ?_))
  refine wl_u rfl (ow_y (yh_assign rfl rfl) rfl rfl (kk_wl ?_))
  refine wl_u rfl (ow_y (yh_assign rfl rfl) rfl rfl (kk_wl ?_))
  refine wl_nil ?_
  refine ex_seq ?_
  refine cw_seq ?_
  refine cw_seq ?_
  refine cw_region ?_
  refine wl_u rfl (ow_y (yh_loadBA Tb (k := 0) rfl rfl rfl rfl rfl rfl) rfl rfl (kk_wl ?_))
  obtain ⟨x7, hx7, h⟩ := bd h
  refine wl_u rfl (ow_cV rfl hb62 rfl (fun w hw => c_impl_FlowValid N _ _ hx7 w (Lay.at_ h_g_steps hw)) rfl rfl (kk_wl ?_))
  refine wl_u rfl (ow_y (yh_not rfl rfl) rfl rfl (kk_wl ?_))
  refine wl_nil ?_
  refine ex_seq ?_
  refine cw_split rfl (fun c1 => ?_) (fun c1 => ?_)
  · skip
    replace h := bt c1 h
    refine cw_seq ?_
    refine cw_region ?_
    refine wl_u rfl (ow_y (yh_assign rfl rfl) rfl rfl (kk_wl ?_))
    refine wl_u rfl (ow_y (yh_assign rfl rfl) rfl rfl (kk_wl ?_))
    refine wl_nil ?_
    refine ex_seq ?_
    refine cw_ret ?_
    refine ex_then_ret ?_
    obtain rfl := Option.some.inj h
    exact ex_r2 Tb rfl (.tmp rfl) (.tmp rfl) (fun wq hq => ⟨_, rfl, hq.ext, rfl⟩)
  · skip
    replace h := bf c1 h
    refine cw_skip ?_
    refine ex_seq ?_
    refine cw_seq ?_
    refine cw_region ?_
    refine wl_u rfl (ow_y (yh_loadBA Tb (k := 0) rfl rfl rfl rfl rfl rfl) rfl rfl (kk_wl ?_))
    refine wl_u rfl (ow_y (yh_move rfl rfl) rfl rfl (kk_wl ?_))
    obtain ⟨x11, hx11, h⟩ := bd h
    refine wl_u rfl (ow_cV rfl hb94 rfl (fun w hw => c_impl_Flow_bad N _ _ _ hx11 w (Lay.at_ h_g_steps hw) (Lay.at_ h_done hw)) rfl rfl (kk_wl ?_))
    refine wl_u rfl (ow_y (yh_extract rfl rfl rfl) rfl rfl (kk_wl ?_))
    refine wl_u rfl (ow_y (yh_extract rfl rfl rfl) rfl rfl (kk_wl ?_))
    refine wl_u rfl (ow_y (yh_assign rfl rfl) rfl rfl (kk_wl ?_))
    refine wl_u rfl (ow_y (yh_assign rfl rfl) rfl rfl (kk_wl ?_))
    refine wl_nil ?_
    refine ex_seq ?_
    refine cw_ret ?_
    obtain rfl := Option.some.inj h
    exact ex_r2 Tb rfl (.tmp rfl) (.tmp rfl) (fun wq hq => ⟨_, rfl, hq.ext, rfl⟩)

def m_spec_FitBad_L8 (N : Nat) (g : Flow) (done : List Str) : Nat → Nat → Option (Ex (Nat) (Str × Bool))
  | 0, _ => none
  | n + 1, s6 => (bif ltb ((s6 : Nat) : Int) ((done.length : Nat) : Int) then (slTo done (((s6 : Nat) : Int) + 1)).bind fun l21 => (m_spec_l3Order N g.steps l21).bind fun x22 => (bif !x22 then (done[s6]?).bind fun y26 => some (Ex.ret (y26, true))
 else m_spec_FitBad_L8 N g done n (s6 + 1))
 else some (Ex.brk (s6)))

def m_spec_FitBad (N : Nat) (g : Flow) (done : List Str) : Option (Str × Bool) := (m_spec_FlowValid N g).bind fun x8 => (bif !x8 then some ((⟨#[]⟩ : Str), false)
 else (m_spec_FitBad_L8 N g done N 0).bind fun e8 => e8.go (fun r => r) fun b8 => some ((⟨#[]⟩ : Str), false))

set_option maxHeartbeats 4000000 in
theorem c_spec_FitBad (N : Nat) (g : Flow) (done : List Str) (res : Str × Bool) (h : m_spec_FitBad N g done = some res) (w : World) {a_done a_g_steps : Option Addr} {c_done c_g_steps : Nat} (h_g_steps : stepsL.rd w [] [.slice a_g_steps g.steps.length c_g_steps] g.steps) (h_done : strsL.rd w [] [.slice a_done done.length c_done] done) : Ret Try.prog 55 [.agg #[.int .i64 g.ver, .slice a_g_steps g.steps.length c_g_steps], .slice a_done done.length c_done] w [] fun v w' => v = .tuple #[.string res.1, .bool res.2] := by
  have mh_g_steps := rd_max h_g_steps
  have mh_done := rd_max h_done
  unfold m_spec_FitBad at h
  refine ret_enter Try.func55 rfl Try.ntmps55 rfl (Hp.refl w _) ?_
  refine cw_seq ?_
  refine cw_region ?_
  refine wl_u rfl (ow_boxA rfl rfl rfl rfl (fun g2 => kk_wl ?_))
  refine wl_u rfl (ow_y (yh_assign rfl rfl) rfl rfl (kk_wl ?_))
  refine wl_u rfl (ow_y (yh_assign rfl rfl) rfl rfl (kk_wl ?_))
  refine wl_nil ?_
  refine ex_seq ?_
  refine cw_seq ?_
  refine cw_seq ?_
  refine cw_region ?_
  refine wl_u rfl (ow_y (yh_loadBA Tb (k := 0) rfl rfl rfl rfl rfl rfl) rfl rfl (kk_wl ?_))
  obtain ⟨x8, hx8, h⟩ := bd h
  refine wl_u rfl (ow_cV rfl hb28 rfl (fun w hw => c_spec_FlowValid N _ _ hx8 w (Lay.at_ h_g_steps hw)) rfl rfl (kk_wl ?_))
  refine wl_u rfl (ow_y (yh_not rfl rfl) rfl rfl (kk_wl ?_))
  refine wl_nil ?_
  refine ex_seq ?_
  refine cw_split rfl (fun c1 => ?_) (fun c1 => ?_)
  · skip
    replace h := bt c1 h
    refine cw_seq ?_
    refine cw_region ?_
    refine wl_u rfl (ow_y (yh_assign rfl rfl) rfl rfl (kk_wl ?_))
    refine wl_u rfl (ow_y (yh_assign rfl rfl) rfl rfl (kk_wl ?_))
    refine wl_nil ?_
    refine ex_seq ?_
    refine cw_ret ?_
    refine ex_then_ret ?_
    obtain rfl := Option.some.inj h
    exact ex_r2 Tb rfl (.tmp rfl) (.tmp rfl) (fun wq hq => ⟨_, rfl, hq.ext, rfl⟩)
  · skip
    replace h := bf c1 h
    refine cw_skip ?_
    refine ex_seq ?_
    refine cw_seq ?_
    refine cw_seq ?_
    refine cw_region ?_
    refine wl_u rfl (ow_y (yh_assign rfl rfl) rfl rfl (kk_wl ?_))
    refine wl_nil ?_
    refine ex_seq ?_
    refine cw_block ?_
    obtain ⟨e8, he8, hk8⟩ := bd h
    clear h
    refine cw_loopG (σ := Nat × Nat) (fun s => m_spec_FitBad_L8 N g done s.1 s.2 = some e8) (fun s => [(1, .slice a_done done.length c_done), (2, .pointer (some ⟨g2, 0, none⟩)), (6, .int .i64 ((s.2 : Nat) : Int))]) (fun s => [blkC g2 26 [.int .i64 g.ver, .slice a_g_steps g.steps.length c_g_steps]]) (fun s => s.1) (N, 0) [0] he8 ⟨rfl, rfl, rfl, trivial⟩ rfl (fun KL s he8 hn8 => ?_)
    obtain ⟨n8, s6⟩ := s
    simp only at he8 hn8 ⊢
    rcases n8 with _ | n8
    · exact nosome he8
    have h := he8; rw [m_spec_FitBad_L8] at h
    refine cw_seq ?_
    refine cw_seq ?_
    refine cw_region ?_
    refine wl_u rfl (ow_y (yh_move rfl rfl) rfl rfl (kk_wl ?_))
    refine wl_u rfl (ow_y (yh_move rfl rfl) rfl rfl (kk_wl ?_))
    refine wl_u rfl (ow_y (yh_lenS Tb rfl rfl rfl rfl) rfl rfl (kk_wl ?_))
    refine wl_u rfl (ow_y (yh_cmpI rfl rfl rfl rfl) rfl rfl (kk_wl ?_))
    refine wl_nil ?_
    refine ex_seq ?_
    refine cw_split rfl (fun c2 => ?_) (fun c2 => ?_)
    · skip
      replace h := bt c2 h
      have q1 := ltb_true.1 c2
      refine cw_skip ?_
      refine ex_seq ?_
      refine cw_seq ?_
      refine cw_block ?_
      refine cw_seq ?_
      refine cw_dr [0, 1, 2, 3, 4, 5, 7] [] [blkC g2 26 [.int .i64 g.ver, .slice a_g_steps g.steps.length c_g_steps]] (by kernel_rfl) ?_
      refine wd_take (i := 0) [0] rfl rfl rfl rfl rfl (by kernel_rfl) rfl (fun _ _ _ _ h => h) (yh_field Tb rfl rfl rfl) ?_
      refine wd_take (i := 1) [0] rfl rfl rfl rfl rfl (by kernel_rfl) rfl (fun _ _ _ _ h => h) (yh_loadB Tb (k := 0) rfl rfl rfl rfl rfl) ?_
      refine wd_take (i := 2) [0] rfl rfl rfl rfl rfl (by kernel_rfl) rfl (fun _ _ _ _ h => h) (yh_move rfl rfl) ?_
      refine wd_take (i := 3) [0] rfl rfl rfl rfl rfl (by kernel_rfl) rfl (fun _ _ _ _ h => h) (yh_move rfl rfl) ?_
      refine wd_take (i := 4) [0] rfl rfl rfl rfl rfl (by kernel_rfl) rfl (fun _ _ _ _ h => h) (yh_arI rfl rfl rfl rfl (by omega)) ?_
      obtain ⟨l21, zl21, h⟩ := bd h
      obtain ⟨il21, jl21⟩ := slTo_K zl21
      have hf21 := sl_takeK h_done zl21
      have mx21 := rd_max hf21
      refine wd_take (i := 5) [0] rfl rfl rfl rfl rfl (by kernel_rfl) rfl (fun _ _ _ _ h => h) (yh_sliceH Tb (k := l21.length) rfl rfl rfl il21 (Nat.le_trans jl21 (rd_cap h_done)) rfl rfl) ?_
      obtain ⟨x22, hx22, h⟩ := bd h
      refine wd_one 6 rfl rfl (by kernel_rfl) (ow_cV rfl hb90 rfl (fun w hw => c_spec_l3Order N _ _ _ hx22 w (Lay.at_ h_g_steps hw) (Lay.at_ hf21 hw)) rfl rfl (kk_wd [0] rfl ?_))
      refine wd_take (i := 7) [0] rfl rfl rfl rfl rfl (by kernel_rfl) rfl (fun _ _ _ _ h => h) (yh_not rfl rfl) ?_
      refine wd_done (by kernel_rfl) ?_
      refine ex_seq ?_
      refine cw_split rfl (fun c3 => ?_) (fun c3 => ?_)
      · skip
        replace h := bt c3 h
        refine cw_seq ?_
        refine cw_region ?_
        refine wl_u rfl (ow_y (yh_move rfl rfl) rfl rfl (kk_wl ?_))
        refine wl_u rfl (ow_y (yh_move rfl rfl) rfl rfl (kk_wl ?_))
        obtain ⟨y26, hy26, h⟩ := bd h
        obtain ⟨b26, o26, ha26⟩ := sl_addr h_done hy26
        subst ha26
        have hc26 := get_str h_done hy26
        refine wl_u rfl (ow_y (yh_idx Tb (k := s6) rfl rfl rfl rfl (get_lt hy26) rfl rfl) rfl rfl (kk_wl ?_))
        refine wl_u rfl (ow_y (yh_loadA0 Tb rfl rfl rfl hc26 rfl) rfl rfl (kk_wl ?_))
        refine wl_u rfl (ow_y (yh_assign rfl rfl) rfl rfl (kk_wl ?_))
        refine wl_u rfl (ow_y (yh_assign rfl rfl) rfl rfl (kk_wl ?_))
        refine wl_nil ?_
        refine ex_seq ?_
        refine cw_ret ?_
        refine ex_block_ret ?_
        refine ex_then_ret ?_
        refine ex_then_ret ?_
        refine ex_block_ret ?_
        refine ex_then_ret ?_
        obtain rfl := Option.some.inj h
        obtain rfl := go_ret hk8
        exact ex_r2 Tb rfl (.tmp rfl) (.tmp rfl) (fun wq hq => ⟨_, rfl, hq.ext, rfl⟩)
      · skip
        replace h := bf c3 h
        refine cw_skip ?_
        refine ex_block_normal ?_
        refine ex_seq ?_
        refine cw_region ?_
        refine wl_u rfl (ow_y (yh_move rfl rfl) rfl rfl (kk_wl ?_))
        refine wl_u rfl (ow_y (yh_arI rfl rfl rfl rfl (by omega)) rfl rfl (kk_wl ?_))
        refine wl_u rfl (ow_y (yh_assign rfl rfl) rfl rfl (kk_wl ?_))
        refine wl_nil ?_
        exact ex_next [0] (hn8 (n8, s6 + 1) (Nat.lt_succ_self _) h) ⟨rfl, rfl, rfl, trivial⟩ rfl
    · skip
      replace h := bf c2 h
      have q2 := ltb_false.1 c2
      refine cw_exit ?_
      refine ex_then_exit ?_
      refine ex_then_exit ?_
      obtain rfl := Option.some.inj h
      have h := go_brk hk8
      refine ex_block_exit ?_
      refine ex_seq ?_
      refine cw_seq ?_
      refine cw_region ?_
      refine wl_u rfl (ow_y (yh_assign rfl rfl) rfl rfl (kk_wl ?_))
      refine wl_u rfl (ow_y (yh_assign rfl rfl) rfl rfl (kk_wl ?_))
      refine wl_nil ?_
      refine ex_seq ?_
      refine cw_ret ?_
      obtain rfl := Option.some.inj h
      exact ex_r2 Tb rfl (.tmp rfl) (.tmp rfl) (fun wq hq => ⟨_, rfl, hq.ext, rfl⟩)

def m_laws_placeOf_L4 (N : Nat) (list_ : List Str) (s_ : Str) : Nat → Nat → Option (Ex (Nat) (Int))
  | 0, _ => none
  | n + 1, s5 => (bif ltb ((s5 : Nat) : Int) ((list_.length : Nat) : Int) then (list_[s5]?).bind fun y14 => (bif seq y14 s_ then some (Ex.ret ((s5 : Nat) : Int))
 else m_laws_placeOf_L4 N list_ s_ n (s5 + 1))
 else some (Ex.brk (s5)))

def m_laws_placeOf (N : Nat) (list_ : List Str) (s_ : Str) : Option (Int) := (m_laws_placeOf_L4 N list_ s_ N 0).bind fun e4 => e4.go (fun r => r) fun b4 => some (-1)

set_option maxHeartbeats 4000000 in
theorem c_laws_placeOf (N : Nat) (list_ : List Str) (s_ : Str) (res : Int) (h : m_laws_placeOf N list_ s_ = some res) (w : World) {a_list_ : Option Addr} {c_list_ : Nat} (h_list_ : strsL.rd w [] [.slice a_list_ list_.length c_list_] list_) : Ret Try.prog 56 [.slice a_list_ list_.length c_list_, .string s_] w [] fun v w' => v = .int .i64 res := by
  have mh_list_ := rd_max h_list_
  unfold m_laws_placeOf at h
  refine ret_enter Try.func56 rfl Try.ntmps56 rfl (Hp.refl w _) ?_
  refine cw_seq ?_
  refine cw_region ?_
  refine wl_u rfl (ow_y (yh_assign rfl rfl) rfl rfl (kk_wl ?_))
  refine wl_nil ?_
  refine ex_seq ?_
  refine cw_seq ?_
  refine cw_seq ?_
  refine cw_region ?_
  refine wl_u rfl (ow_y (yh_assign rfl rfl) rfl rfl (kk_wl ?_))
  refine wl_nil ?_
  refine ex_seq ?_
  refine cw_block ?_
  obtain ⟨e4, he4, hk4⟩ := bd h
  clear h
  refine cw_loopG (σ := Nat × Nat) (fun s => m_laws_placeOf_L4 N list_ s_ s.1 s.2 = some e4) (fun s => [(0, .slice a_list_ list_.length c_list_), (1, .string s_), (5, .int .i64 ((s.2 : Nat) : Int))]) (fun s => []) (fun s => s.1) (N, 0) [] he4 ⟨rfl, rfl, rfl, trivial⟩ rfl (fun KL s he4 hn4 => ?_)
  obtain ⟨n4, s5⟩ := s
  simp only at he4 hn4 ⊢
  rcases n4 with _ | n4
  · exact nosome he4
  have h := he4; rw [m_laws_placeOf_L4] at h
  refine cw_seq ?_
  refine cw_seq ?_
  refine cw_region ?_
  refine wl_u rfl (ow_y (yh_move rfl rfl) rfl rfl (kk_wl ?_))
  refine wl_u rfl (ow_y (yh_move rfl rfl) rfl rfl (kk_wl ?_))
  refine wl_u rfl (ow_y (yh_lenS Tb rfl rfl rfl rfl) rfl rfl (kk_wl ?_))
  refine wl_u rfl (ow_y (yh_cmpI rfl rfl rfl rfl) rfl rfl (kk_wl ?_))
  refine wl_nil ?_
  refine ex_seq ?_
  refine cw_split rfl (fun c1 => ?_) (fun c1 => ?_)
  · skip
    replace h := bt c1 h
    have q1 := ltb_true.1 c1
    refine cw_skip ?_
    refine ex_seq ?_
    refine cw_seq ?_
    refine cw_block ?_
    refine cw_seq ?_
    refine cw_region ?_
    refine wl_u rfl (ow_y (yh_move rfl rfl) rfl rfl (kk_wl ?_))
    refine wl_u rfl (ow_y (yh_move rfl rfl) rfl rfl (kk_wl ?_))
    obtain ⟨y14, hy14, h⟩ := bd h
    obtain ⟨b14, o14, ha14⟩ := sl_addr h_list_ hy14
    subst ha14
    have hc14 := get_str h_list_ hy14
    refine wl_u rfl (ow_y (yh_idx Tb (k := s5) rfl rfl rfl rfl (get_lt hy14) rfl rfl) rfl rfl (kk_wl ?_))
    refine wl_u rfl (ow_y (yh_loadA0 Tb rfl rfl rfl hc14 rfl) rfl rfl (kk_wl ?_))
    refine wl_u rfl (ow_y (yh_move rfl rfl) rfl rfl (kk_wl ?_))
    refine wl_u rfl (ow_y (yh_cmpS rfl rfl rfl rfl) rfl rfl (kk_wl ?_))
    refine wl_nil ?_
    refine ex_seq ?_
    refine cw_split rfl (fun c2 => ?_) (fun c2 => ?_)
    · skip
      replace h := bt c2 h
      refine cw_seq ?_
      refine cw_region ?_
      refine wl_u rfl (ow_y (yh_move rfl rfl) rfl rfl (kk_wl ?_))
      refine wl_u rfl (ow_y (yh_assign rfl rfl) rfl rfl (kk_wl ?_))
      refine wl_nil ?_
      refine ex_seq ?_
      refine cw_ret ?_
      refine ex_block_ret ?_
      refine ex_then_ret ?_
      refine ex_then_ret ?_
      refine ex_block_ret ?_
      refine ex_then_ret ?_
      obtain rfl := Option.some.inj h
      obtain rfl := go_ret hk4
      exact ex_r1 Tb rfl (.tmp rfl) (fun wq hq => ⟨_, rfl, hq.ext, rfl⟩)
    · skip
      replace h := bf c2 h
      refine cw_skip ?_
      refine ex_block_normal ?_
      refine ex_seq ?_
      refine cw_region ?_
      refine wl_u rfl (ow_y (yh_move rfl rfl) rfl rfl (kk_wl ?_))
      refine wl_u rfl (ow_y (yh_arI rfl rfl rfl rfl (by omega)) rfl rfl (kk_wl ?_))
      refine wl_u rfl (ow_y (yh_assign rfl rfl) rfl rfl (kk_wl ?_))
      refine wl_nil ?_
      exact ex_next [] (hn4 (n4, s5 + 1) (Nat.lt_succ_self _) h) ⟨rfl, rfl, rfl, trivial⟩ rfl
  · skip
    replace h := bf c1 h
    have q2 := ltb_false.1 c1
    refine cw_exit ?_
    refine ex_then_exit ?_
    refine ex_then_exit ?_
    obtain rfl := Option.some.inj h
    have h := go_brk hk4
    refine ex_block_exit ?_
    refine ex_seq ?_
    refine cw_seq ?_
    refine cw_region ?_
    refine wl_u rfl (ow_y (yh_assign rfl rfl) rfl rfl (kk_wl ?_))
    refine wl_nil ?_
    refine ex_seq ?_
    refine cw_ret ?_
    obtain rfl := Option.some.inj h
    exact ex_r1 Tb rfl (.tmp rfl) (fun wq hq => ⟨_, rfl, hq.ext, rfl⟩)

def m_impl_cloneNames (N : Nat) (list_ : List Str) : Option (List Str) := (appd ([] : List Str) list_).bind fun l4 => some (([] : List Str) ++ list_)

set_option maxHeartbeats 4000000 in
theorem c_impl_cloneNames (N : Nat) (list_ : List Str) (res : List Str) (h : m_impl_cloneNames N list_ = some res) (w : World) {a_list_ : Option Addr} {c_list_ : Nat} (h_list_ : strsL.rd w [] [.slice a_list_ list_.length c_list_] list_) : Ret Try.prog 95 [.slice a_list_ list_.length c_list_] w [] fun v w' => ∃ a1 c1 F1, v = .slice a1 res.length c1 ∧ NewC w w' [owC strsL F1 [.slice a1 res.length c1] res] := by
  have mh_list_ := rd_max h_list_
  unfold m_impl_cloneNames at h
  refine ret_enter Try.func95 rfl Try.ntmps95 rfl (Hp.refl w _) ?_
  refine cw_seq ?_
  refine cw_region ?_
  refine wl_u rfl (ow_y (yh_assign rfl rfl) rfl rfl (kk_wl ?_))
  refine wl_nil ?_
  refine ex_seq ?_
  refine cw_seq ?_
  refine cw_region ?_
  refine wl_u rfl (ow_y (yh_move rfl rfl) rfl rfl (kk_wl ?_))
  obtain ⟨hll4, h⟩ := bd_appd h
  refine wl_u rfl (ow_nilS strsL rfl (ow_appP Tb (i := 0) rfl rfl rfl rfl rfl (fun w hw => Lay.at_ h_list_ hw) rfl rfl rfl rfl hll4 (by decide) rfl rfl (fun a4 c4 F4 => kk_wl ?_)))
  refine wl_u rfl (ow_y (yh_assign rfl rfl) rfl rfl (kk_wl ?_))
  refine wl_nil ?_
  refine ex_seq ?_
  refine cw_ret ?_
  obtain rfl := Option.some.inj h
  exact ex_r1 Tb rfl (.tmp rfl) (fun wq hq => ⟨_, rfl, hq.ext, ⟨a4, c4, F4, rfl, NewC.sel [0] hq rfl⟩⟩)

def m_impl_Step_clone (N : Nat) (s_ : Step) : Option (Step) := (m_impl_cloneNames N s_.after).bind fun x5 => some (Step.mk s_.name x5 s_.undo)

set_option maxHeartbeats 4000000 in
theorem c_impl_Step_clone (N : Nat) (s_ : Step) (res : Step) (h : m_impl_Step_clone N s_ = some res) (w : World) {a_s__after : Option Addr} {c_s__after : Nat} (h_s__after : strsL.rd w [] [.slice a_s__after s_.after.length c_s__after] s_.after) : Ret Try.prog 105 [.agg #[.string s_.name, .slice a_s__after s_.after.length c_s__after, .bool s_.undo]] w [] fun v w' => ∃ a1 c1 F1, v = .agg #[.string res.name, .slice a1 res.after.length c1, .bool res.undo] ∧ NewC w w' [owC strsL F1 [.slice a1 res.after.length c1] res.after] := by
  have mh_s__after := rd_max h_s__after
  unfold m_impl_Step_clone at h
  refine ret_enter Try.func105 rfl Try.ntmps105 rfl (Hp.refl w _) ?_
  refine cw_seq ?_
  refine cw_region ?_
  refine wl_u rfl (ow_boxA rfl rfl rfl rfl (fun g1 => kk_wl ?_))
  refine wl_u rfl (ow_allocA Tb rfl rfl rfl rfl (fun g2 => kk_wl ?_))
  refine wl_nil ?_
  refine ex_seq ?_
  refine cw_seq ?_
  refine cw_region ?_
  refine wl_u rfl (ow_y (yh_field Tb rfl rfl rfl) rfl rfl (kk_wl ?_))
  refine wl_u rfl (ow_y (yh_loadB Tb (k := 1) rfl rfl rfl rfl rfl) rfl rfl (kk_wl ?_))
  obtain ⟨x5, hx5, h⟩ := bd h
  refine wl_u rfl (ow_cN1 rfl hb95 rfl (fun w hw => c_impl_cloneNames N _ _ hx5 w (Lay.at_ h_s__after hw)) rfl rfl (fun a5 c5 F5 => kk_wl ?_))
  refine wl_u rfl (ow_y (yh_field Tb rfl rfl rfl) rfl rfl (kk_wl ?_))
  refine wl_u rfl (ow_store1 Tb (k := 2) rfl rfl rfl rfl rfl rfl rfl rfl rfl (kk_wl ?_))
  refine wl_nil ?_
  refine ex_seq ?_
  refine cw_seq ?_
  refine cw_region ?_
  refine wl_u rfl (ow_y (yh_loadBA Tb (k := 0) rfl rfl rfl rfl rfl rfl) rfl rfl (kk_wl ?_))
  refine wl_u rfl (ow_storeA Tb (k := 2) rfl rfl rfl rfl rfl rfl rfl rfl rfl (kk_wl ?_))
  refine wl_nil ?_
  refine ex_seq ?_
  refine cw_ret ?_
  obtain rfl := Option.some.inj h
  exact ex_r1 Tb rfl (.cellA 0 rfl rfl rfl rfl rfl) (fun wq hq => ⟨_, rfl, hq.ext, ⟨a5, c5, F5, rfl, NewC.sel [2] hq rfl⟩⟩)

def m_impl_FlowFind (N : Nat) (f : Flow) (name : Str) : Option (Step × Bool) := (m_impl_FlowValid N f).bind fun x7 => (bif !x7 then some ((Step.mk (⟨#[]⟩ : Str) [] false), false)
 else (m_impl_Flow_at N f name).bind fun x12 => (bif ltb x12 0 then some ((Step.mk (⟨#[]⟩ : Str) [] false), false)
 else (m_impl_Flow_at N f name).bind fun x20 => (geti f.steps x20).bind fun y21 => (m_impl_Step_clone N y21).bind fun x23 => some (x23, true)))

set_option maxHeartbeats 4000000 in
theorem c_impl_FlowFind (N : Nat) (f : Flow) (name : Str) (res : Step × Bool) (h : m_impl_FlowFind N f name = some res) (w : World) {a_f_steps : Option Addr} {c_f_steps : Nat} (h_f_steps : stepsL.rd w [] [.slice a_f_steps f.steps.length c_f_steps] f.steps) : Ret Try.prog 57 [.agg #[.int .i64 f.ver, .slice a_f_steps f.steps.length c_f_steps], .string name] w [] fun v w' => ∃ a1 c1 F1, v = .tuple #[.agg #[.string res.1.name, .slice a1 res.1.after.length c1, .bool res.1.undo], .bool res.2] ∧ NewC w w' [owC strsL F1 [.slice a1 res.1.after.length c1] res.1.after] := by
  have mh_f_steps := rd_max h_f_steps
  unfold m_impl_FlowFind at h
  refine ret_enter Try.func57 rfl Try.ntmps57 rfl (Hp.refl w _) ?_
  refine cw_seq ?_
  refine cw_region ?_
  refine wl_u rfl (ow_boxA rfl rfl rfl rfl (fun g2 => kk_wl ?_))
  refine wl_u rfl (ow_allocA Tb rfl rfl rfl rfl (fun g4 => kk_wl ?_))
  refine wl_u rfl (ow_y (yh_assign rfl rfl) rfl rfl (kk_wl ?_))
  refine wl_nil ?_
  refine ex_seq ?_
  refine cw_seq ?_
  refine cw_seq ?_
  refine cw_region ?_
  refine wl_u rfl (ow_y (yh_loadBA Tb (k := 1) rfl rfl rfl rfl rfl rfl) rfl rfl (kk_wl ?_))
  obtain ⟨x7, hx7, h⟩ := bd h
  refine wl_u rfl (ow_cV rfl hb62 rfl (fun w hw => c_impl_FlowValid N _ _ hx7 w (Lay.at_ h_f_steps hw)) rfl rfl (kk_wl ?_))
  refine wl_u rfl (ow_y (yh_not rfl rfl) rfl rfl (kk_wl ?_))
  refine wl_u rfl (ow_y (yh_move rfl rfl) rfl rfl (kk_wl ?_))
  refine wl_s rfl rfl (fun c1 => ?_) (fun c1 => ?_)
  · skip
    replace h := bt c1 h
    refine wl_n rfl rfl rfl rfl ?_
    refine wl_n rfl rfl rfl rfl ?_
    refine wl_n rfl rfl rfl rfl ?_
    refine wl_n rfl rfl rfl rfl ?_
    refine wl_u rfl (ow_y (yh_pickT rfl rfl rfl) rfl rfl (kk_wl ?_))
    refine wl_nil ?_
    refine ex_seq ?_
    refine cw_true rfl ?_
    refine cw_seq ?_
    refine cw_region ?_
    refine wl_u rfl (ow_y (yh_build [.string (⟨#[]⟩ : Str), .slice none 0 0, .bool false] rfl rfl (by kernel_rfl)) rfl rfl (kk_wl ?_))
    refine wl_u rfl (ow_storeA Tb (k := 0) rfl rfl rfl rfl rfl rfl rfl rfl rfl (kk_wl ?_))
    refine wl_u rfl (ow_y (yh_assign rfl rfl) rfl rfl (kk_wl ?_))
    refine wl_nil ?_
    refine ex_seq ?_
    refine cw_ret ?_
    refine ex_then_ret ?_
    refine ex_nilS strsL rfl ?_
    obtain rfl := Option.some.inj h
    exact ex_r2 Tb rfl (.cellA 1 rfl rfl rfl rfl rfl) (.tmp rfl) (fun wq hq => ⟨_, rfl, hq.ext, ⟨none, 0, [], rfl, NewC.sel [0] hq rfl⟩⟩)
  · skip
    replace h := bf c1 h
    refine wl_g rfl rfl (ow_y (yh_loadBA Tb (k := 1) rfl rfl rfl rfl rfl rfl) rfl rfl (kk_wl ?_))
    refine wl_g rfl rfl (ow_y (yh_move rfl rfl) rfl rfl (kk_wl ?_))
    obtain ⟨x12, hx12, h⟩ := bd h
    refine wl_g rfl rfl (ow_cV rfl hb104 rfl (fun w hw => c_impl_Flow_at N _ _ _ hx12 w (Lay.at_ h_f_steps hw)) rfl rfl (kk_wl ?_))
    refine wl_g rfl rfl (ow_y (yh_cmpI rfl rfl rfl rfl) rfl rfl (kk_wl ?_))
    refine wl_u rfl (ow_y (yh_pickF rfl rfl rfl) rfl rfl (kk_wl ?_))
    refine wl_nil ?_
    refine ex_seq ?_
    refine cw_split rfl (fun c2 => ?_) (fun c2 => ?_)
    · skip
      replace h := bt c2 h
      have q1 := ltb_true.1 c2
      refine cw_seq ?_
      refine cw_region ?_
      refine wl_u rfl (ow_y (yh_build [.string (⟨#[]⟩ : Str), .slice none 0 0, .bool false] rfl rfl (by kernel_rfl)) rfl rfl (kk_wl ?_))
      refine wl_u rfl (ow_storeA Tb (k := 0) rfl rfl rfl rfl rfl rfl rfl rfl rfl (kk_wl ?_))
      refine wl_u rfl (ow_y (yh_assign rfl rfl) rfl rfl (kk_wl ?_))
      refine wl_nil ?_
      refine ex_seq ?_
      refine cw_ret ?_
      refine ex_then_ret ?_
      refine ex_nilS strsL rfl ?_
      obtain rfl := Option.some.inj h
      exact ex_r2 Tb rfl (.cellA 1 rfl rfl rfl rfl rfl) (.tmp rfl) (fun wq hq => ⟨_, rfl, hq.ext, ⟨none, 0, [], rfl, NewC.sel [0] hq rfl⟩⟩)
    · skip
      replace h := bf c2 h
      have q2 := ltb_false.1 c2
      refine cw_skip ?_
      refine ex_seq ?_
      refine cw_seq ?_
      refine cw_dr [0, 1, 2, 3, 5, 6] [8, 9] [blkC g4 79 [.string (⟨#[]⟩ : Str), .slice none 0 0, .bool false], blkC g2 26 [.int .i64 f.ver, .slice a_f_steps f.steps.length c_f_steps]] (by kernel_rfl) ?_
      refine wd_take (i := 0) [0, 1] rfl rfl rfl rfl rfl (by kernel_rfl) rfl (fun _ _ _ _ h => h) (yh_field Tb rfl rfl rfl) ?_
      refine wd_take (i := 1) [0, 1] rfl rfl rfl rfl rfl (by kernel_rfl) rfl (fun _ _ _ _ h => h) (yh_loadB Tb (k := 1) rfl rfl rfl rfl rfl) ?_
      refine wd_take (i := 2) [0, 1] rfl rfl rfl rfl rfl (by kernel_rfl) rfl (fun _ _ _ _ h => h) (yh_loadBA Tb (k := 1) rfl rfl rfl rfl rfl rfl) ?_
      refine wd_take (i := 3) [0, 1] rfl rfl rfl rfl rfl (by kernel_rfl) rfl (fun _ _ _ _ h => h) (yh_move rfl rfl) ?_
      obtain ⟨x20, hx20, h⟩ := bd h
      refine wd_one 4 rfl rfl (by kernel_rfl) (ow_cV rfl hb104 rfl (fun w hw => c_impl_Flow_at N _ _ _ hx20 w (Lay.at_ h_f_steps hw)) rfl rfl (kk_wd [0, 1] rfl ?_))
      obtain ⟨y21, zy21, h⟩ := bd h
      obtain ⟨iy21, hy21⟩ := geti_some zy21
      obtain ⟨b21, o21, ha21⟩ := sl_addr h_f_steps hy21
      subst ha21
      obtain ⟨a21, e21, hc21, hf21⟩ := get_step h_f_steps hy21
      have mx21 := rd_max hf21
      refine wd_take (i := 5) [0, 1] rfl rfl rfl rfl rfl (by kernel_rfl) rfl (fun _ _ _ _ h => h) (yh_idx Tb (k := x20.toNat) rfl rfl rfl iy21 (get_lt hy21) rfl rfl) ?_
      refine wd_take (i := 6) [0, 1] rfl rfl rfl rfl rfl (by kernel_rfl) rfl (fun _ _ _ _ h => h) (yh_loadAN Tb rfl rfl rfl rfl hc21 rfl) ?_
      obtain ⟨x23, hx23, h⟩ := bd h
      refine wd_one 7 rfl rfl (by kernel_rfl) (ow_cN1 rfl hb105 rfl (fun w hw => c_impl_Step_clone N _ _ hx23 w (Lay.at_ hf21 hw)) rfl rfl (fun a23 c23 F23 => kk_wd [1, 2] rfl ?_))
      refine wd_one 8 rfl rfl (by kernel_rfl) (ow_storeA Tb (k := 1) rfl rfl rfl rfl rfl rfl rfl rfl rfl (kk_wdT rfl ?_))
      refine wd_one 9 rfl rfl (by kernel_rfl) (ow_y (yh_assign rfl rfl) rfl rfl (kk_wdT rfl ?_))
      refine wd_done (by kernel_rfl) ?_
      refine ex_seq ?_
      refine cw_ret ?_
      obtain rfl := Option.some.inj h
      exact ex_r2 Tb rfl (.cellA 0 rfl rfl rfl rfl rfl) (.tmp rfl) (fun wq hq => ⟨_, rfl, hq.ext, ⟨a23, c23, F23, rfl, NewC.sel [1] hq rfl⟩⟩)

def m_laws_FnFitBad_L18 (N : Nat) (x19 : Flow × List Str) (x25 : Str × Bool) : Nat → Nat → Option (Ex (Nat) (Bool))
  | 0, _ => none
  | n + 1, s10 => (bif ltb ((s10 : Nat) : Int) ((x19.2.length : Nat) : Int) then (x19.2[s10]?).bind fun y67 => (m_impl_FlowFind N x19.1 y67).bind fun x69 => (bif x69.2 then (m_laws_placeOf N x19.2 y67).bind fun x79 => (bif eqb x79 ((s10 : Nat) : Int) then (slTo x19.2 ((s10 : Nat) : Int)).bind fun l86 => (m_impl_NamesHave N l86 x69.1.after).bind fun x89 => (bif !x89 then some (Ex.ret (seq y67 x25.1))
 else m_laws_FnFitBad_L18 N x19 x25 n (s10 + 1))
 else some (Ex.ret (seq y67 x25.1)))
 else some (Ex.ret (seq y67 x25.1)))
 else some (Ex.brk (s10)))

def m_laws_FnFitBad (N : Nat) (u0 : List UInt8) : Option (Bool) := (bif ltb 1048576 ((u0.length : Nat) : Int) then some true
 else (m_spec_DrawFitBad N u0).bind fun x19 => (m_impl_FitBad N x19.1 x19.2).bind fun x25 => (m_spec_FitBad N x19.1 x19.2).bind fun x31 => (bif x25.2 != x31.2 then (bif x25.2 == x31.2 then some (seq x25.1 x31.1)
 else some false)
 else (bif !(seq x25.1 x31.1) then (bif x25.2 == x31.2 then some (seq x25.1 x31.1)
 else some false)
 else (bif !x25.2 then (bif x25.2 == x31.2 then some (seq x25.1 x31.1)
 else some false)
 else (m_laws_placeOf N x19.2 x25.1).bind fun x56 => (m_laws_FnFitBad_L18 N x19 x25 N 0).bind fun e18 => e18.go (fun r => r) fun b18 => some (ltb x56 0)))))

set_option maxHeartbeats 4000000 in
theorem c_laws_FnFitBad (N : Nat) (u0 : List UInt8) (res : Bool) (h : m_laws_FnFitBad N u0 = some res) (w : World) {a_u0 : Option Addr} {c_u0 : Nat} (h_u0 : bytesL.rd w [] [.slice a_u0 u0.length c_u0] u0) : Ret Try.prog 14 [.slice a_u0 u0.length c_u0] w [] fun v w' => v = .bool res := by
  have mh_u0 := rd_max h_u0
  unfold m_laws_FnFitBad at h
  refine ret_enter Try.func14 rfl Try.ntmps14 rfl (Hp.refl w _) ?_
  refine cw_seq ?_
  refine cw_region ?_
  refine wl_u rfl (ow_y (yh_assign rfl rfl) rfl rfl (kk_wl ?_))
  refine wl_nil ?_
  refine ex_seq ?_
  refine cw_seq ?_
  refine cw_seq ?_
  refine cw_region ?_
  refine wl_u rfl (ow_y (yh_move rfl rfl) rfl rfl (kk_wl ?_))
  refine wl_u rfl (ow_y (yh_lenS Tb rfl rfl rfl rfl) rfl rfl (kk_wl ?_))
  refine wl_u rfl (ow_y (yh_cmpI rfl rfl rfl rfl) rfl rfl (kk_wl ?_))
  refine wl_nil ?_
  refine ex_seq ?_
  refine cw_split rfl (fun c1 => ?_) (fun c1 => ?_)
  · skip
    replace h := bt c1 h
    have q1 := ltb_true.1 c1
    refine cw_seq ?_
    refine cw_region ?_
    refine wl_u rfl (ow_y (yh_assign rfl rfl) rfl rfl (kk_wl ?_))
    refine wl_nil ?_
    refine ex_seq ?_
    refine cw_ret ?_
    refine ex_then_ret ?_
    obtain rfl := Option.some.inj h
    exact ex_r1 Tb rfl (.tmp rfl) (fun wq hq => ⟨_, rfl, hq.ext, rfl⟩)
  · skip
    replace h := bf c1 h
    have q2 := ltb_false.1 c1
    refine cw_skip ?_
    refine ex_seq ?_
    refine cw_seq ?_
    refine cw_region ?_
    refine wl_u rfl (ow_y (yh_move rfl rfl) rfl rfl (kk_wl ?_))
    obtain ⟨x19, hx19, h⟩ := bd h
    refine wl_u rfl (ow_cN2 rfl hb53 rfl (fun w hw => c_spec_DrawFitBad N _ _ hx19 w (Lay.at_ h_u0 hw)) rfl rfl (fun a19 c19 F19 a19_2 c19_2 F19_2 => kk_wl ?_))
    refine wl_u rfl (ow_y (yh_move rfl rfl) rfl rfl (kk_wl ?_))
    refine wl_u rfl (ow_y (yh_extract rfl rfl rfl) rfl rfl (kk_wl ?_))
    refine wl_u rfl (ow_y (yh_extract rfl rfl rfl) rfl rfl (kk_wl ?_))
    refine wl_u rfl (ow_allocA Tb rfl rfl rfl rfl (fun g3 => kk_wl ?_))
    refine wl_u rfl (ow_storeA Tb (k := 0) rfl rfl rfl rfl rfl rfl rfl rfl rfl (kk_wl ?_))
    refine wl_u rfl (ow_y (yh_assign rfl rfl) rfl rfl (kk_wl ?_))
    refine wl_nil ?_
    refine ex_seq ?_
    refine cw_seq ?_
    refine cw_freeze 1 rfl (fun w1 M1 hb1_ hz1 => ?_)
    replace h_u0 := Lay.rb h_u0 hb1_
    have hB1 := hb1_
    have mz1 := rd_max hz1
    refine cw_freeze 1 rfl (fun w2 M2 hb2_ hz2 => ?_)
    replace h_u0 := Lay.rb h_u0 hb2_
    replace hz1 := Lay.rb hz1 hb2_
    have hB2 := hB1.trans hb2_
    have mz2 := rd_max hz2
    refine cw_region ?_
    refine wl_u rfl (ow_y (yh_loadBA Tb (k := 0) rfl rfl rfl rfl rfl rfl) rfl rfl (kk_wl ?_))
    refine wl_u rfl (ow_y (yh_move rfl rfl) rfl rfl (kk_wl ?_))
    obtain ⟨x25, hx25, h⟩ := bd h
    refine wl_u rfl (ow_cV rfl hb54 rfl (fun w hw => c_impl_FitBad N _ _ _ hx25 w (Lay.at_ hz1 hw) (Lay.at_ hz2 hw)) rfl rfl (kk_wl ?_))
    refine wl_u rfl (ow_y (yh_move rfl rfl) rfl rfl (kk_wl ?_))
    refine wl_u rfl (ow_y (yh_extract rfl rfl rfl) rfl rfl (kk_wl ?_))
    refine wl_u rfl (ow_y (yh_extract rfl rfl rfl) rfl rfl (kk_wl ?_))
    refine wl_u rfl (ow_y (yh_assign rfl rfl) rfl rfl (kk_wl ?_))
    refine wl_u rfl (ow_y (yh_assign rfl rfl) rfl rfl (kk_wl ?_))
    refine wl_nil ?_
    refine ex_seq ?_
    refine cw_seq ?_
    refine cw_region ?_
    refine wl_u rfl (ow_y (yh_loadBA Tb (k := 0) rfl rfl rfl rfl rfl rfl) rfl rfl (kk_wl ?_))
    refine wl_u rfl (ow_y (yh_move rfl rfl) rfl rfl (kk_wl ?_))
    obtain ⟨x31, hx31, h⟩ := bd h
    refine wl_u rfl (ow_cV rfl hb55 rfl (fun w hw => c_spec_FitBad N _ _ _ hx31 w (Lay.at_ hz1 hw) (Lay.at_ hz2 hw)) rfl rfl (kk_wl ?_))
    refine wl_u rfl (ow_y (yh_move rfl rfl) rfl rfl (kk_wl ?_))
    refine wl_u rfl (ow_y (yh_extract rfl rfl rfl) rfl rfl (kk_wl ?_))
    refine wl_u rfl (ow_y (yh_extract rfl rfl rfl) rfl rfl (kk_wl ?_))
    refine wl_u rfl (ow_y (yh_assign rfl rfl) rfl rfl (kk_wl ?_))
    refine wl_u rfl (ow_y (yh_assign rfl rfl) rfl rfl (kk_wl ?_))
    refine wl_nil ?_
    refine ex_seq ?_
    refine cw_seq ?_
    refine cw_seq ?_
    refine cw_region ?_
    refine wl_u rfl (ow_y (yh_move rfl rfl) rfl rfl (kk_wl ?_))
    refine wl_u rfl (ow_y (yh_move rfl rfl) rfl rfl (kk_wl ?_))
    refine wl_u rfl (ow_y (yh_cmpB rfl rfl rfl rfl (by kernel_rfl)) rfl rfl (kk_wl ?_))
    refine wl_u rfl (ow_y (yh_move rfl rfl) rfl rfl (kk_wl ?_))
    refine wl_s rfl rfl (fun c2 => ?_) (fun c2 => ?_)
    · skip
      replace h := bt c2 h
      refine wl_n rfl rfl rfl rfl ?_
      refine wl_n rfl rfl rfl rfl ?_
      refine wl_n rfl rfl rfl rfl ?_
      refine wl_u rfl (ow_y (yh_pickT rfl rfl rfl) rfl rfl (kk_wl ?_))
      refine wl_u rfl (ow_y (yh_move rfl rfl) rfl rfl (kk_wl ?_))
      refine wl_s rfl rfl (fun _ => ?_) nofun
      refine wl_n rfl rfl rfl rfl ?_
      refine wl_n rfl rfl rfl rfl ?_
      refine wl_u rfl (ow_y (yh_pickT rfl rfl rfl) rfl rfl (kk_wl ?_))
      refine wl_nil ?_
      refine ex_seq ?_
      refine cw_true rfl ?_
      refine cw_seq ?_
      refine cw_region ?_
      refine wl_u rfl (ow_y (yh_move rfl rfl) rfl rfl (kk_wl ?_))
      refine wl_u rfl (ow_y (yh_move rfl rfl) rfl rfl (kk_wl ?_))
      refine wl_u rfl (ow_y (yh_cmpB rfl rfl rfl rfl (by kernel_rfl)) rfl rfl (kk_wl ?_))
      refine wl_u rfl (ow_y (yh_move rfl rfl) rfl rfl (kk_wl ?_))
      refine wl_s rfl rfl (fun c3 => ?_) (fun c3 => ?_)
      · skip
        replace h := bt c3 h
        refine wl_g rfl rfl (ow_y (yh_move rfl rfl) rfl rfl (kk_wl ?_))
        refine wl_g rfl rfl (ow_y (yh_move rfl rfl) rfl rfl (kk_wl ?_))
        refine wl_g rfl rfl (ow_y (yh_cmpS rfl rfl rfl rfl) rfl rfl (kk_wl ?_))
        refine wl_u rfl (ow_y (yh_pickT rfl rfl rfl) rfl rfl (kk_wl ?_))
        refine wl_u rfl (ow_y (yh_assign rfl rfl) rfl rfl (kk_wl ?_))
        refine wl_nil ?_
        refine ex_seq ?_
        refine cw_ret ?_
        refine ex_then_ret ?_
        obtain rfl := Option.some.inj h
        exact ex_r1 Tb rfl (.tmp rfl) (fun wq hq => ⟨_, rfl, (hB2.back hq).ext, rfl⟩)
      · skip
        replace h := bf c3 h
        refine wl_n rfl rfl rfl rfl ?_
        refine wl_n rfl rfl rfl rfl ?_
        refine wl_n rfl rfl rfl rfl ?_
        refine wl_u rfl (ow_y (yh_pickF rfl rfl rfl) rfl rfl (kk_wl ?_))
        refine wl_u rfl (ow_y (yh_assign rfl rfl) rfl rfl (kk_wl ?_))
        refine wl_nil ?_
        refine ex_seq ?_
        refine cw_ret ?_
        refine ex_then_ret ?_
        obtain rfl := Option.some.inj h
        exact ex_r1 Tb rfl (.tmp rfl) (fun wq hq => ⟨_, rfl, (hB2.back hq).ext, rfl⟩)
    · skip
      replace h := bf c2 h
      refine wl_g rfl rfl (ow_y (yh_move rfl rfl) rfl rfl (kk_wl ?_))
      refine wl_g rfl rfl (ow_y (yh_move rfl rfl) rfl rfl (kk_wl ?_))
      refine wl_g rfl rfl (ow_y (yh_cmpS rfl rfl rfl rfl) rfl rfl (kk_wl ?_))
      refine wl_u rfl (ow_y (yh_pickF rfl rfl rfl) rfl rfl (kk_wl ?_))
      refine wl_u rfl (ow_y (yh_move rfl rfl) rfl rfl (kk_wl ?_))
      refine wl_s rfl rfl (fun c4 => ?_) (fun c4 => ?_)
      · skip
        replace h := bt c4 h
        refine wl_n rfl rfl rfl rfl ?_
        refine wl_n rfl rfl rfl rfl ?_
        refine wl_u rfl (ow_y (yh_pickT rfl rfl rfl) rfl rfl (kk_wl ?_))
        refine wl_nil ?_
        refine ex_seq ?_
        refine cw_true rfl ?_
        refine cw_seq ?_
        refine cw_region ?_
        refine wl_u rfl (ow_y (yh_move rfl rfl) rfl rfl (kk_wl ?_))
        refine wl_u rfl (ow_y (yh_move rfl rfl) rfl rfl (kk_wl ?_))
        refine wl_u rfl (ow_y (yh_cmpB rfl rfl rfl rfl (by kernel_rfl)) rfl rfl (kk_wl ?_))
        refine wl_u rfl (ow_y (yh_move rfl rfl) rfl rfl (kk_wl ?_))
        refine wl_s rfl rfl (fun c5 => ?_) (fun c5 => ?_)
        · skip
          replace h := bt c5 h
          refine wl_g rfl rfl (ow_y (yh_move rfl rfl) rfl rfl (kk_wl ?_))
          refine wl_g rfl rfl (ow_y (yh_move rfl rfl) rfl rfl (kk_wl ?_))
          refine wl_g rfl rfl (ow_y (yh_cmpS rfl rfl rfl rfl) rfl rfl (kk_wl ?_))
          refine wl_u rfl (ow_y (yh_pickT rfl rfl rfl) rfl rfl (kk_wl ?_))
          refine wl_u rfl (ow_y (yh_assign rfl rfl) rfl rfl (kk_wl ?_))
          refine wl_nil ?_
          refine ex_seq ?_
          refine cw_ret ?_
          refine ex_then_ret ?_
          obtain rfl := Option.some.inj h
          exact ex_r1 Tb rfl (.tmp rfl) (fun wq hq => ⟨_, rfl, (hB2.back hq).ext, rfl⟩)
        · skip
          replace h := bf c5 h
          refine wl_n rfl rfl rfl rfl ?_
          refine wl_n rfl rfl rfl rfl ?_
          refine wl_n rfl rfl rfl rfl ?_
          refine wl_u rfl (ow_y (yh_pickF rfl rfl rfl) rfl rfl (kk_wl ?_))
          refine wl_u rfl (ow_y (yh_assign rfl rfl) rfl rfl (kk_wl ?_))
          refine wl_nil ?_
          refine ex_seq ?_
          refine cw_ret ?_
          refine ex_then_ret ?_
          obtain rfl := Option.some.inj h
          exact ex_r1 Tb rfl (.tmp rfl) (fun wq hq => ⟨_, rfl, (hB2.back hq).ext, rfl⟩)
      · skip
        replace h := bf c4 h
        refine wl_g rfl rfl (ow_y (yh_move rfl rfl) rfl rfl (kk_wl ?_))
        refine wl_g rfl rfl (ow_y (yh_not rfl rfl) rfl rfl (kk_wl ?_))
        refine wl_u rfl (ow_y (yh_pickF rfl rfl rfl) rfl rfl (kk_wl ?_))
        refine wl_nil ?_
        refine ex_seq ?_
        refine cw_split rfl (fun c6 => ?_) (fun c6 => ?_)
        · skip
          replace h := bt c6 h
          refine cw_seq ?_
          refine cw_region ?_
          refine wl_u rfl (ow_y (yh_move rfl rfl) rfl rfl (kk_wl ?_))
          refine wl_u rfl (ow_y (yh_move rfl rfl) rfl rfl (kk_wl ?_))
          refine wl_u rfl (ow_y (yh_cmpB rfl rfl rfl rfl (by kernel_rfl)) rfl rfl (kk_wl ?_))
          refine wl_u rfl (ow_y (yh_move rfl rfl) rfl rfl (kk_wl ?_))
          refine wl_s rfl rfl (fun c7 => ?_) (fun c7 => ?_)
          · skip
            replace h := bt c7 h
            refine wl_g rfl rfl (ow_y (yh_move rfl rfl) rfl rfl (kk_wl ?_))
            refine wl_g rfl rfl (ow_y (yh_move rfl rfl) rfl rfl (kk_wl ?_))
            refine wl_g rfl rfl (ow_y (yh_cmpS rfl rfl rfl rfl) rfl rfl (kk_wl ?_))
            refine wl_u rfl (ow_y (yh_pickT rfl rfl rfl) rfl rfl (kk_wl ?_))
            refine wl_u rfl (ow_y (yh_assign rfl rfl) rfl rfl (kk_wl ?_))
            refine wl_nil ?_
            refine ex_seq ?_
            refine cw_ret ?_
            refine ex_then_ret ?_
            obtain rfl := Option.some.inj h
            exact ex_r1 Tb rfl (.tmp rfl) (fun wq hq => ⟨_, rfl, (hB2.back hq).ext, rfl⟩)
          · skip
            replace h := bf c7 h
            refine wl_n rfl rfl rfl rfl ?_
            refine wl_n rfl rfl rfl rfl ?_
            refine wl_n rfl rfl rfl rfl ?_
            refine wl_u rfl (ow_y (yh_pickF rfl rfl rfl) rfl rfl (kk_wl ?_))
            refine wl_u rfl (ow_y (yh_assign rfl rfl) rfl rfl (kk_wl ?_))
            refine wl_nil ?_
            refine ex_seq ?_
            refine cw_ret ?_
            refine ex_then_ret ?_
            obtain rfl := Option.some.inj h
            exact ex_r1 Tb rfl (.tmp rfl) (fun wq hq => ⟨_, rfl, (hB2.back hq).ext, rfl⟩)
        · skip
          replace h := bf c6 h
          refine cw_skip ?_
          refine ex_seq ?_
          refine cw_seq ?_
          refine cw_region ?_
          refine wl_u rfl (ow_y (yh_move rfl rfl) rfl rfl (kk_wl ?_))
          refine wl_u rfl (ow_y (yh_move rfl rfl) rfl rfl (kk_wl ?_))
          obtain ⟨x56, hx56, h⟩ := bd h
          refine wl_u rfl (ow_cV rfl hb56 rfl (fun w hw => c_laws_placeOf N _ _ _ hx56 w (Lay.at_ hz2 hw)) rfl rfl (kk_wl ?_))
          refine wl_u rfl (ow_y (yh_assign rfl rfl) rfl rfl (kk_wl ?_))
          refine wl_nil ?_
          refine ex_seq ?_
          refine cw_seq ?_
          refine cw_seq ?_
          refine cw_region ?_
          refine wl_u rfl (ow_y (yh_assign rfl rfl) rfl rfl (kk_wl ?_))
          refine wl_nil ?_
          refine ex_seq ?_
          refine cw_block ?_
          obtain ⟨e18, he18, hk18⟩ := bd h
          clear h
          refine cw_loopG (σ := Nat × Nat) (fun s => m_laws_FnFitBad_L18 N x19 x25 s.1 s.2 = some e18) (fun s => [(3, .pointer (some ⟨g3, 0, none⟩)), (4, .slice a19_2 x19.2.length c19_2), (5, .string x25.1), (9, .int .i64 x56), (10, .int .i64 ((s.2 : Nat) : Int))]) (fun s => [blkC g3 26 [.int .i64 x19.1.ver, .slice a19 x19.1.steps.length c19]]) (fun s => s.1) (N, 0) [0] he18 ⟨rfl, rfl, rfl, rfl, rfl, trivial⟩ rfl (fun KL s he18 hn18 => ?_)
          obtain ⟨n18, s10⟩ := s
          simp only at he18 hn18 ⊢
          rcases n18 with _ | n18
          · exact nosome he18
          have h := he18; rw [m_laws_FnFitBad_L18] at h
          refine cw_seq ?_
          refine cw_seq ?_
          refine cw_region ?_
          refine wl_u rfl (ow_y (yh_move rfl rfl) rfl rfl (kk_wl ?_))
          refine wl_u rfl (ow_y (yh_move rfl rfl) rfl rfl (kk_wl ?_))
          refine wl_u rfl (ow_y (yh_lenS Tb rfl rfl rfl rfl) rfl rfl (kk_wl ?_))
          refine wl_u rfl (ow_y (yh_cmpI rfl rfl rfl rfl) rfl rfl (kk_wl ?_))
          refine wl_nil ?_
          refine ex_seq ?_
          refine cw_split rfl (fun c8 => ?_) (fun c8 => ?_)
          · skip
            replace h := bt c8 h
            have q3 := ltb_true.1 c8
            refine cw_skip ?_
            refine ex_seq ?_
            refine cw_seq ?_
            refine cw_block ?_
            refine cw_seq ?_
            refine cw_dr [0, 1, 2, 3, 4, 6, 7, 8, 11] [] [blkC g3 26 [.int .i64 x19.1.ver, .slice a19 x19.1.steps.length c19]] (by kernel_rfl) ?_
            refine wd_take (i := 0) [0] rfl rfl rfl rfl rfl (by kernel_rfl) rfl (fun _ _ _ _ h => h) (yh_loadBA Tb (k := 0) rfl rfl rfl rfl rfl rfl) ?_
            refine wd_take (i := 1) [0] rfl rfl rfl rfl rfl (by kernel_rfl) rfl (fun _ _ _ _ h => h) (yh_move rfl rfl) ?_
            refine wd_take (i := 2) [0] rfl rfl rfl rfl rfl (by kernel_rfl) rfl (fun _ _ _ _ h => h) (yh_move rfl rfl) ?_
            obtain ⟨y67, hy67, h⟩ := bd h
            obtain ⟨b67, o67, ha67⟩ := sl_addr hz2 hy67
            subst ha67
            have hc67 := get_str hz2 hy67
            refine wd_take (i := 3) [0] rfl rfl rfl rfl rfl (by kernel_rfl) rfl (fun _ _ _ _ h => h) (yh_idx Tb (k := s10) rfl rfl rfl rfl (get_lt hy67) rfl rfl) ?_
            refine wd_take (i := 4) [0] rfl rfl rfl rfl rfl (by kernel_rfl) rfl (fun _ _ _ _ h => h) (yh_loadA0 Tb rfl rfl rfl hc67 rfl) ?_
            refine wd_all [5, 9] (by kernel_rfl) (by simp) (fun i hi => ?_)
            simp only [List.mem_cons, List.not_mem_nil, or_false] at hi
            rcases hi with rfl | rfl
            · refine ⟨_, rfl, rfl, ?_⟩
              obtain ⟨x69, hx69, h⟩ := bd h
              refine (ow_cN1 rfl hb57 rfl (fun w hw => c_impl_FlowFind N _ _ _ hx69 w (Lay.at_ hz1 hw)) rfl rfl (fun a69 c69 F69 => kk_wd [1] rfl ?_))
              refine wd_take (i := 6) [1] rfl rfl rfl rfl rfl (by kernel_rfl) rfl (fun _ _ _ _ h => h) (yh_move rfl rfl) ?_
              refine wd_take (i := 7) [1] rfl rfl rfl rfl rfl (by kernel_rfl) rfl (fun _ _ _ _ h => h) (yh_extract rfl rfl rfl) ?_
              refine wd_take (i := 8) [1] rfl rfl rfl rfl rfl (by kernel_rfl) rfl (fun _ _ _ _ h => h) (yh_extract rfl rfl rfl) ?_
              refine wd_one 9 rfl rfl (by kernel_rfl) (ow_allocA Tb rfl rfl rfl rfl (fun g11 => kk_wd [2] rfl ?_))
              refine wd_one 10 rfl rfl (by kernel_rfl) (ow_storeA Tb (k := 0) rfl rfl rfl rfl rfl rfl rfl rfl rfl (kk_wd [2] rfl ?_))
              refine wd_take (i := 11) [2] rfl rfl rfl rfl rfl (by kernel_rfl) rfl (fun _ _ _ _ h => h) (yh_assign rfl rfl) ?_
              refine wd_done (by kernel_rfl) ?_
              refine ex_seq ?_
              refine cw_seq ?_
              refine cw_freeze 1 rfl (fun w3 M3 hb3_ hz3 => ?_)
              replace h_u0 := Lay.rb h_u0 hb3_
              replace hz1 := Lay.rb hz1 hb3_
              replace hz2 := Lay.rb hz2 hb3_
              replace hc67 := CellN.rb hc67 (by simp) hb3_
              have hB3 := hB2.trans hb3_
              have mz3 := rd_max hz3
              refine cw_dr [0, 1, 2, 3, 4, 5, 6, 8, 9, 10, 11, 12, 13, 14, 15, 16, 18, 19] [] [blkC g11 79 [.string x69.1.name, .slice a69 x69.1.after.length c69, .bool x69.1.undo], blkC g3 26 [.int .i64 x19.1.ver, .slice a19 x19.1.steps.length c19]] (by kernel_rfl) ?_
              refine wd_take (i := 0) [0, 1] rfl rfl rfl rfl rfl (by kernel_rfl) rfl (fun _ _ _ _ h => h) (yh_move rfl rfl) ?_
              refine wd_take (i := 1) [0, 1] rfl rfl rfl rfl rfl (by kernel_rfl) rfl (fun _ _ _ _ h => h) (yh_move rfl rfl) ?_
              refine wd_split 2 rfl rfl rfl (fun c9 => ?_) (fun c9 => ?_)
              · skip
                replace h := bt c9 h
                refine wd_take (i := 2) [0, 1] rfl rfl rfl rfl rfl (by kernel_rfl) rfl (fun _ _ _ _ h => h) (yh_move rfl rfl) ?_
                refine wd_take (i := 3) [0, 1] rfl rfl rfl rfl rfl (by kernel_rfl) rfl (fun _ _ _ _ h => h) (yh_move rfl rfl) ?_
                refine wd_take (i := 4) [0, 1] rfl rfl rfl rfl rfl (by kernel_rfl) rfl (fun _ _ _ _ h => h) (yh_move rfl rfl) ?_
                refine wd_take (i := 5) [0, 1] rfl rfl rfl rfl rfl (by kernel_rfl) rfl (fun _ _ _ _ h => h) (yh_idx Tb (k := s10) rfl rfl rfl rfl (get_lt hy67) rfl rfl) ?_
                refine wd_take (i := 6) [0, 1] rfl rfl rfl rfl rfl (by kernel_rfl) rfl (fun _ _ _ _ h => h) (yh_loadA0 Tb rfl rfl rfl hc67 rfl) ?_
                refine wd_take (i := 8) [0, 1] rfl rfl rfl rfl rfl (by kernel_rfl) rfl (fun _ _ _ _ h => h) (yh_move rfl rfl) ?_
                obtain ⟨x79, hx79, h⟩ := bd h
                refine wd_one 7 rfl rfl (by kernel_rfl) (ow_cV rfl hb56 rfl (fun w hw => c_laws_placeOf N _ _ _ hx79 w (Lay.at_ hz2 hw)) rfl rfl (kk_wd [0, 1] rfl ?_))
                refine wd_take (i := 9) [0, 1] rfl rfl rfl rfl rfl (by kernel_rfl) rfl (fun _ _ _ _ h => h) (yh_cmpI rfl rfl rfl rfl) ?_
                refine wd_take (i := 10) [0, 1] rfl rfl rfl rfl rfl (by kernel_rfl) rfl (fun _ _ _ _ h => h) (yh_pickT rfl rfl rfl) ?_
                refine wd_take (i := 11) [0, 1] rfl rfl rfl rfl rfl (by kernel_rfl) rfl (fun _ _ _ _ h => h) (yh_move rfl rfl) ?_
                refine wd_split 12 rfl rfl rfl (fun c10 => ?_) (fun c10 => ?_)
                · skip
                  replace h := bt c10 h
                  have q4 := eqb_true.1 c10
                  refine wd_take (i := 12) [0, 1] rfl rfl rfl rfl rfl (by kernel_rfl) rfl (fun _ _ _ _ h => h) (yh_move rfl rfl) ?_
                  refine wd_take (i := 13) [0, 1] rfl rfl rfl rfl rfl (by kernel_rfl) rfl (fun _ _ _ _ h => h) (yh_move rfl rfl) ?_
                  obtain ⟨l86, zl86, h⟩ := bd h
                  obtain ⟨il86, jl86⟩ := slTo_K zl86
                  have hf86 := sl_takeK hz2 zl86
                  have mx86 := rd_max hf86
                  refine wd_take (i := 14) [0, 1] rfl rfl rfl rfl rfl (by kernel_rfl) rfl (fun _ _ _ _ h => h) (yh_sliceH Tb (k := l86.length) rfl rfl rfl il86 (Nat.le_trans jl86 (rd_cap hz2)) rfl rfl) ?_
                  refine wd_take (i := 15) [0, 1] rfl rfl rfl rfl rfl (by kernel_rfl) rfl (fun _ _ _ _ h => h) (yh_field Tb rfl rfl rfl) ?_
                  refine wd_take (i := 16) [0, 1] rfl rfl rfl rfl rfl (by kernel_rfl) rfl (fun _ _ _ _ h => h) (yh_loadB Tb (k := 0) rfl rfl rfl rfl rfl) ?_
                  obtain ⟨x89, hx89, h⟩ := bd h
                  refine wd_one 17 rfl rfl (by kernel_rfl) (ow_cV rfl hb58 rfl (fun w hw => c_impl_NamesHave N _ _ _ hx89 w (Lay.at_ hf86 hw) (Lay.at_ hz3 hw)) rfl rfl (kk_wd [0, 1] rfl ?_))
                  refine wd_take (i := 18) [0, 1] rfl rfl rfl rfl rfl (by kernel_rfl) rfl (fun _ _ _ _ h => h) (yh_pickT rfl rfl rfl) ?_
                  refine wd_take (i := 19) [0, 1] rfl rfl rfl rfl rfl (by kernel_rfl) rfl (fun _ _ _ _ h => h) (yh_assign rfl rfl) ?_
                  refine wd_done (by kernel_rfl) ?_
                  refine ex_seq ?_
                  refine cw_seq ?_
                  refine cw_region ?_
                  refine wl_u rfl (ow_y (yh_move rfl rfl) rfl rfl (kk_wl ?_))
                  refine wl_u rfl (ow_y (yh_not rfl rfl) rfl rfl (kk_wl ?_))
                  refine wl_nil ?_
                  refine ex_seq ?_
                  refine cw_split rfl (fun c11 => ?_) (fun c11 => ?_)
                  · skip
                    replace h := bt c11 h
                    refine cw_seq ?_
                    refine cw_region ?_
                    refine wl_u rfl (ow_y (yh_move rfl rfl) rfl rfl (kk_wl ?_))
                    refine wl_u rfl (ow_y (yh_move rfl rfl) rfl rfl (kk_wl ?_))
                    refine wl_u rfl (ow_y (yh_idx Tb (k := s10) rfl rfl rfl rfl (get_lt hy67) rfl rfl) rfl rfl (kk_wl ?_))
                    refine wl_u rfl (ow_y (yh_loadA0 Tb rfl rfl rfl hc67 rfl) rfl rfl (kk_wl ?_))
                    refine wl_u rfl (ow_y (yh_move rfl rfl) rfl rfl (kk_wl ?_))
                    refine wl_u rfl (ow_y (yh_cmpS rfl rfl rfl rfl) rfl rfl (kk_wl ?_))
                    refine wl_u rfl (ow_y (yh_assign rfl rfl) rfl rfl (kk_wl ?_))
                    refine wl_nil ?_
                    refine ex_seq ?_
                    refine cw_ret ?_
                    refine ex_block_ret ?_
                    refine ex_then_ret ?_
                    refine ex_then_ret ?_
                    refine ex_block_ret ?_
                    refine ex_then_ret ?_
                    obtain rfl := Option.some.inj h
                    obtain rfl := go_ret hk18
                    exact ex_r1 Tb rfl (.tmp rfl) (fun wq hq => ⟨_, rfl, (hB3.back hq).ext, rfl⟩)
                  · skip
                    replace h := bf c11 h
                    refine cw_skip ?_
                    refine ex_block_normal ?_
                    refine ex_seq ?_
                    refine cw_region ?_
                    refine wl_u rfl (ow_y (yh_move rfl rfl) rfl rfl (kk_wl ?_))
                    refine wl_u rfl (ow_y (yh_arI rfl rfl rfl rfl (by omega)) rfl rfl (kk_wl ?_))
                    refine wl_u rfl (ow_y (yh_assign rfl rfl) rfl rfl (kk_wl ?_))
                    refine wl_nil ?_
                    exact ex_nextB hb3_ [1] (hn18 (n18, s10 + 1) (Nat.lt_succ_self _) h) ⟨rfl, rfl, rfl, rfl, rfl, trivial⟩ rfl
                · skip
                  replace h := bf c10 h
                  have q5 := eqb_false.1 c10
                  refine wd_skip (i := 12) [0, 1] rfl rfl rfl rfl (by kernel_rfl) rfl (fun _ _ _ h => h) ?_
                  refine wd_skip (i := 13) [0, 1] rfl rfl rfl rfl (by kernel_rfl) rfl (fun _ _ _ h => h) ?_
                  refine wd_skip (i := 14) [0, 1] rfl rfl rfl rfl (by kernel_rfl) rfl (fun _ _ _ h => h) ?_
                  refine wd_skip (i := 15) [0, 1] rfl rfl rfl rfl (by kernel_rfl) rfl (fun _ _ _ h => h) ?_
                  refine wd_skip (i := 16) [0, 1] rfl rfl rfl rfl (by kernel_rfl) rfl (fun _ _ _ h => h) ?_
                  refine wd_offD 17 rfl rfl rfl rfl (by kernel_rfl) [0, 1] (fun _ => rfl) ?_
                  refine wd_take (i := 18) [0, 1] rfl rfl rfl rfl rfl (by kernel_rfl) rfl (fun _ _ _ _ h => h) (yh_pickF rfl rfl rfl) ?_
                  refine wd_take (i := 19) [0, 1] rfl rfl rfl rfl rfl (by kernel_rfl) rfl (fun _ _ _ _ h => h) (yh_assign rfl rfl) ?_
                  refine wd_done (by kernel_rfl) ?_
                  refine ex_seq ?_
                  refine cw_seq ?_
                  refine cw_region ?_
                  refine wl_u rfl (ow_y (yh_move rfl rfl) rfl rfl (kk_wl ?_))
                  refine wl_u rfl (ow_y (yh_not rfl rfl) rfl rfl (kk_wl ?_))
                  refine wl_nil ?_
                  refine ex_seq ?_
                  refine cw_true rfl ?_
                  refine cw_seq ?_
                  refine cw_region ?_
                  refine wl_u rfl (ow_y (yh_move rfl rfl) rfl rfl (kk_wl ?_))
                  refine wl_u rfl (ow_y (yh_move rfl rfl) rfl rfl (kk_wl ?_))
                  refine wl_u rfl (ow_y (yh_idx Tb (k := s10) rfl rfl rfl rfl (get_lt hy67) rfl rfl) rfl rfl (kk_wl ?_))
                  refine wl_u rfl (ow_y (yh_loadA0 Tb rfl rfl rfl hc67 rfl) rfl rfl (kk_wl ?_))
                  refine wl_u rfl (ow_y (yh_move rfl rfl) rfl rfl (kk_wl ?_))
                  refine wl_u rfl (ow_y (yh_cmpS rfl rfl rfl rfl) rfl rfl (kk_wl ?_))
                  refine wl_u rfl (ow_y (yh_assign rfl rfl) rfl rfl (kk_wl ?_))
                  refine wl_nil ?_
                  refine ex_seq ?_
                  refine cw_ret ?_
                  refine ex_block_ret ?_
                  refine ex_then_ret ?_
                  refine ex_then_ret ?_
                  refine ex_block_ret ?_
                  refine ex_then_ret ?_
                  obtain rfl := Option.some.inj h
                  obtain rfl := go_ret hk18
                  exact ex_r1 Tb rfl (.tmp rfl) (fun wq hq => ⟨_, rfl, (hB3.back hq).ext, rfl⟩)
              · skip
                replace h := bf c9 h
                refine wd_skip (i := 2) [0, 1] rfl rfl rfl rfl (by kernel_rfl) rfl (fun _ _ _ h => h) ?_
                refine wd_skip (i := 3) [0, 1] rfl rfl rfl rfl (by kernel_rfl) rfl (fun _ _ _ h => h) ?_
                refine wd_skip (i := 4) [0, 1] rfl rfl rfl rfl (by kernel_rfl) rfl (fun _ _ _ h => h) ?_
                refine wd_skip (i := 5) [0, 1] rfl rfl rfl rfl (by kernel_rfl) rfl (fun _ _ _ h => h) ?_
                refine wd_skip (i := 6) [0, 1] rfl rfl rfl rfl (by kernel_rfl) rfl (fun _ _ _ h => h) ?_
                refine wd_skip (i := 8) [0, 1] rfl rfl rfl rfl (by kernel_rfl) rfl (fun _ _ _ h => h) ?_
                refine wd_offD 7 rfl rfl rfl rfl (by kernel_rfl) [0, 1] (fun _ => rfl) ?_
                refine wd_skip (i := 9) [0, 1] rfl rfl rfl rfl (by kernel_rfl) rfl (fun _ _ _ h => h) ?_
                refine wd_take (i := 10) [0, 1] rfl rfl rfl rfl rfl (by kernel_rfl) rfl (fun _ _ _ _ h => h) (yh_pickF rfl rfl rfl) ?_
                refine wd_take (i := 11) [0, 1] rfl rfl rfl rfl rfl (by kernel_rfl) rfl (fun _ _ _ _ h => h) (yh_move rfl rfl) ?_
                refine wd_split 12 rfl rfl rfl nofun (fun _ => ?_)
                refine wd_skip (i := 12) [0, 1] rfl rfl rfl rfl (by kernel_rfl) rfl (fun _ _ _ h => h) ?_
                refine wd_skip (i := 13) [0, 1] rfl rfl rfl rfl (by kernel_rfl) rfl (fun _ _ _ h => h) ?_
                refine wd_skip (i := 14) [0, 1] rfl rfl rfl rfl (by kernel_rfl) rfl (fun _ _ _ h => h) ?_
                refine wd_skip (i := 15) [0, 1] rfl rfl rfl rfl (by kernel_rfl) rfl (fun _ _ _ h => h) ?_
                refine wd_skip (i := 16) [0, 1] rfl rfl rfl rfl (by kernel_rfl) rfl (fun _ _ _ h => h) ?_
                refine wd_offD 17 rfl rfl rfl rfl (by kernel_rfl) [0, 1] (fun _ => rfl) ?_
                refine wd_take (i := 18) [0, 1] rfl rfl rfl rfl rfl (by kernel_rfl) rfl (fun _ _ _ _ h => h) (yh_pickF rfl rfl rfl) ?_
                refine wd_take (i := 19) [0, 1] rfl rfl rfl rfl rfl (by kernel_rfl) rfl (fun _ _ _ _ h => h) (yh_assign rfl rfl) ?_
                refine wd_done (by kernel_rfl) ?_
                refine ex_seq ?_
                refine cw_seq ?_
                refine cw_region ?_
                refine wl_u rfl (ow_y (yh_move rfl rfl) rfl rfl (kk_wl ?_))
                refine wl_u rfl (ow_y (yh_not rfl rfl) rfl rfl (kk_wl ?_))
                refine wl_nil ?_
                refine ex_seq ?_
                refine cw_true rfl ?_
                refine cw_seq ?_
                refine cw_region ?_
                refine wl_u rfl (ow_y (yh_move rfl rfl) rfl rfl (kk_wl ?_))
                refine wl_u rfl (ow_y (yh_move rfl rfl) rfl rfl (kk_wl ?_))
                refine wl_u rfl (ow_y (yh_idx Tb (k := s10) rfl rfl rfl rfl (get_lt hy67) rfl rfl) rfl rfl (kk_wl ?_))
                refine wl_u rfl (ow_y (yh_loadA0 Tb rfl rfl rfl hc67 rfl) rfl rfl (kk_wl ?_))
                refine wl_u rfl (ow_y (yh_move rfl rfl) rfl rfl (kk_wl ?_))
                refine wl_u rfl (ow_y (yh_cmpS rfl rfl rfl rfl) rfl rfl (kk_wl ?_))
                refine wl_u rfl (ow_y (yh_assign rfl rfl) rfl rfl (kk_wl ?_))
                refine wl_nil ?_
                refine ex_seq ?_
                refine cw_ret ?_
                refine ex_block_ret ?_
                refine ex_then_ret ?_
                refine ex_then_ret ?_
                refine ex_block_ret ?_
                refine ex_then_ret ?_
                obtain rfl := Option.some.inj h
                obtain rfl := go_ret hk18
                exact ex_r1 Tb rfl (.tmp rfl) (fun wq hq => ⟨_, rfl, (hB3.back hq).ext, rfl⟩)
            · refine ⟨_, rfl, rfl, ?_⟩
              refine (ow_allocA Tb rfl rfl rfl rfl (fun g11 => kk_wd [1] rfl ?_))
              obtain ⟨x69, hx69, h⟩ := bd h
              refine wd_one 5 rfl rfl (by kernel_rfl) (ow_cN1 rfl hb57 rfl (fun w hw => c_impl_FlowFind N _ _ _ hx69 w (Lay.at_ hz1 hw)) rfl rfl (fun a69 c69 F69 => kk_wd [2] rfl ?_))
              refine wd_take (i := 6) [2] rfl rfl rfl rfl rfl (by kernel_rfl) rfl (fun _ _ _ _ h => h) (yh_move rfl rfl) ?_
              refine wd_take (i := 7) [2] rfl rfl rfl rfl rfl (by kernel_rfl) rfl (fun _ _ _ _ h => h) (yh_extract rfl rfl rfl) ?_
              refine wd_take (i := 8) [2] rfl rfl rfl rfl rfl (by kernel_rfl) rfl (fun _ _ _ _ h => h) (yh_extract rfl rfl rfl) ?_
              refine wd_one 10 rfl rfl (by kernel_rfl) (ow_storeA Tb (k := 1) rfl rfl rfl rfl rfl rfl rfl rfl rfl (kk_wd [2] rfl ?_))
              refine wd_take (i := 11) [2] rfl rfl rfl rfl rfl (by kernel_rfl) rfl (fun _ _ _ _ h => h) (yh_assign rfl rfl) ?_
              refine wd_done (by kernel_rfl) ?_
              refine ex_seq ?_
              refine cw_seq ?_
              refine cw_freeze 1 rfl (fun w4 M4 hb4_ hz4 => ?_)
              replace h_u0 := Lay.rb h_u0 hb4_
              replace hz1 := Lay.rb hz1 hb4_
              replace hz2 := Lay.rb hz2 hb4_
              replace hc67 := CellN.rb hc67 (by simp) hb4_
              have hB4 := hB2.trans hb4_
              have mz4 := rd_max hz4
              refine cw_dr [0, 1, 2, 3, 4, 5, 6, 8, 9, 10, 11, 12, 13, 14, 15, 16, 18, 19] [] [blkC g11 79 [.string x69.1.name, .slice a69 x69.1.after.length c69, .bool x69.1.undo], blkC g3 26 [.int .i64 x19.1.ver, .slice a19 x19.1.steps.length c19]] (by kernel_rfl) ?_
              refine wd_take (i := 0) [0, 1] rfl rfl rfl rfl rfl (by kernel_rfl) rfl (fun _ _ _ _ h => h) (yh_move rfl rfl) ?_
              refine wd_take (i := 1) [0, 1] rfl rfl rfl rfl rfl (by kernel_rfl) rfl (fun _ _ _ _ h => h) (yh_move rfl rfl) ?_
              refine wd_split 2 rfl rfl rfl (fun c12 => ?_) (fun c12 => ?_)
              · skip
                replace h := bt c12 h
                refine wd_take (i := 2) [0, 1] rfl rfl rfl rfl rfl (by kernel_rfl) rfl (fun _ _ _ _ h => h) (yh_move rfl rfl) ?_
                refine wd_take (i := 3) [0, 1] rfl rfl rfl rfl rfl (by kernel_rfl) rfl (fun _ _ _ _ h => h) (yh_move rfl rfl) ?_
                refine wd_take (i := 4) [0, 1] rfl rfl rfl rfl rfl (by kernel_rfl) rfl (fun _ _ _ _ h => h) (yh_move rfl rfl) ?_
                refine wd_take (i := 5) [0, 1] rfl rfl rfl rfl rfl (by kernel_rfl) rfl (fun _ _ _ _ h => h) (yh_idx Tb (k := s10) rfl rfl rfl rfl (get_lt hy67) rfl rfl) ?_
                refine wd_take (i := 6) [0, 1] rfl rfl rfl rfl rfl (by kernel_rfl) rfl (fun _ _ _ _ h => h) (yh_loadA0 Tb rfl rfl rfl hc67 rfl) ?_
                refine wd_take (i := 8) [0, 1] rfl rfl rfl rfl rfl (by kernel_rfl) rfl (fun _ _ _ _ h => h) (yh_move rfl rfl) ?_
                obtain ⟨x79, hx79, h⟩ := bd h
                refine wd_one 7 rfl rfl (by kernel_rfl) (ow_cV rfl hb56 rfl (fun w hw => c_laws_placeOf N _ _ _ hx79 w (Lay.at_ hz2 hw)) rfl rfl (kk_wd [0, 1] rfl ?_))
                refine wd_take (i := 9) [0, 1] rfl rfl rfl rfl rfl (by kernel_rfl) rfl (fun _ _ _ _ h => h) (yh_cmpI rfl rfl rfl rfl) ?_
                refine wd_take (i := 10) [0, 1] rfl rfl rfl rfl rfl (by kernel_rfl) rfl (fun _ _ _ _ h => h) (yh_pickT rfl rfl rfl) ?_
                refine wd_take (i := 11) [0, 1] rfl rfl rfl rfl rfl (by kernel_rfl) rfl (fun _ _ _ _ h => h) (yh_move rfl rfl) ?_
                refine wd_split 12 rfl rfl rfl (fun c13 => ?_) (fun c13 => ?_)
                · skip
                  replace h := bt c13 h
                  have q6 := eqb_true.1 c13
                  refine wd_take (i := 12) [0, 1] rfl rfl rfl rfl rfl (by kernel_rfl) rfl (fun _ _ _ _ h => h) (yh_move rfl rfl) ?_
                  refine wd_take (i := 13) [0, 1] rfl rfl rfl rfl rfl (by kernel_rfl) rfl (fun _ _ _ _ h => h) (yh_move rfl rfl) ?_
                  obtain ⟨l86, zl86, h⟩ := bd h
                  obtain ⟨il86, jl86⟩ := slTo_K zl86
                  have hf86 := sl_takeK hz2 zl86
                  have mx86 := rd_max hf86
                  refine wd_take (i := 14) [0, 1] rfl rfl rfl rfl rfl (by kernel_rfl) rfl (fun _ _ _ _ h => h) (yh_sliceH Tb (k := l86.length) rfl rfl rfl il86 (Nat.le_trans jl86 (rd_cap hz2)) rfl rfl) ?_
                  refine wd_take (i := 15) [0, 1] rfl rfl rfl rfl rfl (by kernel_rfl) rfl (fun _ _ _ _ h => h) (yh_field Tb rfl rfl rfl) ?_
                  refine wd_take (i := 16) [0, 1] rfl rfl rfl rfl rfl (by kernel_rfl) rfl (fun _ _ _ _ h => h) (yh_loadB Tb (k := 0) rfl rfl rfl rfl rfl) ?_
                  obtain ⟨x89, hx89, h⟩ := bd h
                  refine wd_one 17 rfl rfl (by kernel_rfl) (ow_cV rfl hb58 rfl (fun w hw => c_impl_NamesHave N _ _ _ hx89 w (Lay.at_ hf86 hw) (Lay.at_ hz4 hw)) rfl rfl (kk_wd [0, 1] rfl ?_))
                  refine wd_take (i := 18) [0, 1] rfl rfl rfl rfl rfl (by kernel_rfl) rfl (fun _ _ _ _ h => h) (yh_pickT rfl rfl rfl) ?_
                  refine wd_take (i := 19) [0, 1] rfl rfl rfl rfl rfl (by kernel_rfl) rfl (fun _ _ _ _ h => h) (yh_assign rfl rfl) ?_
                  refine wd_done (by kernel_rfl) ?_
                  refine ex_seq ?_
                  refine cw_seq ?_
                  refine cw_region ?_
                  refine wl_u rfl (ow_y (yh_move rfl rfl) rfl rfl (kk_wl ?_))
                  refine wl_u rfl (ow_y (yh_not rfl rfl) rfl rfl (kk_wl ?_))
                  refine wl_nil ?_
                  refine ex_seq ?_
                  refine cw_split rfl (fun c14 => ?_) (fun c14 => ?_)
                  · skip
                    replace h := bt c14 h
                    refine cw_seq ?_
                    refine cw_region ?_
                    refine wl_u rfl (ow_y (yh_move rfl rfl) rfl rfl (kk_wl ?_))
                    refine wl_u rfl (ow_y (yh_move rfl rfl) rfl rfl (kk_wl ?_))
                    refine wl_u rfl (ow_y (yh_idx Tb (k := s10) rfl rfl rfl rfl (get_lt hy67) rfl rfl) rfl rfl (kk_wl ?_))
                    refine wl_u rfl (ow_y (yh_loadA0 Tb rfl rfl rfl hc67 rfl) rfl rfl (kk_wl ?_))
                    refine wl_u rfl (ow_y (yh_move rfl rfl) rfl rfl (kk_wl ?_))
                    refine wl_u rfl (ow_y (yh_cmpS rfl rfl rfl rfl) rfl rfl (kk_wl ?_))
                    refine wl_u rfl (ow_y (yh_assign rfl rfl) rfl rfl (kk_wl ?_))
                    refine wl_nil ?_
                    refine ex_seq ?_
                    refine cw_ret ?_
                    refine ex_block_ret ?_
                    refine ex_then_ret ?_
                    refine ex_then_ret ?_
                    refine ex_block_ret ?_
                    refine ex_then_ret ?_
                    obtain rfl := Option.some.inj h
                    obtain rfl := go_ret hk18
                    exact ex_r1 Tb rfl (.tmp rfl) (fun wq hq => ⟨_, rfl, (hB4.back hq).ext, rfl⟩)
                  · skip
                    replace h := bf c14 h
                    refine cw_skip ?_
                    refine ex_block_normal ?_
                    refine ex_seq ?_
                    refine cw_region ?_
                    refine wl_u rfl (ow_y (yh_move rfl rfl) rfl rfl (kk_wl ?_))
                    refine wl_u rfl (ow_y (yh_arI rfl rfl rfl rfl (by omega)) rfl rfl (kk_wl ?_))
                    refine wl_u rfl (ow_y (yh_assign rfl rfl) rfl rfl (kk_wl ?_))
                    refine wl_nil ?_
                    exact ex_nextB hb4_ [1] (hn18 (n18, s10 + 1) (Nat.lt_succ_self _) h) ⟨rfl, rfl, rfl, rfl, rfl, trivial⟩ rfl
                · skip
                  replace h := bf c13 h
                  have q7 := eqb_false.1 c13
                  refine wd_skip (i := 12) [0, 1] rfl rfl rfl rfl (by kernel_rfl) rfl (fun _ _ _ h => h) ?_
                  refine wd_skip (i := 13) [0, 1] rfl rfl rfl rfl (by kernel_rfl) rfl (fun _ _ _ h => h) ?_
                  refine wd_skip (i := 14) [0, 1] rfl rfl rfl rfl (by kernel_rfl) rfl (fun _ _ _ h => h) ?_
                  refine wd_skip (i := 15) [0, 1] rfl rfl rfl rfl (by kernel_rfl) rfl (fun _ _ _ h => h) ?_
                  refine wd_skip (i := 16) [0, 1] rfl rfl rfl rfl (by kernel_rfl) rfl (fun _ _ _ h => h) ?_
                  refine wd_offD 17 rfl rfl rfl rfl (by kernel_rfl) [0, 1] (fun _ => rfl) ?_
                  refine wd_take (i := 18) [0, 1] rfl rfl rfl rfl rfl (by kernel_rfl) rfl (fun _ _ _ _ h => h) (yh_pickF rfl rfl rfl) ?_
                  refine wd_take (i := 19) [0, 1] rfl rfl rfl rfl rfl (by kernel_rfl) rfl (fun _ _ _ _ h => h) (yh_assign rfl rfl) ?_
                  refine wd_done (by kernel_rfl) ?_
                  refine ex_seq ?_
                  refine cw_seq ?_
                  refine cw_region ?_
                  refine wl_u rfl (ow_y (yh_move rfl rfl) rfl rfl (kk_wl ?_))
                  refine wl_u rfl (ow_y (yh_not rfl rfl) rfl rfl (kk_wl ?_))
                  refine wl_nil ?_
                  refine ex_seq ?_
                  refine cw_true rfl ?_
                  refine cw_seq ?_
                  refine cw_region ?_
                  refine wl_u rfl (ow_y (yh_move rfl rfl) rfl rfl (kk_wl ?_))
                  refine wl_u rfl (ow_y (yh_move rfl rfl) rfl rfl (kk_wl ?_))
                  refine wl_u rfl (ow_y (yh_idx Tb (k := s10) rfl rfl rfl rfl (get_lt hy67) rfl rfl) rfl rfl (kk_wl ?_))
                  refine wl_u rfl (ow_y (yh_loadA0 Tb rfl rfl rfl hc67 rfl) rfl rfl (kk_wl ?_))
                  refine wl_u rfl (ow_y (yh_move rfl rfl) rfl rfl (kk_wl ?_))
                  refine wl_u rfl (ow_y (yh_cmpS rfl rfl rfl rfl) rfl rfl (kk_wl ?_))
                  refine wl_u rfl (ow_y (yh_assign rfl rfl) rfl rfl (kk_wl ?_))
                  refine wl_nil ?_
                  refine ex_seq ?_
                  refine cw_ret ?_
                  refine ex_block_ret ?_
                  refine ex_then_ret ?_
                  refine ex_then_ret ?_
                  refine ex_block_ret ?_
                  refine ex_then_ret ?_
                  obtain rfl := Option.some.inj h
                  obtain rfl := go_ret hk18
                  exact ex_r1 Tb rfl (.tmp rfl) (fun wq hq => ⟨_, rfl, (hB4.back hq).ext, rfl⟩)
              · skip
                replace h := bf c12 h
                refine wd_skip (i := 2) [0, 1] rfl rfl rfl rfl (by kernel_rfl) rfl (fun _ _ _ h => h) ?_
                refine wd_skip (i := 3) [0, 1] rfl rfl rfl rfl (by kernel_rfl) rfl (fun _ _ _ h => h) ?_
                refine wd_skip (i := 4) [0, 1] rfl rfl rfl rfl (by kernel_rfl) rfl (fun _ _ _ h => h) ?_
                refine wd_skip (i := 5) [0, 1] rfl rfl rfl rfl (by kernel_rfl) rfl (fun _ _ _ h => h) ?_
                refine wd_skip (i := 6) [0, 1] rfl rfl rfl rfl (by kernel_rfl) rfl (fun _ _ _ h => h) ?_
                refine wd_skip (i := 8) [0, 1] rfl rfl rfl rfl (by kernel_rfl) rfl (fun _ _ _ h => h) ?_
                refine wd_offD 7 rfl rfl rfl rfl (by kernel_rfl) [0, 1] (fun _ => rfl) ?_
                refine wd_skip (i := 9) [0, 1] rfl rfl rfl rfl (by kernel_rfl) rfl (fun _ _ _ h => h) ?_
                refine wd_take (i := 10) [0, 1] rfl rfl rfl rfl rfl (by kernel_rfl) rfl (fun _ _ _ _ h => h) (yh_pickF rfl rfl rfl) ?_
                refine wd_take (i := 11) [0, 1] rfl rfl rfl rfl rfl (by kernel_rfl) rfl (fun _ _ _ _ h => h) (yh_move rfl rfl) ?_
                refine wd_split 12 rfl rfl rfl nofun (fun _ => ?_)
                refine wd_skip (i := 12) [0, 1] rfl rfl rfl rfl (by kernel_rfl) rfl (fun _ _ _ h => h) ?_
                refine wd_skip (i := 13) [0, 1] rfl rfl rfl rfl (by kernel_rfl) rfl (fun _ _ _ h => h) ?_
                refine wd_skip (i := 14) [0, 1] rfl rfl rfl rfl (by kernel_rfl) rfl (fun _ _ _ h => h) ?_
                refine wd_skip (i := 15) [0, 1] rfl rfl rfl rfl (by kernel_rfl) rfl (fun _ _ _ h => h) ?_
                refine wd_skip (i := 16) [0, 1] rfl rfl rfl rfl (by kernel_rfl) rfl (fun _ _ _ h => h) ?_
                refine wd_offD 17 rfl rfl rfl rfl (by kernel_rfl) [0, 1] (fun _ => rfl) ?_
                refine wd_take (i := 18) [0, 1] rfl rfl rfl rfl rfl (by kernel_rfl) rfl (fun _ _ _ _ h => h) (yh_pickF rfl rfl rfl) ?_
                refine wd_take (i := 19) [0, 1] rfl rfl rfl rfl rfl (by kernel_rfl) rfl (fun _ _ _ _ h => h) (yh_assign rfl rfl) ?_
                refine wd_done (by kernel_rfl) ?_
                refine ex_seq ?_
                refine cw_seq ?_
                refine cw_region ?_
                refine wl_u rfl (ow_y (yh_move rfl rfl) rfl rfl (kk_wl ?_))
                refine wl_u rfl (ow_y (yh_not rfl rfl) rfl rfl (kk_wl ?_))
                refine wl_nil ?_
                refine ex_seq ?_
                refine cw_true rfl ?_
                refine cw_seq ?_
                refine cw_region ?_
                refine wl_u rfl (ow_y (yh_move rfl rfl) rfl rfl (kk_wl ?_))
                refine wl_u rfl (ow_y (yh_move rfl rfl) rfl rfl (kk_wl ?_))
                refine wl_u rfl (ow_y (yh_idx Tb (k := s10) rfl rfl rfl rfl (get_lt hy67) rfl rfl) rfl rfl (kk_wl ?_))
                refine wl_u rfl (ow_y (yh_loadA0 Tb rfl rfl rfl hc67 rfl) rfl rfl (kk_wl ?_))
                refine wl_u rfl (ow_y (yh_move rfl rfl) rfl rfl (kk_wl ?_))
                refine wl_u rfl (ow_y (yh_cmpS rfl rfl rfl rfl) rfl rfl (kk_wl ?_))
                refine wl_u rfl (ow_y (yh_assign rfl rfl) rfl rfl (kk_wl ?_))
                refine wl_nil ?_
                refine ex_seq ?_
                refine cw_ret ?_
                refine ex_block_ret ?_
                refine ex_then_ret ?_
                refine ex_then_ret ?_
                refine ex_block_ret ?_
                refine ex_then_ret ?_
                obtain rfl := Option.some.inj h
                obtain rfl := go_ret hk18
                exact ex_r1 Tb rfl (.tmp rfl) (fun wq hq => ⟨_, rfl, (hB4.back hq).ext, rfl⟩)
          · skip
            replace h := bf c8 h
            have q8 := ltb_false.1 c8
            refine cw_exit ?_
            refine ex_then_exit ?_
            refine ex_then_exit ?_
            obtain rfl := Option.some.inj h
            have h := go_brk hk18
            refine ex_block_exit ?_
            refine ex_seq ?_
            refine cw_seq ?_
            refine cw_region ?_
            refine wl_u rfl (ow_y (yh_move rfl rfl) rfl rfl (kk_wl ?_))
            refine wl_u rfl (ow_y (yh_cmpI rfl rfl rfl rfl) rfl rfl (kk_wl ?_))
            refine wl_u rfl (ow_y (yh_assign rfl rfl) rfl rfl (kk_wl ?_))
            refine wl_nil ?_
            refine ex_seq ?_
            refine cw_ret ?_
            obtain rfl := Option.some.inj h
            exact ex_r1 Tb rfl (.tmp rfl) (fun wq hq => ⟨_, rfl, (hB2.back hq).ext, rfl⟩)

def m_impl_FlowOrder (N : Nat) (f : Flow) : Option (List Str) := (m_impl_FlowValid N f).bind fun x4 => (bif !x4 then some ([] : List Str)
 else (m_impl_Flow_order N f).bind fun x7 => some x7)

set_option maxHeartbeats 4000000 in
theorem c_impl_FlowOrder (N : Nat) (f : Flow) (res : List Str) (h : m_impl_FlowOrder N f = some res) (w : World) {a_f_steps : Option Addr} {c_f_steps : Nat} (h_f_steps : stepsL.rd w [] [.slice a_f_steps f.steps.length c_f_steps] f.steps) : Ret Try.prog 51 [.agg #[.int .i64 f.ver, .slice a_f_steps f.steps.length c_f_steps]] w [] fun v w' => ∃ a1 c1 F1, v = .slice a1 res.length c1 ∧ NewC w w' [owC strsL F1 [.slice a1 res.length c1] res] := by
  have mh_f_steps := rd_max h_f_steps
  unfold m_impl_FlowOrder at h
  refine ret_enter Try.func51 rfl Try.ntmps51 rfl (Hp.refl w _) ?_
  refine cw_seq ?_
  refine cw_region ?_
  refine wl_u rfl (ow_boxA rfl rfl rfl rfl (fun g1 => kk_wl ?_))
  refine wl_u rfl (ow_y (yh_assign rfl rfl) rfl rfl (kk_wl ?_))
  refine wl_nil ?_
  refine ex_seq ?_
  refine cw_seq ?_
  refine cw_seq ?_
  refine cw_region ?_
  refine wl_u rfl (ow_y (yh_loadBA Tb (k := 0) rfl rfl rfl rfl rfl rfl) rfl rfl (kk_wl ?_))
  obtain ⟨x4, hx4, h⟩ := bd h
  refine wl_u rfl (ow_cV rfl hb62 rfl (fun w hw => c_impl_FlowValid N _ _ hx4 w (Lay.at_ h_f_steps hw)) rfl rfl (kk_wl ?_))
  refine wl_u rfl (ow_y (yh_not rfl rfl) rfl rfl (kk_wl ?_))
  refine wl_nil ?_
  refine ex_seq ?_
  refine cw_split rfl (fun c1 => ?_) (fun c1 => ?_)
  · skip
    replace h := bt c1 h
    refine cw_seq ?_
    refine cw_region ?_
    refine wl_u rfl (ow_y (yh_assign rfl rfl) rfl rfl (kk_wl ?_))
    refine wl_nil ?_
    refine ex_seq ?_
    refine cw_ret ?_
    refine ex_then_ret ?_
    refine ex_nilS strsL rfl ?_
    obtain rfl := Option.some.inj h
    exact ex_r1 Tb rfl (.tmp rfl) (fun wq hq => ⟨_, rfl, hq.ext, ⟨none, 0, [], rfl, NewC.sel [0] hq rfl⟩⟩)
  · skip
    replace h := bf c1 h
    refine cw_skip ?_
    refine ex_seq ?_
    refine cw_seq ?_
    refine cw_region ?_
    refine wl_u rfl (ow_y (yh_loadBA Tb (k := 0) rfl rfl rfl rfl rfl rfl) rfl rfl (kk_wl ?_))
    obtain ⟨x7, hx7, h⟩ := bd h
    refine wl_u rfl (ow_cN1 rfl hb101 rfl (fun w hw => c_impl_Flow_order N _ _ hx7 w (Lay.at_ h_f_steps hw)) rfl rfl (fun a7 c7 F7 => kk_wl ?_))
    refine wl_u rfl (ow_y (yh_assign rfl rfl) rfl rfl (kk_wl ?_))
    refine wl_nil ?_
    refine ex_seq ?_
    refine cw_ret ?_
    obtain rfl := Option.some.inj h
    exact ex_r1 Tb rfl (.tmp rfl) (fun wq hq => ⟨_, rfl, hq.ext, ⟨a7, c7, F7, rfl, NewC.sel [0] hq rfl⟩⟩)

def m_laws_FnFitBadNone (N : Nat) (u0 : List UInt8) (u1 : List UInt8) : Option (Bool) := (bif ltb 1048576 ((u0.length : Nat) : Int) then some true
 else (bif ltb 1048576 ((u1.length : Nat) : Int) then some true
 else (m_spec_DrawFitBad N u0).bind fun x24 => (m_impl_FitBad N x24.1 x24.2).bind fun x30 => (m_spec_FitBad N x24.1 x24.2).bind fun x36 => (bif x30.2 != x36.2 then (bif x30.2 == x36.2 then some (seq x30.1 x36.1)
 else some false)
 else (bif !(seq x30.1 x36.1) then (bif x30.2 == x36.2 then some (seq x30.1 x36.1)
 else some false)
 else (m_impl_FlowOrder N x24.1).bind fun x56 => (lsz x56.length).bind fun v64_ => (slTo x56 ((u1.length % (x56.length + 1) : Nat) : Int)).bind fun l66 => (m_impl_FitBad N x24.1 l66).bind fun x67 => some (!x67.2)))))

set_option maxHeartbeats 4000000 in
theorem c_laws_FnFitBadNone (N : Nat) (u0 : List UInt8) (u1 : List UInt8) (res : Bool) (h : m_laws_FnFitBadNone N u0 u1 = some res) (w : World) {a_u0 a_u1 : Option Addr} {c_u0 c_u1 : Nat} (h_u0 : bytesL.rd w [] [.slice a_u0 u0.length c_u0] u0) (h_u1 : bytesL.rd w [] [.slice a_u1 u1.length c_u1] u1) : Ret Try.prog 13 [.slice a_u0 u0.length c_u0, .slice a_u1 u1.length c_u1] w [] fun v w' => v = .bool res := by
  have mh_u0 := rd_max h_u0
  have mh_u1 := rd_max h_u1
  unfold m_laws_FnFitBadNone at h
  refine ret_enter Try.func13 rfl Try.ntmps13 rfl (Hp.refl w _) ?_
  refine cw_seq ?_
  refine cw_region ?_
  refine wl_u rfl (ow_y (yh_assign rfl rfl) rfl rfl (kk_wl ?_))
  refine wl_nil ?_
  refine ex_seq ?_
  refine cw_seq ?_
  refine cw_seq ?_
  refine cw_region ?_
  refine wl_u rfl (ow_y (yh_move rfl rfl) rfl rfl (kk_wl ?_))
  refine wl_u rfl (ow_y (yh_lenS Tb rfl rfl rfl rfl) rfl rfl (kk_wl ?_))
  refine wl_u rfl (ow_y (yh_cmpI rfl rfl rfl rfl) rfl rfl (kk_wl ?_))
  refine wl_u rfl (ow_y (yh_move rfl rfl) rfl rfl (kk_wl ?_))
  refine wl_s rfl rfl (fun c1 => ?_) (fun c1 => ?_)
  · skip
    replace h := bt c1 h
    have q1 := ltb_true.1 c1
    refine wl_n rfl rfl rfl rfl ?_
    refine wl_n rfl rfl rfl rfl ?_
    refine wl_n rfl rfl rfl rfl ?_
    refine wl_u rfl (ow_y (yh_pickT rfl rfl rfl) rfl rfl (kk_wl ?_))
    refine wl_nil ?_
    refine ex_seq ?_
    refine cw_true rfl ?_
    refine cw_seq ?_
    refine cw_region ?_
    refine wl_u rfl (ow_y (yh_assign rfl rfl) rfl rfl (kk_wl ?_))
    refine wl_nil ?_
    refine ex_seq ?_
    refine cw_ret ?_
    refine ex_then_ret ?_
    obtain rfl := Option.some.inj h
    exact ex_r1 Tb rfl (.tmp rfl) (fun wq hq => ⟨_, rfl, hq.ext, rfl⟩)
  · skip
    replace h := bf c1 h
    have q2 := ltb_false.1 c1
    refine wl_g rfl rfl (ow_y (yh_move rfl rfl) rfl rfl (kk_wl ?_))
    refine wl_g rfl rfl (ow_y (yh_lenS Tb rfl rfl rfl rfl) rfl rfl (kk_wl ?_))
    refine wl_g rfl rfl (ow_y (yh_cmpI rfl rfl rfl rfl) rfl rfl (kk_wl ?_))
    refine wl_u rfl (ow_y (yh_pickF rfl rfl rfl) rfl rfl (kk_wl ?_))
    refine wl_nil ?_
    refine ex_seq ?_
    refine cw_split rfl (fun c2 => ?_) (fun c2 => ?_)
    · skip
      replace h := bt c2 h
      have q3 := ltb_true.1 c2
      refine cw_seq ?_
      refine cw_region ?_
      refine wl_u rfl (ow_y (yh_assign rfl rfl) rfl rfl (kk_wl ?_))
      refine wl_nil ?_
      refine ex_seq ?_
      refine cw_ret ?_
      refine ex_then_ret ?_
      obtain rfl := Option.some.inj h
      exact ex_r1 Tb rfl (.tmp rfl) (fun wq hq => ⟨_, rfl, hq.ext, rfl⟩)
    · skip
      replace h := bf c2 h
      have q4 := ltb_false.1 c2
      refine cw_skip ?_
      refine ex_seq ?_
      refine cw_seq ?_
      refine cw_region ?_
      refine wl_u rfl (ow_y (yh_move rfl rfl) rfl rfl (kk_wl ?_))
      obtain ⟨x24, hx24, h⟩ := bd h
      refine wl_u rfl (ow_cN2 rfl hb53 rfl (fun w hw => c_spec_DrawFitBad N _ _ hx24 w (Lay.at_ h_u0 hw)) rfl rfl (fun a24 c24 F24 a24_2 c24_2 F24_2 => kk_wl ?_))
      refine wl_u rfl (ow_y (yh_move rfl rfl) rfl rfl (kk_wl ?_))
      refine wl_u rfl (ow_y (yh_extract rfl rfl rfl) rfl rfl (kk_wl ?_))
      refine wl_u rfl (ow_y (yh_extract rfl rfl rfl) rfl rfl (kk_wl ?_))
      refine wl_u rfl (ow_allocA Tb rfl rfl rfl rfl (fun g5 => kk_wl ?_))
      refine wl_u rfl (ow_storeA Tb (k := 0) rfl rfl rfl rfl rfl rfl rfl rfl rfl (kk_wl ?_))
      refine wl_u rfl (ow_y (yh_assign rfl rfl) rfl rfl (kk_wl ?_))
      refine wl_nil ?_
      refine ex_seq ?_
      refine cw_seq ?_
      refine cw_freeze 1 rfl (fun w1 M1 hb1_ hz1 => ?_)
      replace h_u0 := Lay.rb h_u0 hb1_
      replace h_u1 := Lay.rb h_u1 hb1_
      have hB1 := hb1_
      have mz1 := rd_max hz1
      refine cw_freeze 1 rfl (fun w2 M2 hb2_ hz2 => ?_)
      replace h_u0 := Lay.rb h_u0 hb2_
      replace h_u1 := Lay.rb h_u1 hb2_
      replace hz1 := Lay.rb hz1 hb2_
      have hB2 := hB1.trans hb2_
      have mz2 := rd_max hz2
      refine cw_region ?_
      refine wl_u rfl (ow_y (yh_loadBA Tb (k := 0) rfl rfl rfl rfl rfl rfl) rfl rfl (kk_wl ?_))
      refine wl_u rfl (ow_y (yh_move rfl rfl) rfl rfl (kk_wl ?_))
      obtain ⟨x30, hx30, h⟩ := bd h
      refine wl_u rfl (ow_cV rfl hb54 rfl (fun w hw => c_impl_FitBad N _ _ _ hx30 w (Lay.at_ hz1 hw) (Lay.at_ hz2 hw)) rfl rfl (kk_wl ?_))
      refine wl_u rfl (ow_y (yh_move rfl rfl) rfl rfl (kk_wl ?_))
      refine wl_u rfl (ow_y (yh_extract rfl rfl rfl) rfl rfl (kk_wl ?_))
      refine wl_u rfl (ow_y (yh_extract rfl rfl rfl) rfl rfl (kk_wl ?_))
      refine wl_u rfl (ow_y (yh_assign rfl rfl) rfl rfl (kk_wl ?_))
      refine wl_u rfl (ow_y (yh_assign rfl rfl) rfl rfl (kk_wl ?_))
      refine wl_nil ?_
      refine ex_seq ?_
      refine cw_seq ?_
      refine cw_region ?_
      refine wl_u rfl (ow_y (yh_loadBA Tb (k := 0) rfl rfl rfl rfl rfl rfl) rfl rfl (kk_wl ?_))
      refine wl_u rfl (ow_y (yh_move rfl rfl) rfl rfl (kk_wl ?_))
      obtain ⟨x36, hx36, h⟩ := bd h
      refine wl_u rfl (ow_cV rfl hb55 rfl (fun w hw => c_spec_FitBad N _ _ _ hx36 w (Lay.at_ hz1 hw) (Lay.at_ hz2 hw)) rfl rfl (kk_wl ?_))
      refine wl_u rfl (ow_y (yh_move rfl rfl) rfl rfl (kk_wl ?_))
      refine wl_u rfl (ow_y (yh_extract rfl rfl rfl) rfl rfl (kk_wl ?_))
      refine wl_u rfl (ow_y (yh_extract rfl rfl rfl) rfl rfl (kk_wl ?_))
      refine wl_u rfl (ow_y (yh_assign rfl rfl) rfl rfl (kk_wl ?_))
      refine wl_u rfl (ow_y (yh_assign rfl rfl) rfl rfl (kk_wl ?_))
      refine wl_nil ?_
      refine ex_seq ?_
      refine cw_seq ?_
      refine cw_seq ?_
      refine cw_region ?_
      refine wl_u rfl (ow_y (yh_move rfl rfl) rfl rfl (kk_wl ?_))
      refine wl_u rfl (ow_y (yh_move rfl rfl) rfl rfl (kk_wl ?_))
      refine wl_u rfl (ow_y (yh_cmpB rfl rfl rfl rfl (by kernel_rfl)) rfl rfl (kk_wl ?_))
      refine wl_u rfl (ow_y (yh_move rfl rfl) rfl rfl (kk_wl ?_))
      refine wl_s rfl rfl (fun c3 => ?_) (fun c3 => ?_)
      · skip
        replace h := bt c3 h
        refine wl_n rfl rfl rfl rfl ?_
        refine wl_n rfl rfl rfl rfl ?_
        refine wl_n rfl rfl rfl rfl ?_
        refine wl_u rfl (ow_y (yh_pickT rfl rfl rfl) rfl rfl (kk_wl ?_))
        refine wl_nil ?_
        refine ex_seq ?_
        refine cw_true rfl ?_
        refine cw_seq ?_
        refine cw_region ?_
        refine wl_u rfl (ow_y (yh_move rfl rfl) rfl rfl (kk_wl ?_))
        refine wl_u rfl (ow_y (yh_move rfl rfl) rfl rfl (kk_wl ?_))
        refine wl_u rfl (ow_y (yh_cmpB rfl rfl rfl rfl (by kernel_rfl)) rfl rfl (kk_wl ?_))
        refine wl_u rfl (ow_y (yh_move rfl rfl) rfl rfl (kk_wl ?_))
        refine wl_s rfl rfl (fun c4 => ?_) (fun c4 => ?_)
        · skip
          replace h := bt c4 h
          refine wl_g rfl rfl (ow_y (yh_move rfl rfl) rfl rfl (kk_wl ?_))
          refine wl_g rfl rfl (ow_y (yh_move rfl rfl) rfl rfl (kk_wl ?_))
          refine wl_g rfl rfl (ow_y (yh_cmpS rfl rfl rfl rfl) rfl rfl (kk_wl ?_))
          refine wl_u rfl (ow_y (yh_pickT rfl rfl rfl) rfl rfl (kk_wl ?_))
          refine wl_u rfl (ow_y (yh_assign rfl rfl) rfl rfl (kk_wl ?_))
          refine wl_nil ?_
          refine ex_seq ?_
          refine cw_ret ?_
          refine ex_then_ret ?_
          obtain rfl := Option.some.inj h
          exact ex_r1 Tb rfl (.tmp rfl) (fun wq hq => ⟨_, rfl, (hB2.back hq).ext, rfl⟩)
        · skip
          replace h := bf c4 h
          refine wl_n rfl rfl rfl rfl ?_
          refine wl_n rfl rfl rfl rfl ?_
          refine wl_n rfl rfl rfl rfl ?_
          refine wl_u rfl (ow_y (yh_pickF rfl rfl rfl) rfl rfl (kk_wl ?_))
          refine wl_u rfl (ow_y (yh_assign rfl rfl) rfl rfl (kk_wl ?_))
          refine wl_nil ?_
          refine ex_seq ?_
          refine cw_ret ?_
          refine ex_then_ret ?_
          obtain rfl := Option.some.inj h
          exact ex_r1 Tb rfl (.tmp rfl) (fun wq hq => ⟨_, rfl, (hB2.back hq).ext, rfl⟩)
      · skip
        replace h := bf c3 h
        refine wl_g rfl rfl (ow_y (yh_move rfl rfl) rfl rfl (kk_wl ?_))
        refine wl_g rfl rfl (ow_y (yh_move rfl rfl) rfl rfl (kk_wl ?_))
        refine wl_g rfl rfl (ow_y (yh_cmpS rfl rfl rfl rfl) rfl rfl (kk_wl ?_))
        refine wl_u rfl (ow_y (yh_pickF rfl rfl rfl) rfl rfl (kk_wl ?_))
        refine wl_nil ?_
        refine ex_seq ?_
        refine cw_split rfl (fun c5 => ?_) (fun c5 => ?_)
        · skip
          replace h := bt c5 h
          refine cw_seq ?_
          refine cw_region ?_
          refine wl_u rfl (ow_y (yh_move rfl rfl) rfl rfl (kk_wl ?_))
          refine wl_u rfl (ow_y (yh_move rfl rfl) rfl rfl (kk_wl ?_))
          refine wl_u rfl (ow_y (yh_cmpB rfl rfl rfl rfl (by kernel_rfl)) rfl rfl (kk_wl ?_))
          refine wl_u rfl (ow_y (yh_move rfl rfl) rfl rfl (kk_wl ?_))
          refine wl_s rfl rfl (fun c6 => ?_) (fun c6 => ?_)
          · skip
            replace h := bt c6 h
            refine wl_g rfl rfl (ow_y (yh_move rfl rfl) rfl rfl (kk_wl ?_))
            refine wl_g rfl rfl (ow_y (yh_move rfl rfl) rfl rfl (kk_wl ?_))
            refine wl_g rfl rfl (ow_y (yh_cmpS rfl rfl rfl rfl) rfl rfl (kk_wl ?_))
            refine wl_u rfl (ow_y (yh_pickT rfl rfl rfl) rfl rfl (kk_wl ?_))
            refine wl_u rfl (ow_y (yh_assign rfl rfl) rfl rfl (kk_wl ?_))
            refine wl_nil ?_
            refine ex_seq ?_
            refine cw_ret ?_
            refine ex_then_ret ?_
            obtain rfl := Option.some.inj h
            exact ex_r1 Tb rfl (.tmp rfl) (fun wq hq => ⟨_, rfl, (hB2.back hq).ext, rfl⟩)
          · skip
            replace h := bf c6 h
            refine wl_n rfl rfl rfl rfl ?_
            refine wl_n rfl rfl rfl rfl ?_
            refine wl_n rfl rfl rfl rfl ?_
            refine wl_u rfl (ow_y (yh_pickF rfl rfl rfl) rfl rfl (kk_wl ?_))
            refine wl_u rfl (ow_y (yh_assign rfl rfl) rfl rfl (kk_wl ?_))
            refine wl_nil ?_
            refine ex_seq ?_
            refine cw_ret ?_
            refine ex_then_ret ?_
            obtain rfl := Option.some.inj h
            exact ex_r1 Tb rfl (.tmp rfl) (fun wq hq => ⟨_, rfl, (hB2.back hq).ext, rfl⟩)
        · skip
          replace h := bf c5 h
          refine cw_skip ?_
          refine ex_seq ?_
          refine cw_seq ?_
          refine cw_region ?_
          refine wl_u rfl (ow_y (yh_loadBA Tb (k := 0) rfl rfl rfl rfl rfl rfl) rfl rfl (kk_wl ?_))
          obtain ⟨x56, hx56, h⟩ := bd h
          refine wl_u rfl (ow_cN1 rfl hb51 rfl (fun w hw => c_impl_FlowOrder N _ _ hx56 w (Lay.at_ hz1 hw)) rfl rfl (fun a56 c56 F56 => kk_wl ?_))
          refine wl_u rfl (ow_y (yh_assign rfl rfl) rfl rfl (kk_wl ?_))
          refine wl_nil ?_
          refine ex_seq ?_
          refine cw_seq ?_
          refine cw_freeze 0 rfl (fun w3 M3 hb3_ hz3 => ?_)
          replace h_u0 := Lay.rb h_u0 hb3_
          replace h_u1 := Lay.rb h_u1 hb3_
          replace hz1 := Lay.rb hz1 hb3_
          replace hz2 := Lay.rb hz2 hb3_
          have hB3 := hB2.trans hb3_
          have mz3 := rd_max hz3
          refine cw_dr [0, 1, 2, 3, 4, 5, 6, 7, 8, 10, 11, 12, 13, 14] [] [blkC g5 26 [.int .i64 x24.1.ver, .slice a24 x24.1.steps.length c24]] (by kernel_rfl) ?_
          refine wd_take (i := 0) [0] rfl rfl rfl rfl rfl (by kernel_rfl) rfl (fun _ _ _ _ h => h) (yh_loadBA Tb (k := 0) rfl rfl rfl rfl rfl rfl) ?_
          refine wd_take (i := 1) [0] rfl rfl rfl rfl rfl (by kernel_rfl) rfl (fun _ _ _ _ h => h) (yh_move rfl rfl) ?_
          refine wd_take (i := 2) [0] rfl rfl rfl rfl rfl (by kernel_rfl) rfl (fun _ _ _ _ h => h) (yh_move rfl rfl) ?_
          refine wd_take (i := 3) [0] rfl rfl rfl rfl rfl (by kernel_rfl) rfl (fun _ _ _ _ h => h) (yh_lenS Tb rfl rfl rfl rfl) ?_
          refine wd_take (i := 4) [0] rfl rfl rfl rfl rfl (by kernel_rfl) rfl (fun _ _ _ _ h => h) (yh_move rfl rfl) ?_
          refine wd_take (i := 5) [0] rfl rfl rfl rfl rfl (by kernel_rfl) rfl (fun _ _ _ _ h => h) (yh_lenS Tb rfl rfl rfl rfl) ?_
          obtain ⟨v64_, hv64_, h⟩ := bd h
          have mv64_ := lsz_some hv64_
          refine wd_take (i := 6) [0] rfl rfl rfl rfl rfl (by kernel_rfl) rfl (fun _ _ _ _ h => h) (yh_arI rfl rfl rfl rfl (by omega)) ?_
          refine wd_take (i := 7) [0] rfl rfl rfl rfl rfl (by kernel_rfl) rfl (fun _ _ _ _ h => h) (yh_rem u1.length (x56.length + 1) rfl rfl rfl rfl rfl (by omega)) ?_
          obtain ⟨l66, zl66, h⟩ := bd h
          obtain ⟨il66, jl66⟩ := slTo_K zl66
          have hf66 := sl_takeK hz3 zl66
          have mx66 := rd_max hf66
          refine wd_take (i := 8) [0] rfl rfl rfl rfl rfl (by kernel_rfl) rfl (fun _ _ _ _ h => h) (yh_sliceH Tb (k := l66.length) rfl rfl rfl il66 (Nat.le_trans jl66 (rd_cap hz3)) rfl rfl) ?_
          obtain ⟨x67, hx67, h⟩ := bd h
          refine wd_one 9 rfl rfl (by kernel_rfl) (ow_cV rfl hb54 rfl (fun w hw => c_impl_FitBad N _ _ _ hx67 w (Lay.at_ hz1 hw) (Lay.at_ hf66 hw)) rfl rfl (kk_wd [0] rfl ?_))
          refine wd_take (i := 10) [0] rfl rfl rfl rfl rfl (by kernel_rfl) rfl (fun _ _ _ _ h => h) (yh_move rfl rfl) ?_
          refine wd_take (i := 11) [0] rfl rfl rfl rfl rfl (by kernel_rfl) rfl (fun _ _ _ _ h => h) (yh_extract rfl rfl rfl) ?_
          refine wd_take (i := 12) [0] rfl rfl rfl rfl rfl (by kernel_rfl) rfl (fun _ _ _ _ h => h) (yh_extract rfl rfl rfl) ?_
          refine wd_take (i := 13) [0] rfl rfl rfl rfl rfl (by kernel_rfl) rfl (fun _ _ _ _ h => h) (yh_assign rfl rfl) ?_
          refine wd_take (i := 14) [0] rfl rfl rfl rfl rfl (by kernel_rfl) rfl (fun _ _ _ _ h => h) (yh_assign rfl rfl) ?_
          refine wd_done (by kernel_rfl) ?_
          refine ex_seq ?_
          refine cw_seq ?_
          refine cw_region ?_
          refine wl_u rfl (ow_y (yh_move rfl rfl) rfl rfl (kk_wl ?_))
          refine wl_u rfl (ow_y (yh_not rfl rfl) rfl rfl (kk_wl ?_))
          refine wl_u rfl (ow_y (yh_assign rfl rfl) rfl rfl (kk_wl ?_))
          refine wl_nil ?_
          refine ex_seq ?_
          refine cw_ret ?_
          obtain rfl := Option.some.inj h
          exact ex_r1 Tb rfl (.tmp rfl) (fun wq hq => ⟨_, rfl, (hB3.back hq).ext, rfl⟩)

def m_impl_RunNew (N : Nat) (f : Flow) : Option (Run × Bool) := (m_impl_FlowValid N f).bind fun x6 => some ((Run.mk 0 []), x6)

set_option maxHeartbeats 4000000 in
theorem c_impl_RunNew (N : Nat) (f : Flow) (res : Run × Bool) (h : m_impl_RunNew N f = some res) (w : World) {a_f_steps : Option Addr} {c_f_steps : Nat} (h_f_steps : stepsL.rd w [] [.slice a_f_steps f.steps.length c_f_steps] f.steps) : Ret Try.prog 49 [.agg #[.int .i64 f.ver, .slice a_f_steps f.steps.length c_f_steps]] w [] fun v w' => ∃ a1 c1 F1, v = .tuple #[.agg #[.int .i64 res.1.state, .slice a1 res.1.done.length c1], .bool res.2] ∧ NewC w w' [owC strsL F1 [.slice a1 res.1.done.length c1] res.1.done] := by
  have mh_f_steps := rd_max h_f_steps
  unfold m_impl_RunNew at h
  refine ret_enter Try.func49 rfl Try.ntmps49 rfl (Hp.refl w _) ?_
  refine cw_seq ?_
  refine cw_region ?_
  refine wl_u rfl (ow_boxA rfl rfl rfl rfl (fun g1 => kk_wl ?_))
  refine wl_u rfl (ow_allocA Tb rfl rfl rfl rfl (fun g2 => kk_wl ?_))
  refine wl_u rfl (ow_y (yh_assign rfl rfl) rfl rfl (kk_wl ?_))
  refine wl_nil ?_
  refine ex_seq ?_
  refine cw_seq ?_
  refine cw_region ?_
  refine wl_u rfl (ow_y (yh_build [.int .i64 0, .slice none 0 0] rfl rfl (by kernel_rfl)) rfl rfl (kk_wl ?_))
  refine wl_u rfl (ow_y (yh_loadBA Tb (k := 1) rfl rfl rfl rfl rfl rfl) rfl rfl (kk_wl ?_))
  obtain ⟨x6, hx6, h⟩ := bd h
  refine wl_u rfl (ow_cV rfl hb62 rfl (fun w hw => c_impl_FlowValid N _ _ hx6 w (Lay.at_ h_f_steps hw)) rfl rfl (kk_wl ?_))
  refine wl_u rfl (ow_storeA Tb (k := 0) rfl rfl rfl rfl rfl rfl rfl rfl rfl (kk_wl ?_))
  refine wl_u rfl (ow_y (yh_assign rfl rfl) rfl rfl (kk_wl ?_))
  refine wl_nil ?_
  refine ex_seq ?_
  refine cw_ret ?_
  refine ex_nilS strsL rfl ?_
  obtain rfl := Option.some.inj h
  exact ex_r2 Tb rfl (.cellA 1 rfl rfl rfl rfl rfl) (.tmp rfl) (fun wq hq => ⟨_, rfl, hq.ext, ⟨none, 0, [], rfl, NewC.sel [0] hq rfl⟩⟩)

def m_impl_Flow_forth (N : Nat) (f : Flow) (done : List Str) : Option (Int) := (bif eqb ((done.length : Nat) : Int) ((f.steps.length : Nat) : Int) then some 2
 else some 0)

set_option maxHeartbeats 4000000 in
theorem c_impl_Flow_forth (N : Nat) (f : Flow) (done : List Str) (res : Int) (h : m_impl_Flow_forth N f done = some res) (w : World) {a_done a_f_steps : Option Addr} {c_done c_f_steps : Nat} (h_f_steps : stepsL.rd w [] [.slice a_f_steps f.steps.length c_f_steps] f.steps) (h_done : strsL.rd w [] [.slice a_done done.length c_done] done) : Ret Try.prog 96 [.agg #[.int .i64 f.ver, .slice a_f_steps f.steps.length c_f_steps], .slice a_done done.length c_done] w [] fun v w' => v = .int .i64 res := by
  have mh_f_steps := rd_max h_f_steps
  have mh_done := rd_max h_done
  unfold m_impl_Flow_forth at h
  refine ret_enter Try.func96 rfl Try.ntmps96 rfl (Hp.refl w _) ?_
  refine cw_seq ?_
  refine cw_region ?_
  refine wl_u rfl (ow_boxA rfl rfl rfl rfl (fun g2 => kk_wl ?_))
  refine wl_u rfl (ow_y (yh_assign rfl rfl) rfl rfl (kk_wl ?_))
  refine wl_nil ?_
  refine ex_seq ?_
  refine cw_seq ?_
  refine cw_seq ?_
  refine cw_region ?_
  refine wl_u rfl (ow_y (yh_move rfl rfl) rfl rfl (kk_wl ?_))
  refine wl_u rfl (ow_y (yh_lenS Tb rfl rfl rfl rfl) rfl rfl (kk_wl ?_))
  refine wl_u rfl (ow_y (yh_field Tb rfl rfl rfl) rfl rfl (kk_wl ?_))
  refine wl_u rfl (ow_y (yh_loadB Tb (k := 0) rfl rfl rfl rfl rfl) rfl rfl (kk_wl ?_))
  refine wl_u rfl (ow_y (yh_lenS Tb rfl rfl rfl rfl) rfl rfl (kk_wl ?_))
  refine wl_u rfl (ow_y (yh_cmpI rfl rfl rfl rfl) rfl rfl (kk_wl ?_))
  refine wl_nil ?_
  refine ex_seq ?_
  refine cw_split rfl (fun c1 => ?_) (fun c1 => ?_)
  · skip
    replace h := bt c1 h
    have q1 := eqb_true.1 c1
    refine cw_seq ?_
    refine cw_region ?_
    refine wl_u rfl (ow_y (yh_assign rfl rfl) rfl rfl (kk_wl ?_))
    refine wl_nil ?_
    refine ex_seq ?_
    refine cw_ret ?_
    refine ex_then_ret ?_
    obtain rfl := Option.some.inj h
    exact ex_r1 Tb rfl (.tmp rfl) (fun wq hq => ⟨_, rfl, hq.ext, rfl⟩)
  · skip
    replace h := bf c1 h
    have q2 := eqb_false.1 c1
    refine cw_skip ?_
    refine ex_seq ?_
    refine cw_seq ?_
    refine cw_region ?_
    refine wl_u rfl (ow_y (yh_assign rfl rfl) rfl rfl (kk_wl ?_))
    refine wl_nil ?_
    refine ex_seq ?_
    refine cw_ret ?_
    obtain rfl := Option.some.inj h
    exact ex_r1 Tb rfl (.tmp rfl) (fun wq hq => ⟨_, rfl, hq.ext, rfl⟩)

def m_impl_Flow_back (N : Nat) (f : Flow) (done : List Str) : Option (Int) := (bif ltb 0 ((done.length : Nat) : Int) then (geti done (((done.length : Nat) : Int) - 1)).bind fun y16 => (m_impl_Flow_at N f y16).bind fun x18 => (geti f.steps x18).bind fun y19 => (bif y19.undo then some 1
 else some 3)
 else some 3)

set_option maxHeartbeats 4000000 in
theorem c_impl_Flow_back (N : Nat) (f : Flow) (done : List Str) (res : Int) (h : m_impl_Flow_back N f done = some res) (w : World) {a_done a_f_steps : Option Addr} {c_done c_f_steps : Nat} (h_f_steps : stepsL.rd w [] [.slice a_f_steps f.steps.length c_f_steps] f.steps) (h_done : strsL.rd w [] [.slice a_done done.length c_done] done) : Ret Try.prog 97 [.agg #[.int .i64 f.ver, .slice a_f_steps f.steps.length c_f_steps], .slice a_done done.length c_done] w [] fun v w' => v = .int .i64 res := by
  have mh_f_steps := rd_max h_f_steps
  have mh_done := rd_max h_done
  unfold m_impl_Flow_back at h
  refine ret_enter Try.func97 rfl Try.ntmps97 rfl (Hp.refl w _) ?_
  refine cw_seq ?_
  refine cw_region ?_
  refine wl_u rfl (ow_boxA rfl rfl rfl rfl (fun g2 => kk_wl ?_))
  refine wl_u rfl (ow_y (yh_assign rfl rfl) rfl rfl (kk_wl ?_))
  refine wl_nil ?_
  refine ex_seq ?_
  refine cw_seq ?_
  refine cw_seq ?_
  refine cw_dr [0, 1, 2, 3, 4, 5, 6, 7, 8, 9, 10, 11, 12, 14, 15, 16, 17] [] [blkC g2 26 [.int .i64 f.ver, .slice a_f_steps f.steps.length c_f_steps]] (by kernel_rfl) ?_
  refine wd_take (i := 0) [0] rfl rfl rfl rfl rfl (by kernel_rfl) rfl (fun _ _ _ _ h => h) (yh_move rfl rfl) ?_
  refine wd_take (i := 1) [0] rfl rfl rfl rfl rfl (by kernel_rfl) rfl (fun _ _ _ _ h => h) (yh_lenS Tb rfl rfl rfl rfl) ?_
  refine wd_take (i := 2) [0] rfl rfl rfl rfl rfl (by kernel_rfl) rfl (fun _ _ _ _ h => h) (yh_cmpI rfl rfl rfl rfl) ?_
  refine wd_take (i := 3) [0] rfl rfl rfl rfl rfl (by kernel_rfl) rfl (fun _ _ _ _ h => h) (yh_move rfl rfl) ?_
  refine wd_split 4 rfl rfl rfl (fun c1 => ?_) (fun c1 => ?_)
  · skip
    replace h := bt c1 h
    have q1 := ltb_true.1 c1
    refine wd_take (i := 4) [0] rfl rfl rfl rfl rfl (by kernel_rfl) rfl (fun _ _ _ _ h => h) (yh_field Tb rfl rfl rfl) ?_
    refine wd_take (i := 5) [0] rfl rfl rfl rfl rfl (by kernel_rfl) rfl (fun _ _ _ _ h => h) (yh_loadB Tb (k := 0) rfl rfl rfl rfl rfl) ?_
    refine wd_take (i := 6) [0] rfl rfl rfl rfl rfl (by kernel_rfl) rfl (fun _ _ _ _ h => h) (yh_loadBA Tb (k := 0) rfl rfl rfl rfl rfl rfl) ?_
    refine wd_take (i := 7) [0] rfl rfl rfl rfl rfl (by kernel_rfl) rfl (fun _ _ _ _ h => h) (yh_move rfl rfl) ?_
    refine wd_take (i := 8) [0] rfl rfl rfl rfl rfl (by kernel_rfl) rfl (fun _ _ _ _ h => h) (yh_move rfl rfl) ?_
    refine wd_take (i := 9) [0] rfl rfl rfl rfl rfl (by kernel_rfl) rfl (fun _ _ _ _ h => h) (yh_lenS Tb rfl rfl rfl rfl) ?_
    refine wd_take (i := 10) [0] rfl rfl rfl rfl rfl (by kernel_rfl) rfl (fun _ _ _ _ h => h) (yh_arI rfl rfl rfl rfl (by omega)) ?_
    obtain ⟨y16, zy16, h⟩ := bd h
    obtain ⟨iy16, hy16⟩ := geti_some zy16
    obtain ⟨b16, o16, ha16⟩ := sl_addr h_done hy16
    subst ha16
    have hc16 := get_str h_done hy16
    refine wd_take (i := 11) [0] rfl rfl rfl rfl rfl (by kernel_rfl) rfl (fun _ _ _ _ h => h) (yh_idx Tb (k := (((done.length : Nat) : Int) - 1).toNat) rfl rfl rfl iy16 (get_lt hy16) rfl rfl) ?_
    refine wd_take (i := 12) [0] rfl rfl rfl rfl rfl (by kernel_rfl) rfl (fun _ _ _ _ h => h) (yh_loadA0 Tb rfl rfl rfl hc16 rfl) ?_
    obtain ⟨x18, hx18, h⟩ := bd h
    refine wd_one 13 rfl rfl (by kernel_rfl) (ow_cV rfl hb104 rfl (fun w hw => c_impl_Flow_at N _ _ _ hx18 w (Lay.at_ h_f_steps hw)) rfl rfl (kk_wd [0] rfl ?_))
    obtain ⟨y19, zy19, h⟩ := bd h
    obtain ⟨iy19, hy19⟩ := geti_some zy19
    obtain ⟨b19, o19, ha19⟩ := sl_addr h_f_steps hy19
    subst ha19
    obtain ⟨a19, e19, hc19, hf19⟩ := get_step h_f_steps hy19
    have mx19 := rd_max hf19
    refine wd_take (i := 14) [0] rfl rfl rfl rfl rfl (by kernel_rfl) rfl (fun _ _ _ _ h => h) (yh_idx Tb (k := x18.toNat) rfl rfl rfl iy19 (get_lt hy19) rfl rfl) ?_
    refine wd_take (i := 15) [0] rfl rfl rfl rfl rfl (by kernel_rfl) rfl (fun _ _ _ _ h => h) (yh_field Tb rfl rfl rfl) ?_
    refine wd_take (i := 16) [0] rfl rfl rfl rfl rfl (by kernel_rfl) rfl (fun _ _ _ _ h => h) (yh_loadAF Tb (j := 2) rfl rfl rfl hc19 rfl) ?_
    refine wd_take (i := 17) [0] rfl rfl rfl rfl rfl (by kernel_rfl) rfl (fun _ _ _ _ h => h) (yh_pickT rfl rfl rfl) ?_
    refine wd_done (by kernel_rfl) ?_
    refine ex_seq ?_
    refine cw_split rfl (fun c2 => ?_) (fun c2 => ?_)
    · skip
      replace h := bt c2 h
      refine cw_seq ?_
      refine cw_region ?_
      refine wl_u rfl (ow_y (yh_assign rfl rfl) rfl rfl (kk_wl ?_))
      refine wl_nil ?_
      refine ex_seq ?_
      refine cw_ret ?_
      refine ex_then_ret ?_
      obtain rfl := Option.some.inj h
      exact ex_r1 Tb rfl (.tmp rfl) (fun wq hq => ⟨_, rfl, hq.ext, rfl⟩)
    · skip
      replace h := bf c2 h
      refine cw_skip ?_
      refine ex_seq ?_
      refine cw_seq ?_
      refine cw_region ?_
      refine wl_u rfl (ow_y (yh_assign rfl rfl) rfl rfl (kk_wl ?_))
      refine wl_nil ?_
      refine ex_seq ?_
      refine cw_ret ?_
      obtain rfl := Option.some.inj h
      exact ex_r1 Tb rfl (.tmp rfl) (fun wq hq => ⟨_, rfl, hq.ext, rfl⟩)
  · skip
    replace h := bf c1 h
    have q2 := ltb_false.1 c1
    refine wd_skip (i := 4) [0] rfl rfl rfl rfl (by kernel_rfl) rfl (fun _ _ _ h => h) ?_
    refine wd_skip (i := 5) [0] rfl rfl rfl rfl (by kernel_rfl) rfl (fun _ _ _ h => h) ?_
    refine wd_skip (i := 6) [0] rfl rfl rfl rfl (by kernel_rfl) rfl (fun _ _ _ h => h) ?_
    refine wd_skip (i := 7) [0] rfl rfl rfl rfl (by kernel_rfl) rfl (fun _ _ _ h => h) ?_
    refine wd_skip (i := 8) [0] rfl rfl rfl rfl (by kernel_rfl) rfl (fun _ _ _ h => h) ?_
    refine wd_skip (i := 9) [0] rfl rfl rfl rfl (by kernel_rfl) rfl (fun _ _ _ h => h) ?_
    refine wd_skip (i := 10) [0] rfl rfl rfl rfl (by kernel_rfl) rfl (fun _ _ _ h => h) ?_
    refine wd_skip (i := 11) [0] rfl rfl rfl rfl (by kernel_rfl) rfl (fun _ _ _ h => h) ?_
    refine wd_skip (i := 12) [0] rfl rfl rfl rfl (by kernel_rfl) rfl (fun _ _ _ h => h) ?_
    refine wd_offD 13 rfl rfl rfl rfl (by kernel_rfl) [0] (fun _ => rfl) ?_
    refine wd_skip (i := 14) [0] rfl rfl rfl rfl (by kernel_rfl) rfl (fun _ _ _ h => h) ?_
    refine wd_skip (i := 15) [0] rfl rfl rfl rfl (by kernel_rfl) rfl (fun _ _ _ h => h) ?_
    refine wd_skip (i := 16) [0] rfl rfl rfl rfl (by kernel_rfl) rfl (fun _ _ _ h => h) ?_
    refine wd_take (i := 17) [0] rfl rfl rfl rfl rfl (by kernel_rfl) rfl (fun _ _ _ _ h => h) (yh_pickF rfl rfl rfl) ?_
    refine wd_done (by kernel_rfl) ?_
    refine ex_seq ?_
    refine cw_false rfl ?_
    refine cw_skip ?_
    refine ex_seq ?_
    refine cw_seq ?_
    refine cw_region ?_
    refine wl_u rfl (ow_y (yh_assign rfl rfl) rfl rfl (kk_wl ?_))
    refine wl_nil ?_
    refine ex_seq ?_
    refine cw_ret ?_
    obtain rfl := Option.some.inj h
    exact ex_r1 Tb rfl (.tmp rfl) (fun wq hq => ⟨_, rfl, hq.ext, rfl⟩)

end Go.Proofs.Ytlcckcifnpjbpaa
