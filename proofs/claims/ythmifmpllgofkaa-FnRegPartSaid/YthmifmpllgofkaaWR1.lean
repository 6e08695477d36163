/- Mirrors and contracts, printed by a program: what each function computes as a plain term, and that it does. -/
import Derived.Test.YthmifmpllgofkaaR
import Derived.Test.YthmifmpllgofkaaH
import Derived.Test.YthmifmpllgofkaaWR0
set_option linter.all false
set_option maxRecDepth 100000
namespace Go.Proofs.Ythmifmpllgofkaa
open Go.RowKit

def m_spec_RegistryValid_L5 (N : Nat) (list_ : List Flow) : Nat → Nat → Option (Ex (Nat) (Bool))
  | 0, _ => none
  | n + 1, s3 => (bif ltb ((s3 : Nat) : Int) ((list_.length : Nat) : Int) then (list_[s3]?).bind fun y12 => (m_spec_FlowValid N y12).bind fun x14 => (bif !x14 then some (Ex.ret false)
 else (bif ltb 0 ((s3 : Nat) : Int) then (geti list_ (((s3 : Nat) : Int) - 1)).bind fun y23 => (bif leb y12.ver y23.ver then some (Ex.ret false)
 else m_spec_RegistryValid_L5 N list_ n (s3 + 1))
 else m_spec_RegistryValid_L5 N list_ n (s3 + 1)))
 else some (Ex.brk (s3)))

def m_spec_RegistryValid (N : Nat) (list_ : List Flow) : Option (Bool) := (m_spec_RegistryValid_L5 N list_ N 0).bind fun e5 => e5.go (fun r => r) fun b5 => some (leb ((list_.length : Nat) : Int) 4)

set_option maxHeartbeats 4000000 in
theorem c_spec_RegistryValid (N : Nat) (list_ : List Flow) (res : Bool) (h : m_spec_RegistryValid N list_ = some res) (w : World) {a_list_ : Option Addr} {c_list_ : Nat} (h_list_ : flowsL.rd w [] [.slice a_list_ list_.length c_list_] list_) : Ret Try.prog 13 [.slice a_list_ list_.length c_list_] w [] fun v w' => v = .bool res := by
  have mh_list_ := rd_max h_list_
  unfold m_spec_RegistryValid at h
  refine ret_enter Try.func13 rfl Try.ntmps13 rfl (Hp.refl w _) ?_
  refine cw_seq ?_
  refine cw_region ?_
  refine wl_u rfl (ow_y (yh_assign rfl rfl) rfl rfl (kk_wl ?_))
  refine wl_nil ?_
  refine ex_seq ?_
  refine cw_seq ?_
  refine cw_seq ?_
  refine cw_region ?_
  refine wl_u rfl (ow_y (yh_assign rfl rfl) rfl rfl (kk_wl ?_))
  refine wl_nil ?_
  refine ex_seq ?_
  refine cw_block ?_
  obtain ⟨e5, he5, hk5⟩ := bd h
  clear h
  refine cw_loopG (σ := Nat × Nat) (fun s => m_spec_RegistryValid_L5 N list_ s.1 s.2 = some e5) (fun s => [(0, .slice a_list_ list_.length c_list_), (3, .int .i64 ((s.2 : Nat) : Int))]) (fun s => []) (fun s => s.1) (N, 0) [] he5 ⟨rfl, rfl, trivial⟩ rfl (fun KL s he5 hn5 => ?_)
  obtain ⟨n5, s3⟩ := s
  simp only at he5 hn5 ⊢
  rcases n5 with _ | n5
  · exact nosome he5
  have h := he5; rw [m_spec_RegistryValid_L5] at h
  refine cw_seq ?_
  refine cw_seq ?_
  refine cw_region ?_
  refine wl_u rfl (ow_y (yh_move rfl rfl) rfl rfl (kk_wl ?_))
  refine wl_u rfl (ow_y (yh_move rfl rfl) rfl rfl (kk_wl ?_))
  refine wl_u rfl (ow_y (yh_lenS Tb rfl rfl rfl rfl) rfl rfl (kk_wl ?_))
  refine wl_u rfl (ow_y (yh_cmpI rfl rfl rfl rfl) rfl rfl (kk_wl ?_))
  refine wl_nil ?_
  refine ex_seq ?_
  refine cw_split rfl (fun c1 => ?_) (fun c1 => ?_)
  · skip
    replace h := bt c1 h
    have q1 := ltb_true.1 c1
    refine cw_skip ?_
    refine ex_seq ?_
    refine cw_seq ?_
    refine cw_block ?_
    refine cw_seq ?_
    refine cw_dr [0, 1, 2, 3, 5, 6, 7, 8, 9, 10, 11, 12, 13, 14, 15, 16, 17, 18, 19, 20, 21, 22, 23] [] [] (by kernel_rfl) ?_
    refine wd_take (i := 0) [] rfl rfl rfl rfl rfl (by kernel_rfl) (by kernel_rfl) (fun _ _ _ _ h => h) (yh_move rfl rfl) ?_
    refine wd_take (i := 1) [] rfl rfl rfl rfl rfl (by kernel_rfl) (by kernel_rfl) (fun _ _ _ _ h => h) (yh_move rfl rfl) ?_
    obtain ⟨y12, hy12, h⟩ := bd h
    obtain ⟨b12, o12, ha12⟩ := sl_addr h_list_ hy12
    subst ha12
    obtain ⟨a12, e12, hc12, hf12⟩ := get_flow h_list_ hy12
    have mx12 := rd_max hf12
    refine wd_take (i := 2) [] rfl rfl rfl rfl rfl (by kernel_rfl) (by kernel_rfl) (fun _ _ _ _ h => h) (yh_idx Tb (k := s3) rfl rfl rfl rfl (get_lt hy12) rfl rfl) ?_
    refine wd_take (i := 3) [] rfl rfl rfl rfl rfl (by kernel_rfl) (by kernel_rfl) (fun _ _ _ _ h => h) (yh_loadAN Tb rfl rfl rfl rfl hc12 rfl) ?_
    obtain ⟨x14, hx14, h⟩ := bd h
    refine wd_one 4 rfl rfl (by kernel_rfl) (ow_cV rfl hb38 rfl (fun w hw => c_spec_FlowValid N _ _ hx14 w (Lay.at_ hf12 hw)) rfl rfl (kk_wd [] (by kernel_rfl) ?_))
    refine wd_take (i := 5) [] rfl rfl rfl rfl rfl (by kernel_rfl) (by kernel_rfl) (fun _ _ _ _ h => h) (yh_not rfl rfl) ?_
    refine wd_take (i := 6) [] rfl rfl rfl rfl rfl (by kernel_rfl) (by kernel_rfl) (fun _ _ _ _ h => h) (yh_move rfl rfl) ?_
    refine wd_split 7 rfl rfl rfl (fun c2 => ?_) (fun c2 => ?_)
    · skip
      replace h := bt c2 h
      refine wd_skip (i := 7) [] rfl rfl rfl rfl (by kernel_rfl) (by kernel_rfl) (fun _ _ _ h => h) ?_
      refine wd_skip (i := 8) [] rfl rfl rfl rfl (by kernel_rfl) (by kernel_rfl) (fun _ _ _ h => h) ?_
      refine wd_skip (i := 9) [] rfl rfl rfl rfl (by kernel_rfl) (by kernel_rfl) (fun _ _ _ h => h) ?_
      refine wd_skip (i := 10) [] rfl rfl rfl rfl (by kernel_rfl) (by kernel_rfl) (fun _ _ _ h => h) ?_
      refine wd_skip (i := 11) [] rfl rfl rfl rfl (by kernel_rfl) (by kernel_rfl) (fun _ _ _ h => h) ?_
      refine wd_skip (i := 12) [] rfl rfl rfl rfl (by kernel_rfl) (by kernel_rfl) (fun _ _ _ h => h) ?_
      refine wd_skip (i := 13) [] rfl rfl rfl rfl (by kernel_rfl) (by kernel_rfl) (fun _ _ _ h => h) ?_
      refine wd_skip (i := 14) [] rfl rfl rfl rfl (by kernel_rfl) (by kernel_rfl) (fun _ _ _ h => h) ?_
      refine wd_skip (i := 15) [] rfl rfl rfl rfl (by kernel_rfl) (by kernel_rfl) (fun _ _ _ h => h) ?_
      refine wd_skip (i := 16) [] rfl rfl rfl rfl (by kernel_rfl) (by kernel_rfl) (fun _ _ _ h => h) ?_
      refine wd_skip (i := 17) [] rfl rfl rfl rfl (by kernel_rfl) (by kernel_rfl) (fun _ _ _ h => h) ?_
      refine wd_skip (i := 18) [] rfl rfl rfl rfl (by kernel_rfl) (by kernel_rfl) (fun _ _ _ h => h) ?_
      refine wd_skip (i := 19) [] rfl rfl rfl rfl (by kernel_rfl) (by kernel_rfl) (fun _ _ _ h => h) ?_
      refine wd_skip (i := 20) [] rfl rfl rfl rfl (by kernel_rfl) (by kernel_rfl) (fun _ _ _ h => h) ?_
      refine wd_skip (i := 21) [] rfl rfl rfl rfl (by kernel_rfl) (by kernel_rfl) (fun _ _ _ h => h) ?_
      refine wd_skip (i := 22) [] rfl rfl rfl rfl (by kernel_rfl) (by kernel_rfl) (fun _ _ _ h => h) ?_
      refine wd_take (i := 23) [] rfl rfl rfl rfl rfl (by kernel_rfl) (by kernel_rfl) (fun _ _ _ _ h => h) (yh_pickT rfl rfl rfl) ?_
      refine wd_done (by kernel_rfl) ?_
      refine ex_seq ?_
      refine cw_true rfl ?_
      refine cw_seq ?_
      refine cw_region ?_
      refine wl_u rfl (ow_y (yh_assign rfl rfl) rfl rfl (kk_wl ?_))
      refine wl_nil ?_
      refine ex_seq ?_
      refine cw_ret ?_
      refine ex_block_ret ?_
      refine ex_then_ret ?_
      refine ex_then_ret ?_
      refine ex_block_ret ?_
      refine ex_then_ret ?_
      obtain rfl := Option.some.inj h
      obtain rfl := go_ret hk5
      exact ex_r1 Tb rfl (.tmp rfl) (fun wq hq => ⟨_, rfl, hq.ext, rfl⟩)
    · skip
      replace h := bf c2 h
      refine wd_take (i := 7) [] rfl rfl rfl rfl rfl (by kernel_rfl) (by kernel_rfl) (fun _ _ _ _ h => h) (yh_move rfl rfl) ?_
      refine wd_take (i := 8) [] rfl rfl rfl rfl rfl (by kernel_rfl) (by kernel_rfl) (fun _ _ _ _ h => h) (yh_cmpI rfl rfl rfl rfl) ?_
      refine wd_take (i := 9) [] rfl rfl rfl rfl rfl (by kernel_rfl) (by kernel_rfl) (fun _ _ _ _ h => h) (yh_move rfl rfl) ?_
      refine wd_split 10 rfl rfl rfl (fun c3 => ?_) (fun c3 => ?_)
      · skip
        replace h := bt c3 h
        have q2 := ltb_true.1 c3
        refine wd_take (i := 10) [] rfl rfl rfl rfl rfl (by kernel_rfl) (by kernel_rfl) (fun _ _ _ _ h => h) (yh_move rfl rfl) ?_
        refine wd_take (i := 11) [] rfl rfl rfl rfl rfl (by kernel_rfl) (by kernel_rfl) (fun _ _ _ _ h => h) (yh_move rfl rfl) ?_
        refine wd_take (i := 12) [] rfl rfl rfl rfl rfl (by kernel_rfl) (by kernel_rfl) (fun _ _ _ _ h => h) (yh_arI rfl rfl rfl rfl (by omega)) ?_
        obtain ⟨y23, zy23, h⟩ := bd h
        obtain ⟨iy23, hy23⟩ := geti_some zy23
        obtain ⟨a23, e23, hc23, hf23⟩ := get_flow h_list_ hy23
        have mx23 := rd_max hf23
        refine wd_take (i := 13) [] rfl rfl rfl rfl rfl (by kernel_rfl) (by kernel_rfl) (fun _ _ _ _ h => h) (yh_idx Tb (k := (((s3 : Nat) : Int) - 1).toNat) rfl rfl rfl iy23 (get_lt hy23) rfl rfl) ?_
        refine wd_take (i := 14) [] rfl rfl rfl rfl rfl (by kernel_rfl) (by kernel_rfl) (fun _ _ _ _ h => h) (yh_field Tb rfl rfl rfl) ?_
        refine wd_take (i := 15) [] rfl rfl rfl rfl rfl (by kernel_rfl) (by kernel_rfl) (fun _ _ _ _ h => h) (yh_loadAF Tb (j := 0) rfl rfl rfl hc23 rfl) ?_
        refine wd_take (i := 16) [] rfl rfl rfl rfl rfl (by kernel_rfl) (by kernel_rfl) (fun _ _ _ _ h => h) (yh_move rfl rfl) ?_
        refine wd_take (i := 17) [] rfl rfl rfl rfl rfl (by kernel_rfl) (by kernel_rfl) (fun _ _ _ _ h => h) (yh_move rfl rfl) ?_
        refine wd_take (i := 18) [] rfl rfl rfl rfl rfl (by kernel_rfl) (by kernel_rfl) (fun _ _ _ _ h => h) (yh_idx Tb (k := s3) rfl rfl rfl rfl (get_lt hy12) rfl rfl) ?_
        refine wd_take (i := 19) [] rfl rfl rfl rfl rfl (by kernel_rfl) (by kernel_rfl) (fun _ _ _ _ h => h) (yh_field Tb rfl rfl rfl) ?_
        refine wd_take (i := 20) [] rfl rfl rfl rfl rfl (by kernel_rfl) (by kernel_rfl) (fun _ _ _ _ h => h) (yh_loadAF Tb (j := 0) rfl rfl rfl hc12 rfl) ?_
        refine wd_take (i := 21) [] rfl rfl rfl rfl rfl (by kernel_rfl) (by kernel_rfl) (fun _ _ _ _ h => h) (yh_cmpI rfl rfl rfl rfl) ?_
        refine wd_take (i := 22) [] rfl rfl rfl rfl rfl (by kernel_rfl) (by kernel_rfl) (fun _ _ _ _ h => h) (yh_pickT rfl rfl rfl) ?_
        refine wd_take (i := 23) [] rfl rfl rfl rfl rfl (by kernel_rfl) (by kernel_rfl) (fun _ _ _ _ h => h) (yh_pickF rfl rfl rfl) ?_
        refine wd_done (by kernel_rfl) ?_
        refine ex_seq ?_
        refine cw_split rfl (fun c4 => ?_) (fun c4 => ?_)
        · skip
          replace h := bt c4 h
          have q3 := leb_true.1 c4
          refine cw_seq ?_
          refine cw_region ?_
          refine wl_u rfl (ow_y (yh_assign rfl rfl) rfl rfl (kk_wl ?_))
          refine wl_nil ?_
          refine ex_seq ?_
          refine cw_ret ?_
          refine ex_block_ret ?_
          refine ex_then_ret ?_
          refine ex_then_ret ?_
          refine ex_block_ret ?_
          refine ex_then_ret ?_
          obtain rfl := Option.some.inj h
          obtain rfl := go_ret hk5
          exact ex_r1 Tb rfl (.tmp rfl) (fun wq hq => ⟨_, rfl, hq.ext, rfl⟩)
        · skip
          replace h := bf c4 h
          have q4 := leb_false.1 c4
          refine cw_skip ?_
          refine ex_block_normal ?_
          refine ex_seq ?_
          refine cw_region ?_
          refine wl_u rfl (ow_y (yh_move rfl rfl) rfl rfl (kk_wl ?_))
          refine wl_u rfl (ow_y (yh_arI rfl rfl rfl rfl (by omega)) rfl rfl (kk_wl ?_))
          refine wl_u rfl (ow_y (yh_assign rfl rfl) rfl rfl (kk_wl ?_))
          refine wl_nil ?_
          exact ex_next [] (hn5 (n5, s3 + 1) (Nat.lt_succ_self _) h) ⟨rfl, rfl, trivial⟩ (by kernel_rfl)
      · skip
        replace h := bf c3 h
        have q5 := ltb_false.1 c3
        refine wd_skip (i := 10) [] rfl rfl rfl rfl (by kernel_rfl) (by kernel_rfl) (fun _ _ _ h => h) ?_
        refine wd_skip (i := 11) [] rfl rfl rfl rfl (by kernel_rfl) (by kernel_rfl) (fun _ _ _ h => h) ?_
        refine wd_skip (i := 12) [] rfl rfl rfl rfl (by kernel_rfl) (by kernel_rfl) (fun _ _ _ h => h) ?_
        refine wd_skip (i := 13) [] rfl rfl rfl rfl (by kernel_rfl) (by kernel_rfl) (fun _ _ _ h => h) ?_
        refine wd_skip (i := 14) [] rfl rfl rfl rfl (by kernel_rfl) (by kernel_rfl) (fun _ _ _ h => h) ?_
        refine wd_skip (i := 15) [] rfl rfl rfl rfl (by kernel_rfl) (by kernel_rfl) (fun _ _ _ h => h) ?_
        refine wd_skip (i := 16) [] rfl rfl rfl rfl (by kernel_rfl) (by kernel_rfl) (fun _ _ _ h => h) ?_
        refine wd_skip (i := 17) [] rfl rfl rfl rfl (by kernel_rfl) (by kernel_rfl) (fun _ _ _ h => h) ?_
        refine wd_skip (i := 18) [] rfl rfl rfl rfl (by kernel_rfl) (by kernel_rfl) (fun _ _ _ h => h) ?_
        refine wd_skip (i := 19) [] rfl rfl rfl rfl (by kernel_rfl) (by kernel_rfl) (fun _ _ _ h => h) ?_
        refine wd_skip (i := 20) [] rfl rfl rfl rfl (by kernel_rfl) (by kernel_rfl) (fun _ _ _ h => h) ?_
        refine wd_skip (i := 21) [] rfl rfl rfl rfl (by kernel_rfl) (by kernel_rfl) (fun _ _ _ h => h) ?_
        refine wd_take (i := 22) [] rfl rfl rfl rfl rfl (by kernel_rfl) (by kernel_rfl) (fun _ _ _ _ h => h) (yh_pickF rfl rfl rfl) ?_
        refine wd_take (i := 23) [] rfl rfl rfl rfl rfl (by kernel_rfl) (by kernel_rfl) (fun _ _ _ _ h => h) (yh_pickF rfl rfl rfl) ?_
        refine wd_done (by kernel_rfl) ?_
        refine ex_seq ?_
        refine cw_false rfl ?_
        refine cw_skip ?_
        refine ex_block_normal ?_
        refine ex_seq ?_
        refine cw_region ?_
        refine wl_u rfl (ow_y (yh_move rfl rfl) rfl rfl (kk_wl ?_))
        refine wl_u rfl (ow_y (yh_arI rfl rfl rfl rfl (by omega)) rfl rfl (kk_wl ?_))
        refine wl_u rfl (ow_y (yh_assign rfl rfl) rfl rfl (kk_wl ?_))
        refine wl_nil ?_
        exact ex_next [] (hn5 (n5, s3 + 1) (Nat.lt_succ_self _) h) ⟨rfl, rfl, trivial⟩ (by kernel_rfl)
  · skip
    replace h := bf c1 h
    have q6 := ltb_false.1 c1
    refine cw_exit ?_
    refine ex_then_exit ?_
    refine ex_then_exit ?_
    obtain rfl := Option.some.inj h
    have h := go_brk hk5
    refine ex_block_exit ?_
    refine ex_seq ?_
    refine cw_seq ?_
    refine cw_region ?_
    refine wl_u rfl (ow_y (yh_move rfl rfl) rfl rfl (kk_wl ?_))
    refine wl_u rfl (ow_y (yh_lenS Tb rfl rfl rfl rfl) rfl rfl (kk_wl ?_))
    refine wl_u rfl (ow_y (yh_cmpI rfl rfl rfl rfl) rfl rfl (kk_wl ?_))
    refine wl_u rfl (ow_y (yh_assign rfl rfl) rfl rfl (kk_wl ?_))
    refine wl_nil ?_
    refine ex_seq ?_
    refine cw_ret ?_
    obtain rfl := Option.some.inj h
    exact ex_r1 Tb rfl (.tmp rfl) (fun wq hq => ⟨_, rfl, hq.ext, rfl⟩)

def m_laws_FnRegPart (N : Nat) (u0 : List UInt8) (u1 : List UInt8) : Option (Bool) := (bif ltb 1048576 ((u0.length : Nat) : Int) then some true
 else (bif ltb 1048576 ((u1.length : Nat) : Int) then some true
 else (m_spec_DrawRegistryValid N u0).bind fun x20 => (m_impl_RegistryValid N x20).bind fun x22 => (m_spec_RegistryValid N x20).bind fun x24 => (bif x22 != x24 then some (x22 == x24)
 else (bif !x22 then some (x22 == x24)
 else (bif eqb ((x20.length : Nat) : Int) 0 then some (x22 == x24)
 else ((slTo x20 ((u1.length % x20.length : Nat) : Int)).bind fun l48 => (slFrom x20 (w64 (((u1.length % x20.length : Nat) : Int) + 1))).bind fun l53 => (appd ([] : List Flow) l48).bind fun l49 => (appd (([] : List Flow) ++ l48) l53).bind fun l54 => some ((([] : List Flow) ++ l48) ++ l53) : Option ((List Flow))).bind fun j115 => ((slTo x20 (w64 (((u1.length % x20.length : Nat) : Int) + 1))).bind fun l59 => (slFrom x20 ((u1.length % x20.length : Nat) : Int)).bind fun l63 => (appd ([] : List Flow) l59).bind fun l60 => (appd (([] : List Flow) ++ l59) l63).bind fun l64 => some ((([] : List Flow) ++ l59) ++ l63) : Option ((List Flow))).bind fun j117 => (m_impl_RegistryValid N j115).bind fun x66 => (bif x66 then (m_impl_RegistryValid N j117).bind fun x69 => some (!x69)
 else some false))))))

set_option maxHeartbeats 4000000 in
theorem c_laws_FnRegPart (N : Nat) (u0 : List UInt8) (u1 : List UInt8) (res : Bool) (h : m_laws_FnRegPart N u0 u1 = some res) (w : World) {a_u0 a_u1 : Option Addr} {c_u0 c_u1 : Nat} (h_u0 : bytesL.rd w [] [.slice a_u0 u0.length c_u0] u0) (h_u1 : bytesL.rd w [] [.slice a_u1 u1.length c_u1] u1) : Ret Try.prog 3 [.slice a_u0 u0.length c_u0, .slice a_u1 u1.length c_u1] w [] fun v w' => v = .bool res := by
  have mh_u0 := rd_max h_u0
  have mh_u1 := rd_max h_u1
  unfold m_laws_FnRegPart at h
  refine ret_enter Try.func3 rfl Try.ntmps3 rfl (Hp.refl w _) ?_
  refine cw_seq ?_
  refine cw_region ?_
  refine wl_u rfl (ow_y (yh_assign rfl rfl) rfl rfl (kk_wl ?_))
  refine wl_nil ?_
  refine ex_seq ?_
  refine cw_seq ?_
  refine cw_seq ?_
  refine cw_region ?_
  refine wl_u rfl (ow_y (yh_move rfl rfl) rfl rfl (kk_wl ?_))
  refine wl_u rfl (ow_y (yh_lenS Tb rfl rfl rfl rfl) rfl rfl (kk_wl ?_))
  refine wl_u rfl (ow_y (yh_cmpI rfl rfl rfl rfl) rfl rfl (kk_wl ?_))
  refine wl_u rfl (ow_y (yh_move rfl rfl) rfl rfl (kk_wl ?_))
  refine wl_s rfl rfl (fun c1 => ?_) (fun c1 => ?_)
  · skip
    replace h := bt c1 h
    have q1 := ltb_true.1 c1
    refine wl_n rfl rfl rfl rfl ?_
    refine wl_n rfl rfl rfl rfl ?_
    refine wl_n rfl rfl rfl rfl ?_
    refine wl_u rfl (ow_y (yh_pickT rfl rfl rfl) rfl rfl (kk_wl ?_))
    refine wl_nil ?_
    refine ex_seq ?_
    refine cw_true rfl ?_
    refine cw_seq ?_
    refine cw_region ?_
    refine wl_u rfl (ow_y (yh_assign rfl rfl) rfl rfl (kk_wl ?_))
    refine wl_nil ?_
    refine ex_seq ?_
    refine cw_ret ?_
    refine ex_then_ret ?_
    obtain rfl := Option.some.inj h
    exact ex_r1 Tb rfl (.tmp rfl) (fun wq hq => ⟨_, rfl, hq.ext, rfl⟩)
  · skip
    replace h := bf c1 h
    have q2 := ltb_false.1 c1
    refine wl_g rfl rfl (ow_y (yh_move rfl rfl) rfl rfl (kk_wl ?_))
    refine wl_g rfl rfl (ow_y (yh_lenS Tb rfl rfl rfl rfl) rfl rfl (kk_wl ?_))
    refine wl_g rfl rfl (ow_y (yh_cmpI rfl rfl rfl rfl) rfl rfl (kk_wl ?_))
    refine wl_u rfl (ow_y (yh_pickF rfl rfl rfl) rfl rfl (kk_wl ?_))
    refine wl_nil ?_
    refine ex_seq ?_
    refine cw_split rfl (fun c2 => ?_) (fun c2 => ?_)
    · skip
      replace h := bt c2 h
      have q3 := ltb_true.1 c2
      refine cw_seq ?_
      refine cw_region ?_
      refine wl_u rfl (ow_y (yh_assign rfl rfl) rfl rfl (kk_wl ?_))
      refine wl_nil ?_
      refine ex_seq ?_
      refine cw_ret ?_
      refine ex_then_ret ?_
      obtain rfl := Option.some.inj h
      exact ex_r1 Tb rfl (.tmp rfl) (fun wq hq => ⟨_, rfl, hq.ext, rfl⟩)
    · skip
      replace h := bf c2 h
      have q4 := ltb_false.1 c2
      refine cw_skip ?_
      refine ex_seq ?_
      refine cw_seq ?_
      refine cw_region ?_
      refine wl_u rfl (ow_y (yh_move rfl rfl) rfl rfl (kk_wl ?_))
      obtain ⟨x20, hx20, h⟩ := bd h
      refine wl_u rfl (ow_cN1 rfl hb11 rfl (fun w hw => c_spec_DrawRegistryValid N _ _ hx20 w (Lay.at_ h_u0 hw)) rfl rfl (fun a20 c20 F20 => kk_wl ?_))
      refine wl_u rfl (ow_y (yh_assign rfl rfl) rfl rfl (kk_wl ?_))
      refine wl_nil ?_
      refine ex_seq ?_
      refine cw_seq ?_
      refine cw_freeze 0 rfl (fun w1 M1 hb1_ hz1 => ?_)
      replace h_u0 := Lay.rb h_u0 hb1_
      replace h_u1 := Lay.rb h_u1 hb1_
      have hB1 := hb1_
      have mz1 := rd_max hz1
      refine cw_region ?_
      refine wl_u rfl (ow_y (yh_move rfl rfl) rfl rfl (kk_wl ?_))
      obtain ⟨x22, hx22, h⟩ := bd h
      refine wl_u rfl (ow_cV rfl hb12 rfl (fun w hw => c_impl_RegistryValid N _ _ hx22 w (Lay.at_ hz1 hw)) rfl rfl (kk_wl ?_))
      refine wl_u rfl (ow_y (yh_assign rfl rfl) rfl rfl (kk_wl ?_))
      refine wl_nil ?_
      refine ex_seq ?_
      refine cw_seq ?_
      refine cw_region ?_
      refine wl_u rfl (ow_y (yh_move rfl rfl) rfl rfl (kk_wl ?_))
      obtain ⟨x24, hx24, h⟩ := bd h
      refine wl_u rfl (ow_cV rfl hb13 rfl (fun w hw => c_spec_RegistryValid N _ _ hx24 w (Lay.at_ hz1 hw)) rfl rfl (kk_wl ?_))
      refine wl_u rfl (ow_y (yh_assign rfl rfl) rfl rfl (kk_wl ?_))
      refine wl_nil ?_
      refine ex_seq ?_
      refine cw_seq ?_
      refine cw_seq ?_
      refine cw_region ?_
      refine wl_u rfl (ow_y (yh_move rfl rfl) rfl rfl (kk_wl ?_))
      refine wl_u rfl (ow_y (yh_move rfl rfl) rfl rfl (kk_wl ?_))
      refine wl_u rfl (ow_y (yh_cmpB rfl rfl rfl rfl (by kernel_rfl)) rfl rfl (kk_wl ?_))
      refine wl_u rfl (ow_y (yh_move rfl rfl) rfl rfl (kk_wl ?_))
      refine wl_s rfl rfl (fun c3 => ?_) (fun c3 => ?_)
      · skip
        replace h := bt c3 h
        refine wl_n rfl rfl rfl rfl ?_
        refine wl_n rfl rfl rfl rfl ?_
        refine wl_u rfl (ow_y (yh_pickT rfl rfl rfl) rfl rfl (kk_wl ?_))
        refine wl_u rfl (ow_y (yh_move rfl rfl) rfl rfl (kk_wl ?_))
        refine wl_s rfl rfl (fun _ => ?_) nofun
        refine wl_n rfl rfl rfl rfl ?_
        refine wl_n rfl rfl rfl rfl ?_
        refine wl_n rfl rfl rfl rfl ?_
        refine wl_u rfl (ow_y (yh_pickT rfl rfl rfl) rfl rfl (kk_wl ?_))
        refine wl_nil ?_
        refine ex_seq ?_
        refine cw_true rfl ?_
        refine cw_seq ?_
        refine cw_region ?_
        refine wl_u rfl (ow_y (yh_move rfl rfl) rfl rfl (kk_wl ?_))
        refine wl_u rfl (ow_y (yh_move rfl rfl) rfl rfl (kk_wl ?_))
        refine wl_u rfl (ow_y (yh_cmpB rfl rfl rfl rfl (by kernel_rfl)) rfl rfl (kk_wl ?_))
        refine wl_u rfl (ow_y (yh_assign rfl rfl) rfl rfl (kk_wl ?_))
        refine wl_nil ?_
        refine ex_seq ?_
        refine cw_ret ?_
        refine ex_then_ret ?_
        obtain rfl := Option.some.inj h
        exact ex_r1 Tb rfl (.tmp rfl) (fun wq hq => ⟨_, rfl, (hB1.back hq).ext, rfl⟩)
      · skip
        replace h := bf c3 h
        refine wl_g rfl rfl (ow_y (yh_move rfl rfl) rfl rfl (kk_wl ?_))
        refine wl_g rfl rfl (ow_y (yh_not rfl rfl) rfl rfl (kk_wl ?_))
        refine wl_u rfl (ow_y (yh_pickF rfl rfl rfl) rfl rfl (kk_wl ?_))
        refine wl_u rfl (ow_y (yh_move rfl rfl) rfl rfl (kk_wl ?_))
        refine wl_s rfl rfl (fun c4 => ?_) (fun c4 => ?_)
        · skip
          replace h := bt c4 h
          refine wl_n rfl rfl rfl rfl ?_
          refine wl_n rfl rfl rfl rfl ?_
          refine wl_n rfl rfl rfl rfl ?_
          refine wl_u rfl (ow_y (yh_pickT rfl rfl rfl) rfl rfl (kk_wl ?_))
          refine wl_nil ?_
          refine ex_seq ?_
          refine cw_true rfl ?_
          refine cw_seq ?_
          refine cw_region ?_
          refine wl_u rfl (ow_y (yh_move rfl rfl) rfl rfl (kk_wl ?_))
          refine wl_u rfl (ow_y (yh_move rfl rfl) rfl rfl (kk_wl ?_))
          refine wl_u rfl (ow_y (yh_cmpB rfl rfl rfl rfl (by kernel_rfl)) rfl rfl (kk_wl ?_))
          refine wl_u rfl (ow_y (yh_assign rfl rfl) rfl rfl (kk_wl ?_))
          refine wl_nil ?_
          refine ex_seq ?_
          refine cw_ret ?_
          refine ex_then_ret ?_
          obtain rfl := Option.some.inj h
          exact ex_r1 Tb rfl (.tmp rfl) (fun wq hq => ⟨_, rfl, (hB1.back hq).ext, rfl⟩)
        · skip
          replace h := bf c4 h
          refine wl_g rfl rfl (ow_y (yh_move rfl rfl) rfl rfl (kk_wl ?_))
          refine wl_g rfl rfl (ow_y (yh_lenS Tb rfl rfl rfl rfl) rfl rfl (kk_wl ?_))
          refine wl_g rfl rfl (ow_y (yh_cmpI rfl rfl rfl rfl) rfl rfl (kk_wl ?_))
          refine wl_u rfl (ow_y (yh_pickF rfl rfl rfl) rfl rfl (kk_wl ?_))
          refine wl_nil ?_
          refine ex_seq ?_
          refine cw_split rfl (fun c5 => ?_) (fun c5 => ?_)
          · skip
            replace h := bt c5 h
            have q5 := eqb_true.1 c5
            refine cw_seq ?_
            refine cw_region ?_
            refine wl_u rfl (ow_y (yh_move rfl rfl) rfl rfl (kk_wl ?_))
            refine wl_u rfl (ow_y (yh_move rfl rfl) rfl rfl (kk_wl ?_))
            refine wl_u rfl (ow_y (yh_cmpB rfl rfl rfl rfl (by kernel_rfl)) rfl rfl (kk_wl ?_))
            refine wl_u rfl (ow_y (yh_assign rfl rfl) rfl rfl (kk_wl ?_))
            refine wl_nil ?_
            refine ex_seq ?_
            refine cw_ret ?_
            refine ex_then_ret ?_
            obtain rfl := Option.some.inj h
            exact ex_r1 Tb rfl (.tmp rfl) (fun wq hq => ⟨_, rfl, (hB1.back hq).ext, rfl⟩)
          · skip
            replace h := bf c5 h
            have q6 := eqb_false.1 c5
            refine cw_skip ?_
            refine ex_seq ?_
            refine cw_seq ?_
            refine cw_region ?_
            refine wl_u rfl (ow_y (yh_move rfl rfl) rfl rfl (kk_wl ?_))
            refine wl_u rfl (ow_y (yh_lenS Tb rfl rfl rfl rfl) rfl rfl (kk_wl ?_))
            refine wl_u rfl (ow_y (yh_move rfl rfl) rfl rfl (kk_wl ?_))
            refine wl_u rfl (ow_y (yh_lenS Tb rfl rfl rfl rfl) rfl rfl (kk_wl ?_))
            refine wl_u rfl (ow_y (yh_rem u1.length x20.length rfl rfl rfl rfl rfl (by omega)) rfl rfl (kk_wl ?_))
            refine wl_u rfl (ow_y (yh_assign rfl rfl) rfl rfl (kk_wl ?_))
            refine wl_nil ?_
            refine ex_seq ?_
            obtain ⟨j115, he115, hk115⟩ := bd h
            clear h
            refine cw_cut (σ := (Option Addr) × Nat × (List Nat)) (fun s => True) (fun s => [(5, .slice a20 x20.length c20), (8, .int .i64 ((u1.length % x20.length : Nat) : Int)), (9, .slice s.1 j115.length s.2.1)]) (fun s => [owC (sl 36 (froz w1 M1 flowL)) s.2.2 [.slice s.1 j115.length s.2.1] j115]) (fun s hI => ?_) (fun KL hn115 => ?_)
            · skip
              obtain ⟨ak115_9, ck115_9, Fk115_9⟩ := s
              simp only at ⊢
              have h := hk115
              obtain ⟨j117, he117, hk117⟩ := bd h
              clear h
              refine cw_cut (σ := (Option Addr) × Nat × (List Nat)) (fun s => True) (fun s => [(9, .slice ak115_9 j115.length ck115_9), (10, .slice s.1 j117.length s.2.1)]) (fun s => [owC (sl 36 (froz w1 M1 flowL)) Fk115_9 [.slice ak115_9 j115.length ck115_9] j115, owC (sl 36 (froz w1 M1 flowL)) s.2.2 [.slice s.1 j117.length s.2.1] j117]) (fun s hI => ?_) (fun KL hn117 => ?_)
              · skip
                obtain ⟨ak117_10, ck117_10, Fk117_10⟩ := s
                simp only at ⊢
                have h := hk117
                refine cw_seq ?_
                refine cw_region ?_
                refine wl_u rfl (ow_y (yh_move rfl rfl) rfl rfl (kk_wl ?_))
                obtain ⟨x66, hx66, h⟩ := bd h
                refine wl_u rfl (ow_cV rfl hb12 rfl (fun w hw => c_impl_RegistryValid N _ _ hx66 w (rdz (A := flowL) 0 rfl hw)) rfl rfl (kk_wl ?_))
                refine wl_u rfl (ow_y (yh_move rfl rfl) rfl rfl (kk_wl ?_))
                refine wl_s rfl rfl (fun c6 => ?_) (fun c6 => ?_)
                · skip
                  replace h := bt c6 h
                  refine wl_g rfl rfl (ow_y (yh_move rfl rfl) rfl rfl (kk_wl ?_))
                  obtain ⟨x69, hx69, h⟩ := bd h
                  refine wl_g rfl rfl (ow_cV rfl hb12 rfl (fun w hw => c_impl_RegistryValid N _ _ hx69 w (rdz (A := flowL) 1 rfl hw)) rfl rfl (kk_wl ?_))
                  refine wl_g rfl rfl (ow_y (yh_not rfl rfl) rfl rfl (kk_wl ?_))
                  refine wl_u rfl (ow_y (yh_pickT rfl rfl rfl) rfl rfl (kk_wl ?_))
                  refine wl_u rfl (ow_y (yh_assign rfl rfl) rfl rfl (kk_wl ?_))
                  refine wl_nil ?_
                  refine ex_seq ?_
                  refine cw_ret ?_
                  obtain rfl := Option.some.inj h
                  exact ex_r1 Tb rfl (.tmp rfl) (fun wq hq => ⟨_, rfl, (hB1.back hq).ext, rfl⟩)
                · skip
                  replace h := bf c6 h
                  refine wl_n rfl rfl rfl rfl ?_
                  refine wl_n rfl rfl rfl rfl ?_
                  refine wl_n rfl rfl rfl rfl ?_
                  refine wl_u rfl (ow_y (yh_pickF rfl rfl rfl) rfl rfl (kk_wl ?_))
                  refine wl_u rfl (ow_y (yh_assign rfl rfl) rfl rfl (kk_wl ?_))
                  refine wl_nil ?_
                  refine ex_seq ?_
                  refine cw_ret ?_
                  obtain rfl := Option.some.inj h
                  exact ex_r1 Tb rfl (.tmp rfl) (fun wq hq => ⟨_, rfl, (hB1.back hq).ext, rfl⟩)
              · skip
                have h := he117
                refine cw_dr [1, 2, 3, 4, 6, 7, 8] [9, 10] [owC (sl 36 (froz w1 M1 flowL)) Fk115_9 [.slice ak115_9 j115.length ck115_9] j115] (by kernel_rfl) ?_
                refine wd_take (i := 1) [0] rfl rfl rfl rfl rfl (by kernel_rfl) (by kernel_rfl) (fun _ _ _ _ h => h) (yh_move rfl rfl) ?_
                refine wd_take (i := 2) [0] rfl rfl rfl rfl rfl (by kernel_rfl) (by kernel_rfl) (fun _ _ _ _ h => h) (yh_move rfl rfl) ?_
                refine wd_take (i := 3) [0] rfl rfl rfl rfl rfl (by kernel_rfl) (by kernel_rfl) (fun _ _ _ _ h => h) (yh_arW rfl rfl rfl rfl) ?_
                obtain ⟨l59, zl59, h⟩ := bd h
                obtain ⟨il59, jl59⟩ := slTo_K zl59
                have hf59 := sl_takeK hz1 zl59
                have mx59 := rd_max hf59
                refine wd_take (i := 4) [0] rfl rfl rfl rfl rfl (by kernel_rfl) (by kernel_rfl) (fun _ _ _ _ h => h) (yh_sliceH Tb (k := l59.length) rfl rfl rfl il59 (Nat.le_trans jl59 (rd_cap hz1)) rfl rfl) ?_
                refine wd_take (i := 6) [0] rfl rfl rfl rfl rfl (by kernel_rfl) (by kernel_rfl) (fun _ _ _ _ h => h) (yh_move rfl rfl) ?_
                refine wd_take (i := 7) [0] rfl rfl rfl rfl rfl (by kernel_rfl) (by kernel_rfl) (fun _ _ _ _ h => h) (yh_move rfl rfl) ?_
                obtain ⟨l63, zl63, h⟩ := bd h
                obtain ⟨a63, e63, va63, ve63, il63, hf63⟩ := sl_dropK hz1 zl63
                have mx63 := rd_max hf63
                refine wd_take (i := 8) [0] rfl rfl rfl rfl rfl (by kernel_rfl) (by kernel_rfl) (fun _ _ _ _ h => h) (yh_sliceLK Tb zl63 va63 ve63 rfl rfl rfl il63 rfl rfl) ?_
                refine wd_one 0 rfl rfl (by kernel_rfl) (ow_lit0 Tb rfl rfl rfl rfl rfl rfl (fun g55 => kk_chg (c' := owC flowsL [g55] [.slice (some ⟨g55, 0, none⟩) 0 0] ([] : List Flow)) 0 rfl (fun w hA => own_flowsL ([] : List Flow) hA rfl (by simp [maxLen])) rfl (kk_wd [1] (by kernel_rfl) ?_)))
                obtain ⟨hll60, h⟩ := bd_appd h
                refine wd_one 5 rfl rfl (by kernel_rfl) (ow_chg (c' := owC (sl 36 (froz w1 M1 flowL)) [g55] [.slice (some ⟨g55, 0, none⟩) 0 0] ([] : List Flow)) 0 rfl (fun w hA => froz_nil hA) rfl (ow_appF Tb 0 rfl rfl rfl rfl rfl hf59 rfl rfl rfl rfl hll60 (by decide) rfl rfl (fun a60 c60 F60 => kk_wd [1] (by kernel_rfl) ?_)))
                obtain ⟨hll64, h⟩ := bd_appd h
                refine wd_one 9 rfl rfl (by kernel_rfl) (ow_appF Tb 0 rfl rfl rfl rfl rfl hf63 rfl rfl rfl rfl hll64 (by decide) rfl rfl (fun a64 c64 F64 => kk_wdT rfl ?_))
                refine wd_one 10 rfl rfl (by kernel_rfl) (ow_y (yh_assign rfl rfl) rfl rfl (kk_wdT rfl ?_))
                refine wd_done (by kernel_rfl) ?_
                obtain rfl := Option.some.inj h
                exact ex_next [1, 0] (hn117 (a64, c64, F64) trivial) ⟨rfl, rfl, trivial⟩ (by kernel_rfl)
            · skip
              have h := he115
              refine cw_dr [1, 2, 3, 5, 6, 7, 8] [9, 10] [] (by kernel_rfl) ?_
              refine wd_take (i := 1) [] rfl rfl rfl rfl rfl (by kernel_rfl) (by kernel_rfl) (fun _ _ _ _ h => h) (yh_move rfl rfl) ?_
              refine wd_take (i := 2) [] rfl rfl rfl rfl rfl (by kernel_rfl) (by kernel_rfl) (fun _ _ _ _ h => h) (yh_move rfl rfl) ?_
              obtain ⟨l48, zl48, h⟩ := bd h
              obtain ⟨il48, jl48⟩ := slTo_K zl48
              have hf48 := sl_takeK hz1 zl48
              have mx48 := rd_max hf48
              refine wd_take (i := 3) [] rfl rfl rfl rfl rfl (by kernel_rfl) (by kernel_rfl) (fun _ _ _ _ h => h) (yh_sliceH Tb (k := l48.length) rfl rfl rfl il48 (Nat.le_trans jl48 (rd_cap hz1)) rfl rfl) ?_
              refine wd_take (i := 5) [] rfl rfl rfl rfl rfl (by kernel_rfl) (by kernel_rfl) (fun _ _ _ _ h => h) (yh_move rfl rfl) ?_
              refine wd_take (i := 6) [] rfl rfl rfl rfl rfl (by kernel_rfl) (by kernel_rfl) (fun _ _ _ _ h => h) (yh_move rfl rfl) ?_
              refine wd_take (i := 7) [] rfl rfl rfl rfl rfl (by kernel_rfl) (by kernel_rfl) (fun _ _ _ _ h => h) (yh_arW rfl rfl rfl rfl) ?_
              obtain ⟨l53, zl53, h⟩ := bd h
              obtain ⟨a53, e53, va53, ve53, il53, hf53⟩ := sl_dropK hz1 zl53
              have mx53 := rd_max hf53
              refine wd_take (i := 8) [] rfl rfl rfl rfl rfl (by kernel_rfl) (by kernel_rfl) (fun _ _ _ _ h => h) (yh_sliceLK Tb zl53 va53 ve53 rfl rfl rfl il53 rfl rfl) ?_
              refine wd_one 0 rfl rfl (by kernel_rfl) (ow_lit0 Tb rfl rfl rfl rfl rfl rfl (fun g45 => kk_chg (c' := owC flowsL [g45] [.slice (some ⟨g45, 0, none⟩) 0 0] ([] : List Flow)) 0 rfl (fun w hA => own_flowsL ([] : List Flow) hA rfl (by simp [maxLen])) rfl (kk_wd [] (by kernel_rfl) ?_)))
              obtain ⟨hll49, h⟩ := bd_appd h
              refine wd_one 4 rfl rfl (by kernel_rfl) (ow_chg (c' := owC (sl 36 (froz w1 M1 flowL)) [g45] [.slice (some ⟨g45, 0, none⟩) 0 0] ([] : List Flow)) 0 rfl (fun w hA => froz_nil hA) rfl (ow_appF Tb 0 rfl rfl rfl rfl rfl hf48 rfl rfl rfl rfl hll49 (by decide) rfl rfl (fun a49 c49 F49 => kk_wd [] (by kernel_rfl) ?_)))
              obtain ⟨hll54, h⟩ := bd_appd h
              refine wd_one 9 rfl rfl (by kernel_rfl) (ow_appF Tb 0 rfl rfl rfl rfl rfl hf53 rfl rfl rfl rfl hll54 (by decide) rfl rfl (fun a54 c54 F54 => kk_wdT rfl ?_))
              refine wd_one 10 rfl rfl (by kernel_rfl) (ow_y (yh_assign rfl rfl) rfl rfl (kk_wdT rfl ?_))
              refine wd_done (by kernel_rfl) ?_
              obtain rfl := Option.some.inj h
              exact ex_next [0] (hn115 (a54, c54, F54) trivial) ⟨rfl, rfl, rfl, trivial⟩ (by kernel_rfl)

end Go.Proofs.Ythmifmpllgofkaa
