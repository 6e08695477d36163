/- Mirrors and contracts, printed by a program: what each function computes as a plain term, and that it does. -/
import Derived.Test.YthmifmpllgofkaaR
import Derived.Test.YthmifmpllgofkaaH
import Derived.Test.YthmifmpllgofkaaWX0
set_option linter.all false
set_option maxRecDepth 100000
namespace Go.Proofs.Ythmifmpllgofkaa
open Go.RowKit

def m_impl_namesAscend_L4 (N : Nat) (list_ : List Str) : Nat → Nat → Option (Ex (Nat) (Bool))
  | 0, _ => none
  | n + 1, s7 => (bif ltb ((s7 : Nat) : Int) ((list_.length : Nat) : Int) then (list_[s7]?).bind fun y10 => (m_impl_NameValid N y10).bind fun x13 => (bif !x13 then some (Ex.ret false)
 else (bif ltb 0 ((s7 : Nat) : Int) then (geti list_ (((s7 : Nat) : Int) - 1)).bind fun y23 => (bif (slt y10 y23) || (seq y10 y23) then some (Ex.ret false)
 else m_impl_namesAscend_L4 N list_ n (s7 + 1))
 else m_impl_namesAscend_L4 N list_ n (s7 + 1)))
 else some (Ex.brk (s7)))

def m_impl_namesAscend (N : Nat) (list_ : List Str) : Option (Bool) := (m_impl_namesAscend_L4 N list_ N 0).bind fun e4 => e4.go (fun r => r) fun b4 => some true

set_option maxHeartbeats 4000000 in
theorem c_impl_namesAscend (N : Nat) (list_ : List Str) (res : Bool) (h : m_impl_namesAscend N list_ = some res) (w : World) {a_list_ : Option Addr} {c_list_ : Nat} (h_list_ : strsL.rd w [] [.slice a_list_ list_.length c_list_] list_) : Ret Try.prog 75 [.slice a_list_ list_.length c_list_] w [] fun v w' => v = .bool res := by
  have mh_list_ := rd_max h_list_
  unfold m_impl_namesAscend at h
  refine ret_enter Try.func75 rfl Try.ntmps75 rfl (Hp.refl w _) ?_
  refine cw_seq ?_
  refine cw_region ?_
  refine wl_u rfl (ow_y (yh_assign rfl rfl) rfl rfl (kk_wl ?_))
  refine wl_nil ?_
  refine ex_seq ?_
  refine cw_seq ?_
  refine cw_seq ?_
  refine cw_region ?_
  refine wl_u rfl (ow_y (yh_move rfl rfl) rfl rfl (kk_wl ?_))
  refine wl_u rfl (ow_y (yh_lenS Tb rfl rfl rfl rfl) rfl rfl (kk_wl ?_))
  refine wl_u rfl (ow_y (yh_move rfl rfl) rfl rfl (kk_wl ?_))
  refine wl_nil ?_
  refine ex_seq ?_
  refine cw_block ?_
  obtain ⟨e4, he4, hk4⟩ := bd h
  clear h
  refine cw_loopG (σ := Nat × Nat) (fun s => m_impl_namesAscend_L4 N list_ s.1 s.2 = some e4) (fun s => [(0, .slice a_list_ list_.length c_list_), (5, .slice a_list_ list_.length c_list_), (6, .int .i64 ((list_.length : Nat) : Int)), (7, .int .i64 ((s.2 : Nat) : Int))]) (fun s => []) (fun s => s.1) (N, 0) [] he4 ⟨rfl, rfl, rfl, rfl, trivial⟩ rfl (fun KL s he4 hn4 => ?_)
  obtain ⟨n4, s7⟩ := s
  simp only at he4 hn4 ⊢
  rcases n4 with _ | n4
  · exact nosome he4
  have h := he4; rw [m_impl_namesAscend_L4] at h
  refine cw_seq ?_
  refine cw_region ?_
  refine wl_u rfl (ow_y (yh_cmpI rfl rfl rfl rfl) rfl rfl (kk_wl ?_))
  refine wl_nil ?_
  refine ex_seq ?_
  refine cw_seq ?_
  refine cw_split rfl (fun c1 => ?_) (fun c1 => ?_)
  · skip
    replace h := bt c1 h
    have q1 := ltb_true.1 c1
    refine cw_skip ?_
    refine ex_seq ?_
    refine cw_seq ?_
    refine cw_block ?_
    refine cw_seq ?_
    refine cw_region ?_
    refine wl_u rfl (ow_y (yh_move rfl rfl) rfl rfl (kk_wl ?_))
    obtain ⟨y10, hy10, h⟩ := bd h
    obtain ⟨b10, o10, ha10⟩ := sl_addr h_list_ hy10
    subst ha10
    have hc10 := get_str h_list_ hy10
    refine wl_u rfl (ow_y (yh_idx Tb (k := s7) rfl rfl rfl rfl (get_lt hy10) rfl rfl) rfl rfl (kk_wl ?_))
    refine wl_u rfl (ow_y (yh_loadA0 Tb rfl rfl rfl hc10 rfl) rfl rfl (kk_wl ?_))
    refine wl_u rfl (ow_y (yh_assign rfl rfl) rfl rfl (kk_wl ?_))
    refine wl_u rfl (ow_y (yh_assign rfl rfl) rfl rfl (kk_wl ?_))
    refine wl_nil ?_
    refine ex_seq ?_
    refine cw_seq ?_
    refine cw_region ?_
    refine wl_u rfl (ow_y (yh_move rfl rfl) rfl rfl (kk_wl ?_))
    obtain ⟨x13, hx13, h⟩ := bd h
    refine wl_u rfl (ow_cV rfl hb93 rfl (fun w hw => c_impl_NameValid N _ _ hx13 w) rfl rfl (kk_wl ?_))
    refine wl_u rfl (ow_y (yh_not rfl rfl) rfl rfl (kk_wl ?_))
    refine wl_u rfl (ow_y (yh_move rfl rfl) rfl rfl (kk_wl ?_))
    refine wl_s rfl rfl (fun c2 => ?_) (fun c2 => ?_)
    · skip
      replace h := bt c2 h
      refine wl_n rfl rfl rfl rfl ?_
      refine wl_n rfl rfl rfl rfl ?_
      refine wl_n rfl rfl rfl rfl ?_
      refine wl_n rfl rfl rfl rfl ?_
      refine wl_n rfl rfl rfl rfl ?_
      refine wl_n rfl rfl rfl rfl ?_
      refine wl_n rfl rfl rfl rfl ?_
      refine wl_n rfl rfl rfl rfl ?_
      refine wl_n rfl rfl rfl rfl ?_
      refine wl_n rfl rfl rfl rfl ?_
      refine wl_n rfl rfl rfl rfl ?_
      refine wl_u rfl (ow_y (yh_pickT rfl rfl rfl) rfl rfl (kk_wl ?_))
      refine wl_nil ?_
      refine ex_seq ?_
      refine cw_true rfl ?_
      refine cw_seq ?_
      refine cw_region ?_
      refine wl_u rfl (ow_y (yh_assign rfl rfl) rfl rfl (kk_wl ?_))
      refine wl_nil ?_
      refine ex_seq ?_
      refine cw_ret ?_
      refine ex_block_ret ?_
      refine ex_then_ret ?_
      refine ex_then_ret ?_
      refine ex_block_ret ?_
      refine ex_then_ret ?_
      obtain rfl := Option.some.inj h
      obtain rfl := go_ret hk4
      exact ex_r1 Tb rfl (.tmp rfl) (fun wq hq => ⟨_, rfl, hq.ext, rfl⟩)
    · skip
      replace h := bf c2 h
      refine wl_g rfl rfl (ow_y (yh_move rfl rfl) rfl rfl (kk_wl ?_))
      refine wl_g rfl rfl (ow_y (yh_cmpI rfl rfl rfl rfl) rfl rfl (kk_wl ?_))
      refine wl_g rfl rfl (ow_y (yh_move rfl rfl) rfl rfl (kk_wl ?_))
      refine wl_s rfl rfl (fun c3 => ?_) (fun c3 => ?_)
      · skip
        replace h := bt c3 h
        have q2 := ltb_true.1 c3
        refine wl_g rfl rfl (ow_y (yh_move rfl rfl) rfl rfl (kk_wl ?_))
        refine wl_g rfl rfl (ow_y (yh_move rfl rfl) rfl rfl (kk_wl ?_))
        refine wl_g rfl rfl (ow_y (yh_move rfl rfl) rfl rfl (kk_wl ?_))
        refine wl_g rfl rfl (ow_y (yh_arI rfl rfl rfl rfl (by omega)) rfl rfl (kk_wl ?_))
        obtain ⟨y23, zy23, h⟩ := bd h
        obtain ⟨iy23, hy23⟩ := geti_some zy23
        have hc23 := get_str h_list_ hy23
        refine wl_g rfl rfl (ow_y (yh_idx Tb (k := (((s7 : Nat) : Int) - 1).toNat) rfl rfl rfl iy23 (get_lt hy23) rfl rfl) rfl rfl (kk_wl ?_))
        refine wl_g rfl rfl (ow_y (yh_loadA0 Tb rfl rfl rfl hc23 rfl) rfl rfl (kk_wl ?_))
        refine wl_g rfl rfl (ow_y (yh_cmpS rfl rfl rfl rfl) rfl rfl (kk_wl ?_))
        refine wl_g rfl rfl (ow_y (yh_pickT rfl rfl rfl) rfl rfl (kk_wl ?_))
        refine wl_u rfl (ow_y (yh_pickF rfl rfl rfl) rfl rfl (kk_wl ?_))
        refine wl_nil ?_
        refine ex_seq ?_
        refine cw_split rfl (fun c4 => ?_) (fun c4 => ?_)
        · skip
          replace h := bt c4 h
          refine cw_seq ?_
          refine cw_region ?_
          refine wl_u rfl (ow_y (yh_assign rfl rfl) rfl rfl (kk_wl ?_))
          refine wl_nil ?_
          refine ex_seq ?_
          refine cw_ret ?_
          refine ex_block_ret ?_
          refine ex_then_ret ?_
          refine ex_then_ret ?_
          refine ex_block_ret ?_
          refine ex_then_ret ?_
          obtain rfl := Option.some.inj h
          obtain rfl := go_ret hk4
          exact ex_r1 Tb rfl (.tmp rfl) (fun wq hq => ⟨_, rfl, hq.ext, rfl⟩)
        · skip
          replace h := bf c4 h
          refine cw_skip ?_
          refine ex_block_normal ?_
          refine ex_seq ?_
          refine cw_region ?_
          refine wl_u rfl (ow_y (yh_arI rfl rfl rfl rfl (by omega)) rfl rfl (kk_wl ?_))
          refine wl_u rfl (ow_y (yh_move rfl rfl) rfl rfl (kk_wl ?_))
          refine wl_nil ?_
          exact ex_next [] (hn4 (n4, s7 + 1) (Nat.lt_succ_self _) h) ⟨rfl, rfl, rfl, rfl, trivial⟩ (by kernel_rfl)
      · skip
        replace h := bf c3 h
        have q3 := ltb_false.1 c3
        refine wl_n rfl rfl rfl rfl ?_
        refine wl_n rfl rfl rfl rfl ?_
        refine wl_n rfl rfl rfl rfl ?_
        refine wl_n rfl rfl rfl rfl ?_
        refine wl_n rfl rfl rfl rfl ?_
        refine wl_n rfl rfl rfl rfl ?_
        refine wl_n rfl rfl rfl rfl ?_
        refine wl_g rfl rfl (ow_y (yh_pickF rfl rfl rfl) rfl rfl (kk_wl ?_))
        refine wl_u rfl (ow_y (yh_pickF rfl rfl rfl) rfl rfl (kk_wl ?_))
        refine wl_nil ?_
        refine ex_seq ?_
        refine cw_false rfl ?_
        refine cw_skip ?_
        refine ex_block_normal ?_
        refine ex_seq ?_
        refine cw_region ?_
        refine wl_u rfl (ow_y (yh_arI rfl rfl rfl rfl (by omega)) rfl rfl (kk_wl ?_))
        refine wl_u rfl (ow_y (yh_move rfl rfl) rfl rfl (kk_wl ?_))
        refine wl_nil ?_
        exact ex_next [] (hn4 (n4, s7 + 1) (Nat.lt_succ_self _) h) ⟨rfl, rfl, rfl, rfl, trivial⟩ (by kernel_rfl)
  · skip
    replace h := bf c1 h
    have q4 := ltb_false.1 c1
    refine cw_exit ?_
    refine ex_then_exit ?_
    refine ex_then_exit ?_
    obtain rfl := Option.some.inj h
    have h := go_brk hk4
    refine ex_block_exit ?_
    refine ex_seq ?_
    refine cw_seq ?_
    refine cw_region ?_
    refine wl_u rfl (ow_y (yh_assign rfl rfl) rfl rfl (kk_wl ?_))
    refine wl_nil ?_
    refine ex_seq ?_
    refine cw_ret ?_
    obtain rfl := Option.some.inj h
    exact ex_r1 Tb rfl (.tmp rfl) (fun wq hq => ⟨_, rfl, hq.ext, rfl⟩)

def m_slices_Index_string_L4 (N : Nat) (s_ : List Str) (v_ : Str) : Nat → Nat → Option (Ex (Nat) (Int))
  | 0, _ => none
  | n + 1, s8 => (bif ltb ((s8 : Nat) : Int) ((s_.length : Nat) : Int) then (s_[s8]?).bind fun y14 => (bif seq v_ y14 then some (Ex.ret ((s8 : Nat) : Int))
 else m_slices_Index_string_L4 N s_ v_ n (s8 + 1))
 else some (Ex.brk (s8)))

def m_slices_Index_string (N : Nat) (s_ : List Str) (v_ : Str) : Option (Int) := (m_slices_Index_string_L4 N s_ v_ N 0).bind fun e4 => e4.go (fun r => r) fun b4 => some (-1)

set_option maxHeartbeats 4000000 in
theorem c_slices_Index_string (N : Nat) (s_ : List Str) (v_ : Str) (res : Int) (h : m_slices_Index_string N s_ v_ = some res) (w : World) {a_s_ : Option Addr} {c_s_ : Nat} (h_s_ : strsL.rd w [] [.slice a_s_ s_.length c_s_] s_) : Ret Try.prog 112 [.slice a_s_ s_.length c_s_, .string v_] w [] fun v w' => v = .int .i64 res := by
  have mh_s_ := rd_max h_s_
  unfold m_slices_Index_string at h
  refine ret_enter Try.func112 rfl Try.ntmps112 rfl (Hp.refl w _) ?_
  refine cw_seq ?_
  refine cw_region ?_
  refine wl_u rfl (ow_y (yh_assign rfl rfl) rfl rfl (kk_wl ?_))
  refine wl_nil ?_
  refine ex_seq ?_
  refine cw_seq ?_
  refine cw_seq ?_
  refine cw_region ?_
  refine wl_u rfl (ow_y (yh_move rfl rfl) rfl rfl (kk_wl ?_))
  refine wl_u rfl (ow_y (yh_lenS Tb rfl rfl rfl rfl) rfl rfl (kk_wl ?_))
  refine wl_u rfl (ow_y (yh_move rfl rfl) rfl rfl (kk_wl ?_))
  refine wl_nil ?_
  refine ex_seq ?_
  refine cw_block ?_
  obtain ⟨e4, he4, hk4⟩ := bd h
  clear h
  refine cw_loopG (σ := Nat × Nat) (fun s => m_slices_Index_string_L4 N s_ v_ s.1 s.2 = some e4) (fun s => [(0, .slice a_s_ s_.length c_s_), (1, .string v_), (7, .int .i64 ((s_.length : Nat) : Int)), (8, .int .i64 ((s.2 : Nat) : Int))]) (fun s => []) (fun s => s.1) (N, 0) [] he4 ⟨rfl, rfl, rfl, rfl, trivial⟩ rfl (fun KL s he4 hn4 => ?_)
  obtain ⟨n4, s8⟩ := s
  simp only at he4 hn4 ⊢
  rcases n4 with _ | n4
  · exact nosome he4
  have h := he4; rw [m_slices_Index_string_L4] at h
  refine cw_seq ?_
  refine cw_region ?_
  refine wl_u rfl (ow_y (yh_cmpI rfl rfl rfl rfl) rfl rfl (kk_wl ?_))
  refine wl_nil ?_
  refine ex_seq ?_
  refine cw_seq ?_
  refine cw_split rfl (fun c1 => ?_) (fun c1 => ?_)
  · skip
    replace h := bt c1 h
    have q1 := ltb_true.1 c1
    refine cw_skip ?_
    refine ex_seq ?_
    refine cw_seq ?_
    refine cw_block ?_
    refine cw_seq ?_
    refine cw_region ?_
    refine wl_u rfl (ow_y (yh_move rfl rfl) rfl rfl (kk_wl ?_))
    refine wl_u rfl (ow_y (yh_assign rfl rfl) rfl rfl (kk_wl ?_))
    refine wl_nil ?_
    refine ex_seq ?_
    refine cw_seq ?_
    refine cw_region ?_
    refine wl_u rfl (ow_y (yh_move rfl rfl) rfl rfl (kk_wl ?_))
    refine wl_u rfl (ow_y (yh_move rfl rfl) rfl rfl (kk_wl ?_))
    refine wl_u rfl (ow_y (yh_move rfl rfl) rfl rfl (kk_wl ?_))
    obtain ⟨y14, hy14, h⟩ := bd h
    obtain ⟨b14, o14, ha14⟩ := sl_addr h_s_ hy14
    subst ha14
    have hc14 := get_str h_s_ hy14
    refine wl_u rfl (ow_y (yh_idx Tb (k := s8) rfl rfl rfl rfl (get_lt hy14) rfl rfl) rfl rfl (kk_wl ?_))
    refine wl_u rfl (ow_y (yh_loadA0 Tb rfl rfl rfl hc14 rfl) rfl rfl (kk_wl ?_))
    refine wl_u rfl (ow_y (yh_cmpS rfl rfl rfl rfl) rfl rfl (kk_wl ?_))
    refine wl_nil ?_
    refine ex_seq ?_
    refine cw_split rfl (fun c2 => ?_) (fun c2 => ?_)
    · skip
      replace h := bt c2 h
      refine cw_seq ?_
      refine cw_region ?_
      refine wl_u rfl (ow_y (yh_move rfl rfl) rfl rfl (kk_wl ?_))
      refine wl_u rfl (ow_y (yh_assign rfl rfl) rfl rfl (kk_wl ?_))
      refine wl_nil ?_
      refine ex_seq ?_
      refine cw_ret ?_
      refine ex_block_ret ?_
      refine ex_then_ret ?_
      refine ex_then_ret ?_
      refine ex_block_ret ?_
      refine ex_then_ret ?_
      obtain rfl := Option.some.inj h
      obtain rfl := go_ret hk4
      exact ex_r1 Tb rfl (.tmp rfl) (fun wq hq => ⟨_, rfl, hq.ext, rfl⟩)
    · skip
      replace h := bf c2 h
      refine cw_skip ?_
      refine ex_block_normal ?_
      refine ex_seq ?_
      refine cw_region ?_
      refine wl_u rfl (ow_y (yh_arI rfl rfl rfl rfl (by omega)) rfl rfl (kk_wl ?_))
      refine wl_u rfl (ow_y (yh_move rfl rfl) rfl rfl (kk_wl ?_))
      refine wl_nil ?_
      exact ex_next [] (hn4 (n4, s8 + 1) (Nat.lt_succ_self _) h) ⟨rfl, rfl, rfl, rfl, trivial⟩ (by kernel_rfl)
  · skip
    replace h := bf c1 h
    have q2 := ltb_false.1 c1
    refine cw_exit ?_
    refine ex_then_exit ?_
    refine ex_then_exit ?_
    obtain rfl := Option.some.inj h
    have h := go_brk hk4
    refine ex_block_exit ?_
    refine ex_seq ?_
    refine cw_seq ?_
    refine cw_region ?_
    refine wl_u rfl (ow_y (yh_assign rfl rfl) rfl rfl (kk_wl ?_))
    refine wl_nil ?_
    refine ex_seq ?_
    refine cw_ret ?_
    obtain rfl := Option.some.inj h
    exact ex_r1 Tb rfl (.tmp rfl) (fun wq hq => ⟨_, rfl, hq.ext, rfl⟩)

def m_slices_Contains_string (N : Nat) (s_ : List Str) (v_ : Str) : Option (Bool) := (m_slices_Index_string N s_ v_).bind fun x7 => some (leb 0 x7)

set_option maxHeartbeats 4000000 in
theorem c_slices_Contains_string (N : Nat) (s_ : List Str) (v_ : Str) (res : Bool) (h : m_slices_Contains_string N s_ v_ = some res) (w : World) {a_s_ : Option Addr} {c_s_ : Nat} (h_s_ : strsL.rd w [] [.slice a_s_ s_.length c_s_] s_) : Ret Try.prog 94 [.slice a_s_ s_.length c_s_, .string v_] w [] fun v w' => v = .bool res := by
  have mh_s_ := rd_max h_s_
  unfold m_slices_Contains_string at h
  refine ret_enter Try.func94 rfl Try.ntmps94 rfl (Hp.refl w _) ?_
  refine cw_seq ?_
  refine cw_region ?_
  refine wl_u rfl (ow_y (yh_assign rfl rfl) rfl rfl (kk_wl ?_))
  refine wl_nil ?_
  refine ex_seq ?_
  refine cw_seq ?_
  refine cw_region ?_
  refine wl_u rfl (ow_y (yh_move rfl rfl) rfl rfl (kk_wl ?_))
  refine wl_u rfl (ow_y (yh_move rfl rfl) rfl rfl (kk_wl ?_))
  obtain ⟨x7, hx7, h⟩ := bd h
  refine wl_u rfl (ow_cV rfl hb112 rfl (fun w hw => c_slices_Index_string N _ _ _ hx7 w (Lay.at_ h_s_ hw)) rfl rfl (kk_wl ?_))
  refine wl_u rfl (ow_y (yh_cmpI rfl rfl rfl rfl) rfl rfl (kk_wl ?_))
  refine wl_u rfl (ow_y (yh_assign rfl rfl) rfl rfl (kk_wl ?_))
  refine wl_nil ?_
  refine ex_seq ?_
  refine cw_ret ?_
  obtain rfl := Option.some.inj h
  exact ex_r1 Tb rfl (.tmp rfl) (fun wq hq => ⟨_, rfl, hq.ext, rfl⟩)

def m_impl_StepValid (N : Nat) (s_ : Step) : Option (Bool) := (m_impl_NameValid N s_.name).bind fun x5 => (bif x5 then (bif leb ((s_.after.length : Nat) : Int) 4 then (m_impl_namesAscend N s_.after).bind fun x15 => (bif x15 then (m_slices_Contains_string N s_.after s_.name).bind fun x22 => some (!x22)
 else some false)
 else some false)
 else some false)

set_option maxHeartbeats 4000000 in
theorem c_impl_StepValid (N : Nat) (s_ : Step) (res : Bool) (h : m_impl_StepValid N s_ = some res) (w : World) {a_s__after : Option Addr} {c_s__after : Nat} (h_s__after : strsL.rd w [] [.slice a_s__after s_.after.length c_s__after] s_.after) : Ret Try.prog 66 [.agg #[.string s_.name, .slice a_s__after s_.after.length c_s__after, .bool s_.undo]] w [] fun v w' => v = .bool res := by
  have mh_s__after := rd_max h_s__after
  unfold m_impl_StepValid at h
  refine ret_enter Try.func66 rfl Try.ntmps66 rfl (Hp.refl w _) ?_
  refine cw_seq ?_
  refine cw_region ?_
  refine wl_u rfl (ow_boxA rfl rfl rfl rfl (fun g1 => kk_wl ?_))
  refine wl_u rfl (ow_y (yh_assign rfl rfl) rfl rfl (kk_wl ?_))
  refine wl_nil ?_
  refine ex_seq ?_
  refine cw_seq ?_
  refine cw_region ?_
  refine wl_u rfl (ow_y (yh_field Tb rfl rfl rfl) rfl rfl (kk_wl ?_))
  refine wl_u rfl (ow_y (yh_loadB Tb (k := 0) rfl rfl rfl rfl rfl) rfl rfl (kk_wl ?_))
  obtain ⟨x5, hx5, h⟩ := bd h
  refine wl_u rfl (ow_cV rfl hb93 rfl (fun w hw => c_impl_NameValid N _ _ hx5 w) rfl rfl (kk_wl ?_))
  refine wl_u rfl (ow_y (yh_move rfl rfl) rfl rfl (kk_wl ?_))
  refine wl_s rfl rfl (fun c1 => ?_) (fun c1 => ?_)
  · skip
    replace h := bt c1 h
    refine wl_g rfl rfl (ow_y (yh_field Tb rfl rfl rfl) rfl rfl (kk_wl ?_))
    refine wl_g rfl rfl (ow_y (yh_loadB Tb (k := 0) rfl rfl rfl rfl rfl) rfl rfl (kk_wl ?_))
    refine wl_g rfl rfl (ow_y (yh_lenS Tb rfl rfl rfl rfl) rfl rfl (kk_wl ?_))
    refine wl_g rfl rfl (ow_y (yh_cmpI rfl rfl rfl rfl) rfl rfl (kk_wl ?_))
    refine wl_u rfl (ow_y (yh_pickT rfl rfl rfl) rfl rfl (kk_wl ?_))
    refine wl_u rfl (ow_y (yh_move rfl rfl) rfl rfl (kk_wl ?_))
    refine wl_s rfl rfl (fun c2 => ?_) (fun c2 => ?_)
    · skip
      replace h := bt c2 h
      have q1 := leb_true.1 c2
      refine wl_g rfl rfl (ow_y (yh_field Tb rfl rfl rfl) rfl rfl (kk_wl ?_))
      refine wl_g rfl rfl (ow_y (yh_loadB Tb (k := 0) rfl rfl rfl rfl rfl) rfl rfl (kk_wl ?_))
      obtain ⟨x15, hx15, h⟩ := bd h
      refine wl_g rfl rfl (ow_cV rfl hb75 rfl (fun w hw => c_impl_namesAscend N _ _ hx15 w (Lay.at_ h_s__after hw)) rfl rfl (kk_wl ?_))
      refine wl_u rfl (ow_y (yh_pickT rfl rfl rfl) rfl rfl (kk_wl ?_))
      refine wl_u rfl (ow_y (yh_move rfl rfl) rfl rfl (kk_wl ?_))
      refine wl_s rfl rfl (fun c3 => ?_) (fun c3 => ?_)
      · skip
        replace h := bt c3 h
        refine wl_g rfl rfl (ow_y (yh_field Tb rfl rfl rfl) rfl rfl (kk_wl ?_))
        refine wl_g rfl rfl (ow_y (yh_loadB Tb (k := 0) rfl rfl rfl rfl rfl) rfl rfl (kk_wl ?_))
        refine wl_g rfl rfl (ow_y (yh_field Tb rfl rfl rfl) rfl rfl (kk_wl ?_))
        refine wl_g rfl rfl (ow_y (yh_loadB Tb (k := 0) rfl rfl rfl rfl rfl) rfl rfl (kk_wl ?_))
        obtain ⟨x22, hx22, h⟩ := bd h
        refine wl_g rfl rfl (ow_cV rfl hb94 rfl (fun w hw => c_slices_Contains_string N _ _ _ hx22 w (Lay.at_ h_s__after hw)) rfl rfl (kk_wl ?_))
        refine wl_g rfl rfl (ow_y (yh_not rfl rfl) rfl rfl (kk_wl ?_))
        refine wl_u rfl (ow_y (yh_pickT rfl rfl rfl) rfl rfl (kk_wl ?_))
        refine wl_u rfl (ow_y (yh_assign rfl rfl) rfl rfl (kk_wl ?_))
        refine wl_nil ?_
        refine ex_seq ?_
        refine cw_ret ?_
        obtain rfl := Option.some.inj h
        exact ex_r1 Tb rfl (.tmp rfl) (fun wq hq => ⟨_, rfl, hq.ext, rfl⟩)
      · skip
        replace h := bf c3 h
        refine wl_n rfl rfl rfl rfl ?_
        refine wl_n rfl rfl rfl rfl ?_
        refine wl_n rfl rfl rfl rfl ?_
        refine wl_n rfl rfl rfl rfl ?_
        refine wl_n rfl rfl rfl rfl ?_
        refine wl_n rfl rfl rfl rfl ?_
        refine wl_u rfl (ow_y (yh_pickF rfl rfl rfl) rfl rfl (kk_wl ?_))
        refine wl_u rfl (ow_y (yh_assign rfl rfl) rfl rfl (kk_wl ?_))
        refine wl_nil ?_
        refine ex_seq ?_
        refine cw_ret ?_
        obtain rfl := Option.some.inj h
        exact ex_r1 Tb rfl (.tmp rfl) (fun wq hq => ⟨_, rfl, hq.ext, rfl⟩)
    · skip
      replace h := bf c2 h
      have q2 := leb_false.1 c2
      refine wl_n rfl rfl rfl rfl ?_
      refine wl_n rfl rfl rfl rfl ?_
      refine wl_n rfl rfl rfl rfl ?_
      refine wl_u rfl (ow_y (yh_pickF rfl rfl rfl) rfl rfl (kk_wl ?_))
      refine wl_u rfl (ow_y (yh_move rfl rfl) rfl rfl (kk_wl ?_))
      refine wl_s rfl rfl nofun (fun _ => ?_)
      refine wl_n rfl rfl rfl rfl ?_
      refine wl_n rfl rfl rfl rfl ?_
      refine wl_n rfl rfl rfl rfl ?_
      refine wl_n rfl rfl rfl rfl ?_
      refine wl_n rfl rfl rfl rfl ?_
      refine wl_n rfl rfl rfl rfl ?_
      refine wl_u rfl (ow_y (yh_pickF rfl rfl rfl) rfl rfl (kk_wl ?_))
      refine wl_u rfl (ow_y (yh_assign rfl rfl) rfl rfl (kk_wl ?_))
      refine wl_nil ?_
      refine ex_seq ?_
      refine cw_ret ?_
      obtain rfl := Option.some.inj h
      exact ex_r1 Tb rfl (.tmp rfl) (fun wq hq => ⟨_, rfl, hq.ext, rfl⟩)
  · skip
    replace h := bf c1 h
    refine wl_n rfl rfl rfl rfl ?_
    refine wl_n rfl rfl rfl rfl ?_
    refine wl_n rfl rfl rfl rfl ?_
    refine wl_n rfl rfl rfl rfl ?_
    refine wl_u rfl (ow_y (yh_pickF rfl rfl rfl) rfl rfl (kk_wl ?_))
    refine wl_u rfl (ow_y (yh_move rfl rfl) rfl rfl (kk_wl ?_))
    refine wl_s rfl rfl nofun (fun _ => ?_)
    refine wl_n rfl rfl rfl rfl ?_
    refine wl_n rfl rfl rfl rfl ?_
    refine wl_n rfl rfl rfl rfl ?_
    refine wl_u rfl (ow_y (yh_pickF rfl rfl rfl) rfl rfl (kk_wl ?_))
    refine wl_u rfl (ow_y (yh_move rfl rfl) rfl rfl (kk_wl ?_))
    refine wl_s rfl rfl nofun (fun _ => ?_)
    refine wl_n rfl rfl rfl rfl ?_
    refine wl_n rfl rfl rfl rfl ?_
    refine wl_n rfl rfl rfl rfl ?_
    refine wl_n rfl rfl rfl rfl ?_
    refine wl_n rfl rfl rfl rfl ?_
    refine wl_n rfl rfl rfl rfl ?_
    refine wl_u rfl (ow_y (yh_pickF rfl rfl rfl) rfl rfl (kk_wl ?_))
    refine wl_u rfl (ow_y (yh_assign rfl rfl) rfl rfl (kk_wl ?_))
    refine wl_nil ?_
    refine ex_seq ?_
    refine cw_ret ?_
    obtain rfl := Option.some.inj h
    exact ex_r1 Tb rfl (.tmp rfl) (fun wq hq => ⟨_, rfl, hq.ext, rfl⟩)

def m_impl_NamesHave_L4 (N : Nat) (list_ : List Str) (names : List Str) : Nat → Nat → Option (Ex (Nat) (Bool))
  | 0, _ => none
  | n + 1, s9 => (bif ltb ((s9 : Nat) : Int) ((names.length : Nat) : Int) then (names[s9]?).bind fun y11 => (m_slices_Contains_string N list_ y11).bind fun x15 => (bif !x15 then some (Ex.ret false)
 else m_impl_NamesHave_L4 N list_ names n (s9 + 1))
 else some (Ex.brk (s9)))

def m_impl_NamesHave (N : Nat) (list_ : List Str) (names : List Str) : Option (Bool) := (m_impl_NamesHave_L4 N list_ names N 0).bind fun e4 => e4.go (fun r => r) fun b4 => some true

set_option maxHeartbeats 4000000 in
theorem c_impl_NamesHave (N : Nat) (list_ : List Str) (names : List Str) (res : Bool) (h : m_impl_NamesHave N list_ names = some res) (w : World) {a_list_ a_names : Option Addr} {c_list_ c_names : Nat} (h_list_ : strsL.rd w [] [.slice a_list_ list_.length c_list_] list_) (h_names : strsL.rd w [] [.slice a_names names.length c_names] names) : Ret Try.prog 76 [.slice a_list_ list_.length c_list_, .slice a_names names.length c_names] w [] fun v w' => v = .bool res := by
  have mh_list_ := rd_max h_list_
  have mh_names := rd_max h_names
  unfold m_impl_NamesHave at h
  refine ret_enter Try.func76 rfl Try.ntmps76 rfl (Hp.refl w _) ?_
  refine cw_seq ?_
  refine cw_region ?_
  refine wl_u rfl (ow_y (yh_assign rfl rfl) rfl rfl (kk_wl ?_))
  refine wl_nil ?_
  refine ex_seq ?_
  refine cw_seq ?_
  refine cw_seq ?_
  refine cw_region ?_
  refine wl_u rfl (ow_y (yh_move rfl rfl) rfl rfl (kk_wl ?_))
  refine wl_u rfl (ow_y (yh_lenS Tb rfl rfl rfl rfl) rfl rfl (kk_wl ?_))
  refine wl_u rfl (ow_y (yh_move rfl rfl) rfl rfl (kk_wl ?_))
  refine wl_nil ?_
  refine ex_seq ?_
  refine cw_block ?_
  obtain ⟨e4, he4, hk4⟩ := bd h
  clear h
  refine cw_loopG (σ := Nat × Nat) (fun s => m_impl_NamesHave_L4 N list_ names s.1 s.2 = some e4) (fun s => [(0, .slice a_list_ list_.length c_list_), (7, .slice a_names names.length c_names), (8, .int .i64 ((names.length : Nat) : Int)), (9, .int .i64 ((s.2 : Nat) : Int))]) (fun s => []) (fun s => s.1) (N, 0) [] he4 ⟨rfl, rfl, rfl, rfl, trivial⟩ rfl (fun KL s he4 hn4 => ?_)
  obtain ⟨n4, s9⟩ := s
  simp only at he4 hn4 ⊢
  rcases n4 with _ | n4
  · exact nosome he4
  have h := he4; rw [m_impl_NamesHave_L4] at h
  refine cw_seq ?_
  refine cw_region ?_
  refine wl_u rfl (ow_y (yh_cmpI rfl rfl rfl rfl) rfl rfl (kk_wl ?_))
  refine wl_nil ?_
  refine ex_seq ?_
  refine cw_seq ?_
  refine cw_split rfl (fun c1 => ?_) (fun c1 => ?_)
  · skip
    replace h := bt c1 h
    have q1 := ltb_true.1 c1
    refine cw_skip ?_
    refine ex_seq ?_
    refine cw_seq ?_
    refine cw_block ?_
    refine cw_seq ?_
    refine cw_region ?_
    obtain ⟨y11, hy11, h⟩ := bd h
    obtain ⟨b11, o11, ha11⟩ := sl_addr h_names hy11
    subst ha11
    have hc11 := get_str h_names hy11
    refine wl_u rfl (ow_y (yh_idx Tb (k := s9) rfl rfl rfl rfl (get_lt hy11) rfl rfl) rfl rfl (kk_wl ?_))
    refine wl_u rfl (ow_y (yh_loadA0 Tb rfl rfl rfl hc11 rfl) rfl rfl (kk_wl ?_))
    refine wl_u rfl (ow_y (yh_assign rfl rfl) rfl rfl (kk_wl ?_))
    refine wl_nil ?_
    refine ex_seq ?_
    refine cw_seq ?_
    refine cw_region ?_
    refine wl_u rfl (ow_y (yh_move rfl rfl) rfl rfl (kk_wl ?_))
    refine wl_u rfl (ow_y (yh_move rfl rfl) rfl rfl (kk_wl ?_))
    obtain ⟨x15, hx15, h⟩ := bd h
    refine wl_u rfl (ow_cV rfl hb94 rfl (fun w hw => c_slices_Contains_string N _ _ _ hx15 w (Lay.at_ h_list_ hw)) rfl rfl (kk_wl ?_))
    refine wl_u rfl (ow_y (yh_not rfl rfl) rfl rfl (kk_wl ?_))
    refine wl_nil ?_
    refine ex_seq ?_
    refine cw_split rfl (fun c2 => ?_) (fun c2 => ?_)
    · skip
      replace h := bt c2 h
      refine cw_seq ?_
      refine cw_region ?_
      refine wl_u rfl (ow_y (yh_assign rfl rfl) rfl rfl (kk_wl ?_))
      refine wl_nil ?_
      refine ex_seq ?_
      refine cw_ret ?_
      refine ex_block_ret ?_
      refine ex_then_ret ?_
      refine ex_then_ret ?_
      refine ex_block_ret ?_
      refine ex_then_ret ?_
      obtain rfl := Option.some.inj h
      obtain rfl := go_ret hk4
      exact ex_r1 Tb rfl (.tmp rfl) (fun wq hq => ⟨_, rfl, hq.ext, rfl⟩)
    · skip
      replace h := bf c2 h
      refine cw_skip ?_
      refine ex_block_normal ?_
      refine ex_seq ?_
      refine cw_region ?_
      refine wl_u rfl (ow_y (yh_arI rfl rfl rfl rfl (by omega)) rfl rfl (kk_wl ?_))
      refine wl_u rfl (ow_y (yh_move rfl rfl) rfl rfl (kk_wl ?_))
      refine wl_nil ?_
      exact ex_next [] (hn4 (n4, s9 + 1) (Nat.lt_succ_self _) h) ⟨rfl, rfl, rfl, rfl, trivial⟩ (by kernel_rfl)
  · skip
    replace h := bf c1 h
    have q2 := ltb_false.1 c1
    refine cw_exit ?_
    refine ex_then_exit ?_
    refine ex_then_exit ?_
    obtain rfl := Option.some.inj h
    have h := go_brk hk4
    refine ex_block_exit ?_
    refine ex_seq ?_
    refine cw_seq ?_
    refine cw_region ?_
    refine wl_u rfl (ow_y (yh_assign rfl rfl) rfl rfl (kk_wl ?_))
    refine wl_nil ?_
    refine ex_seq ?_
    refine cw_ret ?_
    obtain rfl := Option.some.inj h
    exact ex_r1 Tb rfl (.tmp rfl) (fun wq hq => ⟨_, rfl, hq.ext, rfl⟩)

def m_impl_Flow_ready_L5 (N : Nat) (f : Flow) (done : List Str) : Nat → (List Str) → Nat → Option (Ex (List Str × Nat) (List Str))
  | 0, _, _ => none
  | n + 1, s5, s11 => (bif ltb ((s11 : Nat) : Int) ((f.steps.length : Nat) : Int) then (f.steps[s11]?).bind fun y13 => (m_slices_Contains_string N done y13.name).bind fun x18 => (bif !x18 then (m_impl_NamesHave N done y13.after).bind fun x24 => (bif x24 then (appd s5 ([y13.name] : List Str)).bind fun l30 => m_impl_Flow_ready_L5 N f done n (s5 ++ ([y13.name] : List Str)) (s11 + 1)
 else m_impl_Flow_ready_L5 N f done n s5 (s11 + 1))
 else m_impl_Flow_ready_L5 N f done n s5 (s11 + 1))
 else some (Ex.brk (s5, s11)))

def m_impl_Flow_ready (N : Nat) (f : Flow) (done : List Str) : Option (List Str) := (m_impl_Flow_ready_L5 N f done N ([] : List Str) 0).bind fun e5 => e5.go (fun r => r) fun b5 => some b5.1

set_option maxHeartbeats 4000000 in
theorem c_impl_Flow_ready (N : Nat) (f : Flow) (done : List Str) (res : List Str) (h : m_impl_Flow_ready N f done = some res) (w : World) {a_done a_f_steps : Option Addr} {c_done c_f_steps : Nat} (h_f_steps : stepsL.rd w [] [.slice a_f_steps f.steps.length c_f_steps] f.steps) (h_done : strsL.rd w [] [.slice a_done done.length c_done] done) : Ret Try.prog 88 [.agg #[.int .i64 f.ver, .slice a_f_steps f.steps.length c_f_steps], .slice a_done done.length c_done] w [] fun v w' => ∃ a1 c1 F1, v = .slice a1 res.length c1 ∧ NewC w w' [owC strsL F1 [.slice a1 res.length c1] res] := by
  have mh_f_steps := rd_max h_f_steps
  have mh_done := rd_max h_done
  unfold m_impl_Flow_ready at h
  refine ret_enter Try.func88 rfl Try.ntmps88 rfl (Hp.refl w _) ?_
  refine cw_seq ?_
  refine cw_region ?_
  refine wl_u rfl (ow_boxA rfl rfl rfl rfl (fun g2 => kk_wl ?_))
  refine wl_u rfl (ow_y (yh_assign rfl rfl) rfl rfl (kk_wl ?_))
  refine wl_nil ?_
  refine ex_seq ?_
  refine cw_seq ?_
  refine cw_region ?_
  refine wl_u rfl (ow_y (yh_assign rfl rfl) rfl rfl (kk_wl ?_))
  refine wl_nil ?_
  refine ex_seq ?_
  refine cw_seq ?_
  refine cw_seq ?_
  refine cw_region ?_
  refine wl_u rfl (ow_y (yh_field Tb rfl rfl rfl) rfl rfl (kk_wl ?_))
  refine wl_u rfl (ow_y (yh_loadB Tb (k := 0) rfl rfl rfl rfl rfl) rfl rfl (kk_wl ?_))
  refine wl_u rfl (ow_y (yh_lenS Tb rfl rfl rfl rfl) rfl rfl (kk_wl ?_))
  refine wl_u rfl (ow_y (yh_move rfl rfl) rfl rfl (kk_wl ?_))
  refine wl_nil ?_
  refine ex_seq ?_
  refine cw_block ?_
  obtain ⟨e5, he5, hk5⟩ := bd h
  clear h
  refine cw_nilS strsL rfl ?_
  refine cw_loopG (σ := Nat × (List Str) × Nat × (Option Addr) × Nat × (List Nat)) (fun s => m_impl_Flow_ready_L5 N f done s.1 s.2.1 s.2.2.1 = some e5) (fun s => [(1, .slice a_done done.length c_done), (5, .slice s.2.2.2.1 s.2.1.length s.2.2.2.2.1), (9, .slice a_f_steps f.steps.length c_f_steps), (10, .int .i64 ((f.steps.length : Nat) : Int)), (11, .int .i64 ((s.2.2.1 : Nat) : Int))]) (fun s => [owC strsL s.2.2.2.2.2 [.slice s.2.2.2.1 s.2.1.length s.2.2.2.2.1] s.2.1]) (fun s => s.1) (N, ([] : List Str), 0, none, 0, []) [0] he5 ⟨rfl, rfl, rfl, rfl, rfl, trivial⟩ rfl (fun KL s he5 hn5 => ?_)
  obtain ⟨n5, s5, s11, as5, cs5, Fs5⟩ := s
  simp only at he5 hn5 ⊢
  rcases n5 with _ | n5
  · exact nosome he5
  have h := he5; rw [m_impl_Flow_ready_L5] at h
  refine cw_seq ?_
  refine cw_region ?_
  refine wl_u rfl (ow_y (yh_cmpI rfl rfl rfl rfl) rfl rfl (kk_wl ?_))
  refine wl_nil ?_
  refine ex_seq ?_
  refine cw_seq ?_
  refine cw_split rfl (fun c1 => ?_) (fun c1 => ?_)
  · skip
    replace h := bt c1 h
    have q1 := ltb_true.1 c1
    refine cw_skip ?_
    refine ex_seq ?_
    refine cw_seq ?_
    refine cw_block ?_
    refine cw_seq ?_
    refine cw_region ?_
    obtain ⟨y13, hy13, h⟩ := bd h
    obtain ⟨b13, o13, ha13⟩ := sl_addr h_f_steps hy13
    subst ha13
    obtain ⟨a13, e13, hc13, hf13⟩ := get_step h_f_steps hy13
    have mx13 := rd_max hf13
    refine wl_u rfl (ow_y (yh_idx Tb (k := s11) rfl rfl rfl rfl (get_lt hy13) rfl rfl) rfl rfl (kk_wl ?_))
    refine wl_u rfl (ow_y (yh_loadAN Tb rfl rfl rfl rfl hc13 rfl) rfl rfl (kk_wl ?_))
    refine wl_u rfl (ow_allocA Tb rfl rfl rfl rfl (fun g7 => kk_wl ?_))
    refine wl_u rfl (ow_storeA Tb (k := 0) rfl rfl rfl rfl rfl rfl rfl rfl rfl (kk_wl ?_))
    refine wl_nil ?_
    refine ex_seq ?_
    refine cw_seq ?_
    refine cw_region ?_
    refine wl_u rfl (ow_y (yh_move rfl rfl) rfl rfl (kk_wl ?_))
    refine wl_u rfl (ow_y (yh_field Tb rfl rfl rfl) rfl rfl (kk_wl ?_))
    refine wl_u rfl (ow_y (yh_loadB Tb (k := 0) rfl rfl rfl rfl rfl) rfl rfl (kk_wl ?_))
    obtain ⟨x18, hx18, h⟩ := bd h
    refine wl_u rfl (ow_cV rfl hb94 rfl (fun w hw => c_slices_Contains_string N _ _ _ hx18 w (Lay.at_ h_done hw)) rfl rfl (kk_wl ?_))
    refine wl_u rfl (ow_y (yh_not rfl rfl) rfl rfl (kk_wl ?_))
    refine wl_u rfl (ow_y (yh_move rfl rfl) rfl rfl (kk_wl ?_))
    refine wl_s rfl rfl (fun c2 => ?_) (fun c2 => ?_)
    · skip
      replace h := bt c2 h
      refine wl_g rfl rfl (ow_y (yh_move rfl rfl) rfl rfl (kk_wl ?_))
      refine wl_g rfl rfl (ow_y (yh_field Tb rfl rfl rfl) rfl rfl (kk_wl ?_))
      refine wl_g rfl rfl (ow_y (yh_loadB Tb (k := 0) rfl rfl rfl rfl rfl) rfl rfl (kk_wl ?_))
      obtain ⟨x24, hx24, h⟩ := bd h
      refine wl_g rfl rfl (ow_cV rfl hb76 rfl (fun w hw => c_impl_NamesHave N _ _ _ hx24 w (Lay.at_ h_done hw) (Lay.at_ hf13 hw)) rfl rfl (kk_wl ?_))
      refine wl_u rfl (ow_y (yh_pickT rfl rfl rfl) rfl rfl (kk_wl ?_))
      refine wl_nil ?_
      refine ex_seq ?_
      refine cw_split rfl (fun c3 => ?_) (fun c3 => ?_)
      · skip
        replace h := bt c3 h
        refine cw_region ?_
        refine wl_u rfl (ow_y (yh_move rfl rfl) rfl rfl (kk_wl ?_))
        refine wl_u rfl (ow_y (yh_field Tb rfl rfl rfl) rfl rfl (kk_wl ?_))
        refine wl_u rfl (ow_y (yh_loadB Tb (k := 0) rfl rfl rfl rfl rfl) rfl rfl (kk_wl ?_))
        refine wl_u rfl (ow_lit1 Tb rfl rfl rfl rfl rfl rfl rfl rfl rfl rfl (fun g29 => kk_chg (c' := owC strsL [g29] [.slice (some ⟨g29, 0, none⟩) 1 1] ([y13.name] : List Str)) 0 rfl (fun w hA => own_strsL ([y13.name] : List Str) hA rfl (by simp [maxLen])) rfl (kk_wl ?_)))
        obtain ⟨hll30, h⟩ := bd_appd h
        refine wl_u rfl (ow_appP Tb (i := 2) rfl rfl rfl rfl rfl (fun w hw => rdo (A := strsL) 0 rfl hw) rfl rfl rfl rfl hll30 (by decide) rfl rfl (fun a30 c30 F30 => kk_wl ?_))
        refine wl_u rfl (ow_y (yh_assign rfl rfl) rfl rfl (kk_wl ?_))
        refine wl_nil ?_
        refine ex_block_normal ?_
        refine ex_seq ?_
        refine cw_region ?_
        refine wl_u rfl (ow_y (yh_arI rfl rfl rfl rfl (by omega)) rfl rfl (kk_wl ?_))
        refine wl_u rfl (ow_y (yh_move rfl rfl) rfl rfl (kk_wl ?_))
        refine wl_nil ?_
        exact ex_next [0] (hn5 (n5, (s5 ++ ([y13.name] : List Str)), s11 + 1, a30, c30, F30) (Nat.lt_succ_self _) h) ⟨rfl, rfl, rfl, rfl, rfl, trivial⟩ (by kernel_rfl)
      · skip
        replace h := bf c3 h
        refine cw_skip ?_
        refine ex_block_normal ?_
        refine ex_seq ?_
        refine cw_region ?_
        refine wl_u rfl (ow_y (yh_arI rfl rfl rfl rfl (by omega)) rfl rfl (kk_wl ?_))
        refine wl_u rfl (ow_y (yh_move rfl rfl) rfl rfl (kk_wl ?_))
        refine wl_nil ?_
        exact ex_next [1] (hn5 (n5, s5, s11 + 1, as5, cs5, Fs5) (Nat.lt_succ_self _) h) ⟨rfl, rfl, rfl, rfl, rfl, trivial⟩ (by kernel_rfl)
    · skip
      replace h := bf c2 h
      refine wl_n rfl rfl rfl rfl ?_
      refine wl_n rfl rfl rfl rfl ?_
      refine wl_n rfl rfl rfl rfl ?_
      refine wl_n rfl rfl rfl rfl ?_
      refine wl_u rfl (ow_y (yh_pickF rfl rfl rfl) rfl rfl (kk_wl ?_))
      refine wl_nil ?_
      refine ex_seq ?_
      refine cw_false rfl ?_
      refine cw_skip ?_
      refine ex_block_normal ?_
      refine ex_seq ?_
      refine cw_region ?_
      refine wl_u rfl (ow_y (yh_arI rfl rfl rfl rfl (by omega)) rfl rfl (kk_wl ?_))
      refine wl_u rfl (ow_y (yh_move rfl rfl) rfl rfl (kk_wl ?_))
      refine wl_nil ?_
      exact ex_next [1] (hn5 (n5, s5, s11 + 1, as5, cs5, Fs5) (Nat.lt_succ_self _) h) ⟨rfl, rfl, rfl, rfl, rfl, trivial⟩ (by kernel_rfl)
  · skip
    replace h := bf c1 h
    have q2 := ltb_false.1 c1
    refine cw_exit ?_
    refine ex_then_exit ?_
    refine ex_then_exit ?_
    obtain rfl := Option.some.inj h
    have h := go_brk hk5
    refine ex_block_exit ?_
    refine ex_seq ?_
    refine cw_seq ?_
    refine cw_region ?_
    refine wl_u rfl (ow_y (yh_move rfl rfl) rfl rfl (kk_wl ?_))
    refine wl_u rfl (ow_y (yh_assign rfl rfl) rfl rfl (kk_wl ?_))
    refine wl_nil ?_
    refine ex_seq ?_
    refine cw_ret ?_
    obtain rfl := Option.some.inj h
    exact ex_r1 Tb rfl (.tmp rfl) (fun wq hq => ⟨_, rfl, hq.ext, ⟨as5, cs5, Fs5, rfl, NewC.sel [0] hq rfl⟩⟩)

def m_impl_Flow_order_L3 (N : Nat) (f : Flow) : Nat → (List Str) → Option (Ex (List Str) (List Str))
  | 0, _ => none
  | n + 1, s3 => (m_impl_Flow_ready N f s3).bind fun x7 => (bif eqb ((x7.length : Nat) : Int) 0 then some (Ex.ret s3)
 else (x7[0]?).bind fun y14 => (appd s3 ([y14] : List Str)).bind fun l17 => m_impl_Flow_order_L3 N f n (s3 ++ ([y14] : List Str)))

def m_impl_Flow_order (N : Nat) (f : Flow) : Option (List Str) := (m_impl_Flow_order_L3 N f N ([] : List Str)).bind fun e3 => e3.go (fun r => r) fun b3 => none

set_option maxHeartbeats 4000000 in
theorem c_impl_Flow_order (N : Nat) (f : Flow) (res : List Str) (h : m_impl_Flow_order N f = some res) (w : World) {a_f_steps : Option Addr} {c_f_steps : Nat} (h_f_steps : stepsL.rd w [] [.slice a_f_steps f.steps.length c_f_steps] f.steps) : Ret Try.prog 52 [.agg #[.int .i64 f.ver, .slice a_f_steps f.steps.length c_f_steps]] w [] fun v w' => ∃ a1 c1 F1, v = .slice a1 res.length c1 ∧ NewC w w' [owC strsL F1 [.slice a1 res.length c1] res] := by
  have mh_f_steps := rd_max h_f_steps
  unfold m_impl_Flow_order at h
  refine ret_enter Try.func52 rfl Try.ntmps52 rfl (Hp.refl w _) ?_
  refine cw_seq ?_
  refine cw_region ?_
  refine wl_u rfl (ow_boxA rfl rfl rfl rfl (fun g1 => kk_wl ?_))
  refine wl_u rfl (ow_y (yh_assign rfl rfl) rfl rfl (kk_wl ?_))
  refine wl_nil ?_
  refine ex_seq ?_
  refine cw_seq ?_
  refine cw_region ?_
  refine wl_u rfl (ow_y (yh_assign rfl rfl) rfl rfl (kk_wl ?_))
  refine wl_nil ?_
  refine ex_seq ?_
  refine cw_block ?_
  obtain ⟨e3, he3, hk3⟩ := bd h
  clear h
  refine cw_nilS strsL rfl ?_
  refine cw_loopG (σ := Nat × (List Str) × (Option Addr) × Nat × (List Nat)) (fun s => m_impl_Flow_order_L3 N f s.1 s.2.1 = some e3) (fun s => [(1, .pointer (some ⟨g1, 0, none⟩)), (3, .slice s.2.2.1 s.2.1.length s.2.2.2.1)]) (fun s => [blkC g1 36 [.int .i64 f.ver, .slice a_f_steps f.steps.length c_f_steps], owC strsL s.2.2.2.2 [.slice s.2.2.1 s.2.1.length s.2.2.2.1] s.2.1]) (fun s => s.1) (N, ([] : List Str), none, 0, []) [1, 0] he3 ⟨rfl, rfl, trivial⟩ rfl (fun KL s he3 hn3 => ?_)
  obtain ⟨n3, s3, as3, cs3, Fs3⟩ := s
  simp only at he3 hn3 ⊢
  rcases n3 with _ | n3
  · exact nosome he3
  have h := he3; rw [m_impl_Flow_order_L3] at h
  refine cw_block ?_
  refine cw_seq ?_
  refine cw_region ?_
  refine wl_u rfl (ow_y (yh_loadBA Tb (k := 0) rfl rfl rfl rfl rfl rfl) rfl rfl (kk_wl ?_))
  refine wl_u rfl (ow_y (yh_move rfl rfl) rfl rfl (kk_wl ?_))
  obtain ⟨x7, hx7, h⟩ := bd h
  refine wl_u rfl (ow_cN1 rfl hb88 rfl (fun w hw => c_impl_Flow_ready N _ _ _ hx7 w (Lay.at_ h_f_steps hw) (rdo (A := strsL) 1 rfl hw)) rfl rfl (fun a7 c7 F7 => kk_wl ?_))
  refine wl_u rfl (ow_y (yh_assign rfl rfl) rfl rfl (kk_wl ?_))
  refine wl_nil ?_
  refine ex_seq ?_
  refine cw_seq ?_
  refine cw_seq ?_
  refine cw_region ?_
  refine wl_u rfl (ow_y (yh_move rfl rfl) rfl rfl (kk_wl ?_))
  refine wl_know (x7.length ≤ 9223372036854775807) (fun w hw => own_max 0 rfl hw) (fun mo9 => ?_)
  refine wl_u rfl (ow_y (yh_lenS Tb rfl rfl rfl rfl) rfl rfl (kk_wl ?_))
  refine wl_u rfl (ow_y (yh_cmpI rfl rfl rfl rfl) rfl rfl (kk_wl ?_))
  refine wl_nil ?_
  refine ex_seq ?_
  refine cw_split rfl (fun c1 => ?_) (fun c1 => ?_)
  · skip
    replace h := bt c1 h
    have q1 := eqb_true.1 c1
    refine cw_seq ?_
    refine cw_region ?_
    refine wl_u rfl (ow_y (yh_move rfl rfl) rfl rfl (kk_wl ?_))
    refine wl_u rfl (ow_y (yh_assign rfl rfl) rfl rfl (kk_wl ?_))
    refine wl_nil ?_
    refine ex_seq ?_
    refine cw_ret ?_
    refine ex_then_ret ?_
    refine ex_block_ret ?_
    refine ex_then_ret ?_
    refine ex_block_ret ?_
    obtain rfl := Option.some.inj h
    obtain rfl := go_ret hk3
    exact ex_r1 Tb rfl (.tmp rfl) (fun wq hq => ⟨_, rfl, hq.ext, ⟨as3, cs3, Fs3, rfl, NewC.sel [2] hq rfl⟩⟩)
  · skip
    replace h := bf c1 h
    have q2 := eqb_false.1 c1
    refine cw_skip ?_
    refine ex_seq ?_
    refine cw_region ?_
    refine wl_u rfl (ow_y (yh_move rfl rfl) rfl rfl (kk_wl ?_))
    refine wl_u rfl (ow_y (yh_move rfl rfl) rfl rfl (kk_wl ?_))
    obtain ⟨y14, hy14, h⟩ := bd h
    refine wl_ex (fun g => a7 = some ⟨g, 0, none⟩) (fun w hw => by exact own_addrK 0 rfl hy14 hw) (fun g14 hg14 => ?_)
    subst hg14
    refine wl_u rfl (ow_y (yh_idx Tb (k := 0) rfl rfl rfl rfl (get_lt hy14) rfl rfl) rfl rfl (kk_wl ?_))
    refine wl_u rfl (ow_y (yh_loadO0 Tb 0 rfl rfl rfl rfl rfl hy14 rfl) rfl rfl (kk_wl ?_))
    refine wl_u rfl (ow_lit1 Tb rfl rfl rfl rfl rfl rfl rfl rfl rfl rfl (fun g16 => kk_chg (c' := owC strsL [g16] [.slice (some ⟨g16, 0, none⟩) 1 1] ([y14] : List Str)) 0 rfl (fun w hA => own_strsL ([y14] : List Str) hA rfl (by simp [maxLen])) rfl (kk_wl ?_)))
    obtain ⟨hll17, h⟩ := bd_appd h
    refine wl_u rfl (ow_appP Tb (i := 3) rfl rfl rfl rfl rfl (fun w hw => rdo (A := strsL) 0 rfl hw) rfl rfl rfl rfl hll17 (by decide) rfl rfl (fun a17 c17 F17 => kk_wl ?_))
    refine wl_u rfl (ow_y (yh_assign rfl rfl) rfl rfl (kk_wl ?_))
    refine wl_nil ?_
    refine ex_block_normal ?_
    exact ex_next [3, 0] (hn3 (n3, (s3 ++ ([y14] : List Str)), a17, c17, F17) (Nat.lt_succ_self _) h) ⟨rfl, rfl, trivial⟩ (by kernel_rfl)

def m_impl_FlowValid_L12 (N : Nat) (f : Flow) : Nat → Nat → Option (Ex (Nat) (Bool))
  | 0, _ => none
  | n + 1, s34 => (bif ltb ((s34 : Nat) : Int) ((f.steps.length : Nat) : Int) then (f.steps[s34]?).bind fun y36 => (m_impl_StepValid N y36).bind fun x39 => (bif !x39 then some (Ex.ret false)
 else (m_impl_Flow_names N f).bind fun x43 => (m_impl_NamesHave N x43 y36.after).bind fun x46 => (bif !x46 then some (Ex.ret false)
 else m_impl_FlowValid_L12 N f n (s34 + 1)))
 else some (Ex.brk (s34)))

def m_impl_FlowValid (N : Nat) (f : Flow) : Option (Bool) := (bif ltb f.ver 1 then some false
 else (bif ltb 99 f.ver then some false
 else (bif ltb ((f.steps.length : Nat) : Int) 1 then some false
 else (bif ltb 8 ((f.steps.length : Nat) : Int) then some false
 else (m_impl_Flow_names N f).bind fun x27 => (m_impl_namesAscend N x27).bind fun x28 => (bif !x28 then some false
 else (m_impl_FlowValid_L12 N f N 0).bind fun e12 => e12.go (fun r => r) fun b12 => (m_impl_Flow_order N f).bind fun x51 => some (eqb ((x51.length : Nat) : Int) ((f.steps.length : Nat) : Int)))))))

set_option maxHeartbeats 4000000 in
theorem c_impl_FlowValid (N : Nat) (f : Flow) (res : Bool) (h : m_impl_FlowValid N f = some res) (w : World) {a_f_steps : Option Addr} {c_f_steps : Nat} (h_f_steps : stepsL.rd w [] [.slice a_f_steps f.steps.length c_f_steps] f.steps) : Ret Try.prog 30 [.agg #[.int .i64 f.ver, .slice a_f_steps f.steps.length c_f_steps]] w [] fun v w' => v = .bool res := by
  have mh_f_steps := rd_max h_f_steps
  unfold m_impl_FlowValid at h
  refine ret_enter Try.func30 rfl Try.ntmps30 rfl (Hp.refl w _) ?_
  refine cw_seq ?_
  refine cw_region ?_
  refine wl_u rfl (ow_boxA rfl rfl rfl rfl (fun g1 => kk_wl ?_))
  refine wl_u rfl (ow_y (yh_assign rfl rfl) rfl rfl (kk_wl ?_))
  refine wl_nil ?_
  refine ex_seq ?_
  refine cw_seq ?_
  refine cw_seq ?_
  refine cw_region ?_
  refine wl_u rfl (ow_y (yh_field Tb rfl rfl rfl) rfl rfl (kk_wl ?_))
  refine wl_u rfl (ow_y (yh_loadB Tb (k := 0) rfl rfl rfl rfl rfl) rfl rfl (kk_wl ?_))
  refine wl_u rfl (ow_y (yh_cmpI rfl rfl rfl rfl) rfl rfl (kk_wl ?_))
  refine wl_u rfl (ow_y (yh_move rfl rfl) rfl rfl (kk_wl ?_))
  refine wl_s rfl rfl (fun c1 => ?_) (fun c1 => ?_)
  · skip
    replace h := bt c1 h
    have q1 := ltb_true.1 c1
    refine wl_n rfl rfl rfl rfl ?_
    refine wl_n rfl rfl rfl rfl ?_
    refine wl_n rfl rfl rfl rfl ?_
    refine wl_u rfl (ow_y (yh_pickT rfl rfl rfl) rfl rfl (kk_wl ?_))
    refine wl_u rfl (ow_y (yh_move rfl rfl) rfl rfl (kk_wl ?_))
    refine wl_s rfl rfl (fun _ => ?_) nofun
    refine wl_n rfl rfl rfl rfl ?_
    refine wl_n rfl rfl rfl rfl ?_
    refine wl_n rfl rfl rfl rfl ?_
    refine wl_n rfl rfl rfl rfl ?_
    refine wl_u rfl (ow_y (yh_pickT rfl rfl rfl) rfl rfl (kk_wl ?_))
    refine wl_u rfl (ow_y (yh_move rfl rfl) rfl rfl (kk_wl ?_))
    refine wl_s rfl rfl (fun _ => ?_) nofun
    refine wl_n rfl rfl rfl rfl ?_
    refine wl_n rfl rfl rfl rfl ?_
    refine wl_n rfl rfl rfl rfl ?_
    refine wl_n rfl rfl rfl rfl ?_
    refine wl_u rfl (ow_y (yh_pickT rfl rfl rfl) rfl rfl (kk_wl ?_))
    refine wl_u rfl (ow_y (yh_move rfl rfl) rfl rfl (kk_wl ?_))
    refine wl_s rfl rfl (fun _ => ?_) nofun
    refine wl_n rfl rfl rfl rfl ?_
    refine wl_n rfl rfl rfl rfl ?_
    refine wl_n rfl rfl rfl rfl ?_
    refine wl_n rfl rfl rfl rfl ?_
    refine wl_u rfl (ow_y (yh_pickT rfl rfl rfl) rfl rfl (kk_wl ?_))
    refine wl_nil ?_
    refine ex_seq ?_
    refine cw_true rfl ?_
    refine cw_seq ?_
    refine cw_region ?_
    refine wl_u rfl (ow_y (yh_assign rfl rfl) rfl rfl (kk_wl ?_))
    refine wl_nil ?_
    refine ex_seq ?_
    refine cw_ret ?_
    refine ex_then_ret ?_
    obtain rfl := Option.some.inj h
    exact ex_r1 Tb rfl (.tmp rfl) (fun wq hq => ⟨_, rfl, hq.ext, rfl⟩)
  · skip
    replace h := bf c1 h
    have q2 := ltb_false.1 c1
    refine wl_g rfl rfl (ow_y (yh_field Tb rfl rfl rfl) rfl rfl (kk_wl ?_))
    refine wl_g rfl rfl (ow_y (yh_loadB Tb (k := 0) rfl rfl rfl rfl rfl) rfl rfl (kk_wl ?_))
    refine wl_g rfl rfl (ow_y (yh_cmpI rfl rfl rfl rfl) rfl rfl (kk_wl ?_))
    refine wl_u rfl (ow_y (yh_pickF rfl rfl rfl) rfl rfl (kk_wl ?_))
    refine wl_u rfl (ow_y (yh_move rfl rfl) rfl rfl (kk_wl ?_))
    refine wl_s rfl rfl (fun c2 => ?_) (fun c2 => ?_)
    · skip
      replace h := bt c2 h
      have q3 := ltb_true.1 c2
      refine wl_n rfl rfl rfl rfl ?_
      refine wl_n rfl rfl rfl rfl ?_
      refine wl_n rfl rfl rfl rfl ?_
      refine wl_n rfl rfl rfl rfl ?_
      refine wl_u rfl (ow_y (yh_pickT rfl rfl rfl) rfl rfl (kk_wl ?_))
      refine wl_u rfl (ow_y (yh_move rfl rfl) rfl rfl (kk_wl ?_))
      refine wl_s rfl rfl (fun _ => ?_) nofun
      refine wl_n rfl rfl rfl rfl ?_
      refine wl_n rfl rfl rfl rfl ?_
      refine wl_n rfl rfl rfl rfl ?_
      refine wl_n rfl rfl rfl rfl ?_
      refine wl_u rfl (ow_y (yh_pickT rfl rfl rfl) rfl rfl (kk_wl ?_))
      refine wl_u rfl (ow_y (yh_move rfl rfl) rfl rfl (kk_wl ?_))
      refine wl_s rfl rfl (fun _ => ?_) nofun
      refine wl_n rfl rfl rfl rfl ?_
      refine wl_n rfl rfl rfl rfl ?_
      refine wl_n rfl rfl rfl rfl ?_
      refine wl_n rfl rfl rfl rfl ?_
      refine wl_u rfl (ow_y (yh_pickT rfl rfl rfl) rfl rfl (kk_wl ?_))
      refine wl_nil ?_
      refine ex_seq ?_
      refine cw_true rfl ?_
      refine cw_seq ?_
      refine cw_region ?_
      refine wl_u rfl (ow_y (yh_assign rfl rfl) rfl rfl (kk_wl ?_))
      refine wl_nil ?_
      refine ex_seq ?_
      refine cw_ret ?_
      refine ex_then_ret ?_
      obtain rfl := Option.some.inj h
      exact ex_r1 Tb rfl (.tmp rfl) (fun wq hq => ⟨_, rfl, hq.ext, rfl⟩)
    · skip
      replace h := bf c2 h
      have q4 := ltb_false.1 c2
      refine wl_g rfl rfl (ow_y (yh_field Tb rfl rfl rfl) rfl rfl (kk_wl ?_))
      refine wl_g rfl rfl (ow_y (yh_loadB Tb (k := 0) rfl rfl rfl rfl rfl) rfl rfl (kk_wl ?_))
      refine wl_g rfl rfl (ow_y (yh_lenS Tb rfl rfl rfl rfl) rfl rfl (kk_wl ?_))
      refine wl_g rfl rfl (ow_y (yh_cmpI rfl rfl rfl rfl) rfl rfl (kk_wl ?_))
      refine wl_u rfl (ow_y (yh_pickF rfl rfl rfl) rfl rfl (kk_wl ?_))
      refine wl_u rfl (ow_y (yh_move rfl rfl) rfl rfl (kk_wl ?_))
      refine wl_s rfl rfl (fun c3 => ?_) (fun c3 => ?_)
      · skip
        replace h := bt c3 h
        have q5 := ltb_true.1 c3
        refine wl_n rfl rfl rfl rfl ?_
        refine wl_n rfl rfl rfl rfl ?_
        refine wl_n rfl rfl rfl rfl ?_
        refine wl_n rfl rfl rfl rfl ?_
        refine wl_u rfl (ow_y (yh_pickT rfl rfl rfl) rfl rfl (kk_wl ?_))
        refine wl_u rfl (ow_y (yh_move rfl rfl) rfl rfl (kk_wl ?_))
        refine wl_s rfl rfl (fun _ => ?_) nofun
        refine wl_n rfl rfl rfl rfl ?_
        refine wl_n rfl rfl rfl rfl ?_
        refine wl_n rfl rfl rfl rfl ?_
        refine wl_n rfl rfl rfl rfl ?_
        refine wl_u rfl (ow_y (yh_pickT rfl rfl rfl) rfl rfl (kk_wl ?_))
        refine wl_nil ?_
        refine ex_seq ?_
        refine cw_true rfl ?_
        refine cw_seq ?_
        refine cw_region ?_
        refine wl_u rfl (ow_y (yh_assign rfl rfl) rfl rfl (kk_wl ?_))
        refine wl_nil ?_
        refine ex_seq ?_
        refine cw_ret ?_
        refine ex_then_ret ?_
        obtain rfl := Option.some.inj h
        exact ex_r1 Tb rfl (.tmp rfl) (fun wq hq => ⟨_, rfl, hq.ext, rfl⟩)
      · skip
        replace h := bf c3 h
        have q6 := ltb_false.1 c3
        refine wl_g rfl rfl (ow_y (yh_field Tb rfl rfl rfl) rfl rfl (kk_wl ?_))
        refine wl_g rfl rfl (ow_y (yh_loadB Tb (k := 0) rfl rfl rfl rfl rfl) rfl rfl (kk_wl ?_))
        refine wl_g rfl rfl (ow_y (yh_lenS Tb rfl rfl rfl rfl) rfl rfl (kk_wl ?_))
        refine wl_g rfl rfl (ow_y (yh_cmpI rfl rfl rfl rfl) rfl rfl (kk_wl ?_))
        refine wl_u rfl (ow_y (yh_pickF rfl rfl rfl) rfl rfl (kk_wl ?_))
        refine wl_u rfl (ow_y (yh_move rfl rfl) rfl rfl (kk_wl ?_))
        refine wl_s rfl rfl (fun c4 => ?_) (fun c4 => ?_)
        · skip
          replace h := bt c4 h
          have q7 := ltb_true.1 c4
          refine wl_n rfl rfl rfl rfl ?_
          refine wl_n rfl rfl rfl rfl ?_
          refine wl_n rfl rfl rfl rfl ?_
          refine wl_n rfl rfl rfl rfl ?_
          refine wl_u rfl (ow_y (yh_pickT rfl rfl rfl) rfl rfl (kk_wl ?_))
          refine wl_nil ?_
          refine ex_seq ?_
          refine cw_true rfl ?_
          refine cw_seq ?_
          refine cw_region ?_
          refine wl_u rfl (ow_y (yh_assign rfl rfl) rfl rfl (kk_wl ?_))
          refine wl_nil ?_
          refine ex_seq ?_
          refine cw_ret ?_
          refine ex_then_ret ?_
          obtain rfl := Option.some.inj h
          exact ex_r1 Tb rfl (.tmp rfl) (fun wq hq => ⟨_, rfl, hq.ext, rfl⟩)
        · skip
          replace h := bf c4 h
          have q8 := ltb_false.1 c4
          refine wl_g rfl rfl (ow_y (yh_loadBA Tb (k := 0) rfl rfl rfl rfl rfl rfl) rfl rfl (kk_wl ?_))
          obtain ⟨x27, hx27, h⟩ := bd h
          refine wl_g rfl rfl (ow_cN1 rfl hb46 rfl (fun w hw => c_impl_Flow_names N _ _ hx27 w (Lay.at_ h_f_steps hw)) rfl rfl (fun a27 c27 F27 => kk_wl ?_))
          obtain ⟨x28, hx28, h⟩ := bd h
          refine wl_g rfl rfl (ow_cV rfl hb75 rfl (fun w hw => c_impl_namesAscend N _ _ hx28 w (rdo (A := strsL) 0 rfl hw)) rfl rfl (kk_wl ?_))
          refine wl_g rfl rfl (ow_y (yh_not rfl rfl) rfl rfl (kk_wl ?_))
          refine wl_u rfl (ow_y (yh_pickF rfl rfl rfl) rfl rfl (kk_wl ?_))
          refine wl_nil ?_
          refine ex_seq ?_
          refine cw_split rfl (fun c5 => ?_) (fun c5 => ?_)
          · skip
            replace h := bt c5 h
            refine cw_seq ?_
            refine cw_region ?_
            refine wl_u rfl (ow_y (yh_assign rfl rfl) rfl rfl (kk_wl ?_))
            refine wl_nil ?_
            refine ex_seq ?_
            refine cw_ret ?_
            refine ex_then_ret ?_
            obtain rfl := Option.some.inj h
            exact ex_r1 Tb rfl (.tmp rfl) (fun wq hq => ⟨_, rfl, hq.ext, rfl⟩)
          · skip
            replace h := bf c5 h
            refine cw_skip ?_
            refine ex_seq ?_
            refine cw_seq ?_
            refine cw_seq ?_
            refine cw_region ?_
            refine wl_u rfl (ow_y (yh_field Tb rfl rfl rfl) rfl rfl (kk_wl ?_))
            refine wl_u rfl (ow_y (yh_loadB Tb (k := 1) rfl rfl rfl rfl rfl) rfl rfl (kk_wl ?_))
            refine wl_u rfl (ow_y (yh_lenS Tb rfl rfl rfl rfl) rfl rfl (kk_wl ?_))
            refine wl_u rfl (ow_y (yh_move rfl rfl) rfl rfl (kk_wl ?_))
            refine wl_nil ?_
            refine ex_seq ?_
            refine cw_block ?_
            obtain ⟨e12, he12, hk12⟩ := bd h
            clear h
            refine cw_loopG (σ := Nat × Nat) (fun s => m_impl_FlowValid_L12 N f s.1 s.2 = some e12) (fun s => [(1, .pointer (some ⟨g1, 0, none⟩)), (32, .slice a_f_steps f.steps.length c_f_steps), (33, .int .i64 ((f.steps.length : Nat) : Int)), (34, .int .i64 ((s.2 : Nat) : Int))]) (fun s => [blkC g1 36 [.int .i64 f.ver, .slice a_f_steps f.steps.length c_f_steps]]) (fun s => s.1) (N, 0) [1] he12 ⟨rfl, rfl, rfl, rfl, trivial⟩ rfl (fun KL s he12 hn12 => ?_)
            obtain ⟨n12, s34⟩ := s
            simp only at he12 hn12 ⊢
            rcases n12 with _ | n12
            · exact nosome he12
            have h := he12; rw [m_impl_FlowValid_L12] at h
            refine cw_seq ?_
            refine cw_region ?_
            refine wl_u rfl (ow_y (yh_cmpI rfl rfl rfl rfl) rfl rfl (kk_wl ?_))
            refine wl_nil ?_
            refine ex_seq ?_
            refine cw_seq ?_
            refine cw_split rfl (fun c6 => ?_) (fun c6 => ?_)
            · skip
              replace h := bt c6 h
              have q9 := ltb_true.1 c6
              refine cw_skip ?_
              refine ex_seq ?_
              refine cw_seq ?_
              refine cw_block ?_
              refine cw_seq ?_
              refine cw_region ?_
              obtain ⟨y36, hy36, h⟩ := bd h
              obtain ⟨b36, o36, ha36⟩ := sl_addr h_f_steps hy36
              subst ha36
              obtain ⟨a36, e36, hc36, hf36⟩ := get_step h_f_steps hy36
              have mx36 := rd_max hf36
              refine wl_u rfl (ow_y (yh_idx Tb (k := s34) rfl rfl rfl rfl (get_lt hy36) rfl rfl) rfl rfl (kk_wl ?_))
              refine wl_u rfl (ow_y (yh_loadAN Tb rfl rfl rfl rfl hc36 rfl) rfl rfl (kk_wl ?_))
              refine wl_u rfl (ow_allocA Tb rfl rfl rfl rfl (fun g4 => kk_wl ?_))
              refine wl_u rfl (ow_storeA Tb (k := 0) rfl rfl rfl rfl rfl rfl rfl rfl rfl (kk_wl ?_))
              refine wl_nil ?_
              refine ex_seq ?_
              refine cw_seq ?_
              refine cw_dr [0, 2, 3, 4, 6, 7, 9, 10] [] [blkC g4 48 [.string y36.name, .slice a36 y36.after.length e36, .bool y36.undo], blkC g1 36 [.int .i64 f.ver, .slice (some ⟨b36, o36, none⟩) f.steps.length c_f_steps]] (by kernel_rfl) ?_
              refine wd_take (i := 0) [0, 1] rfl rfl rfl rfl rfl (by kernel_rfl) (by kernel_rfl) (fun _ _ _ _ h => h) (yh_loadBA Tb (k := 0) rfl rfl rfl rfl rfl rfl) ?_
              obtain ⟨x39, hx39, h⟩ := bd h
              refine wd_one 1 rfl rfl (by kernel_rfl) (ow_cV rfl hb66 rfl (fun w hw => c_impl_StepValid N _ _ hx39 w (Lay.at_ hf36 hw)) rfl rfl (kk_wd [0, 1] (by kernel_rfl) ?_))
              refine wd_take (i := 2) [0, 1] rfl rfl rfl rfl rfl (by kernel_rfl) (by kernel_rfl) (fun _ _ _ _ h => h) (yh_not rfl rfl) ?_
              refine wd_take (i := 3) [0, 1] rfl rfl rfl rfl rfl (by kernel_rfl) (by kernel_rfl) (fun _ _ _ _ h => h) (yh_move rfl rfl) ?_
              refine wd_split 4 rfl rfl rfl (fun c7 => ?_) (fun c7 => ?_)
              · skip
                replace h := bt c7 h
                refine wd_skip (i := 4) [0, 1] rfl rfl rfl rfl (by kernel_rfl) (by kernel_rfl) (fun _ _ _ h => h) ?_
                refine wd_skip (i := 6) [0, 1] rfl rfl rfl rfl (by kernel_rfl) (by kernel_rfl) (fun _ _ _ h => h) ?_
                refine wd_skip (i := 7) [0, 1] rfl rfl rfl rfl (by kernel_rfl) (by kernel_rfl) (fun _ _ _ h => h) ?_
                refine wd_offD 5 rfl rfl rfl rfl (by kernel_rfl) [0, 1] (fun _ => rfl) ?_
                refine wd_offD 8 rfl rfl rfl rfl (by kernel_rfl) [0, 1] (fun _ => rfl) ?_
                refine wd_skip (i := 9) [0, 1] rfl rfl rfl rfl (by kernel_rfl) (by kernel_rfl) (fun _ _ _ h => h) ?_
                refine wd_take (i := 10) [0, 1] rfl rfl rfl rfl rfl (by kernel_rfl) (by kernel_rfl) (fun _ _ _ _ h => h) (yh_pickT rfl rfl rfl) ?_
                refine wd_done (by kernel_rfl) ?_
                refine ex_seq ?_
                refine cw_true rfl ?_
                refine cw_seq ?_
                refine cw_region ?_
                refine wl_u rfl (ow_y (yh_assign rfl rfl) rfl rfl (kk_wl ?_))
                refine wl_nil ?_
                refine ex_seq ?_
                refine cw_ret ?_
                refine ex_block_ret ?_
                refine ex_then_ret ?_
                refine ex_then_ret ?_
                refine ex_block_ret ?_
                refine ex_then_ret ?_
                obtain rfl := Option.some.inj h
                obtain rfl := go_ret hk12
                exact ex_r1 Tb rfl (.tmp rfl) (fun wq hq => ⟨_, rfl, hq.ext, rfl⟩)
              · skip
                replace h := bf c7 h
                refine wd_take (i := 4) [0, 1] rfl rfl rfl rfl rfl (by kernel_rfl) (by kernel_rfl) (fun _ _ _ _ h => h) (yh_loadBA Tb (k := 1) rfl rfl rfl rfl rfl rfl) ?_
                refine wd_take (i := 6) [0, 1] rfl rfl rfl rfl rfl (by kernel_rfl) (by kernel_rfl) (fun _ _ _ _ h => h) (yh_field Tb rfl rfl rfl) ?_
                refine wd_take (i := 7) [0, 1] rfl rfl rfl rfl rfl (by kernel_rfl) (by kernel_rfl) (fun _ _ _ _ h => h) (yh_loadB Tb (k := 0) rfl rfl rfl rfl rfl) ?_
                obtain ⟨x43, hx43, h⟩ := bd h
                refine wd_one 5 rfl rfl (by kernel_rfl) (ow_cN1 rfl hb46 rfl (fun w hw => c_impl_Flow_names N _ _ hx43 w (Lay.at_ h_f_steps hw)) rfl rfl (fun a43 c43 F43 => kk_wd [1, 2] (by kernel_rfl) ?_))
                obtain ⟨x46, hx46, h⟩ := bd h
                refine wd_one 8 rfl rfl (by kernel_rfl) (ow_cV rfl hb76 rfl (fun w hw => c_impl_NamesHave N _ _ _ hx46 w (rdo (A := strsL) 0 rfl hw) (Lay.at_ hf36 hw)) rfl rfl (kk_wd [1, 2] (by kernel_rfl) ?_))
                refine wd_take (i := 9) [1, 2] rfl rfl rfl rfl rfl (by kernel_rfl) (by kernel_rfl) (fun _ _ _ _ h => h) (yh_not rfl rfl) ?_
                refine wd_take (i := 10) [1, 2] rfl rfl rfl rfl rfl (by kernel_rfl) (by kernel_rfl) (fun _ _ _ _ h => h) (yh_pickF rfl rfl rfl) ?_
                refine wd_done (by kernel_rfl) ?_
                refine ex_seq ?_
                refine cw_split rfl (fun c8 => ?_) (fun c8 => ?_)
                · skip
                  replace h := bt c8 h
                  refine cw_seq ?_
                  refine cw_region ?_
                  refine wl_u rfl (ow_y (yh_assign rfl rfl) rfl rfl (kk_wl ?_))
                  refine wl_nil ?_
                  refine ex_seq ?_
                  refine cw_ret ?_
                  refine ex_block_ret ?_
                  refine ex_then_ret ?_
                  refine ex_then_ret ?_
                  refine ex_block_ret ?_
                  refine ex_then_ret ?_
                  obtain rfl := Option.some.inj h
                  obtain rfl := go_ret hk12
                  exact ex_r1 Tb rfl (.tmp rfl) (fun wq hq => ⟨_, rfl, hq.ext, rfl⟩)
                · skip
                  replace h := bf c8 h
                  refine cw_skip ?_
                  refine ex_block_normal ?_
                  refine ex_seq ?_
                  refine cw_region ?_
                  refine wl_u rfl (ow_y (yh_arI rfl rfl rfl rfl (by omega)) rfl rfl (kk_wl ?_))
                  refine wl_u rfl (ow_y (yh_move rfl rfl) rfl rfl (kk_wl ?_))
                  refine wl_nil ?_
                  exact ex_next [2] (hn12 (n12, s34 + 1) (Nat.lt_succ_self _) h) ⟨rfl, rfl, rfl, rfl, trivial⟩ (by kernel_rfl)
            · skip
              replace h := bf c6 h
              have q10 := ltb_false.1 c6
              refine cw_exit ?_
              refine ex_then_exit ?_
              refine ex_then_exit ?_
              obtain rfl := Option.some.inj h
              have h := go_brk hk12
              refine ex_block_exit ?_
              refine ex_seq ?_
              refine cw_seq ?_
              refine cw_dr [0, 2, 3, 4, 5, 6, 7] [] [blkC g1 36 [.int .i64 f.ver, .slice a_f_steps f.steps.length c_f_steps]] (by kernel_rfl) ?_
              refine wd_take (i := 0) [0] rfl rfl rfl rfl rfl (by kernel_rfl) (by kernel_rfl) (fun _ _ _ _ h => h) (yh_loadBA Tb (k := 0) rfl rfl rfl rfl rfl rfl) ?_
              refine wd_take (i := 3) [0] rfl rfl rfl rfl rfl (by kernel_rfl) (by kernel_rfl) (fun _ _ _ _ h => h) (yh_field Tb rfl rfl rfl) ?_
              refine wd_take (i := 4) [0] rfl rfl rfl rfl rfl (by kernel_rfl) (by kernel_rfl) (fun _ _ _ _ h => h) (yh_loadB Tb (k := 0) rfl rfl rfl rfl rfl) ?_
              refine wd_take (i := 5) [0] rfl rfl rfl rfl rfl (by kernel_rfl) (by kernel_rfl) (fun _ _ _ _ h => h) (yh_lenS Tb rfl rfl rfl rfl) ?_
              obtain ⟨x51, hx51, h⟩ := bd h
              refine wd_one 1 rfl rfl (by kernel_rfl) (ow_cN1 rfl hb52 rfl (fun w hw => c_impl_Flow_order N _ _ hx51 w (Lay.at_ h_f_steps hw)) rfl rfl (fun a51 c51 F51 => kk_wd [1] (by kernel_rfl) ?_))
              refine wd_know (x51.length ≤ 9223372036854775807) (fun w hw => own_max 0 rfl hw) (fun mo52 => ?_)
              refine wd_take (i := 2) [1] rfl rfl rfl rfl rfl (by kernel_rfl) (by kernel_rfl) (fun _ _ _ _ h => h) (yh_lenS Tb rfl rfl rfl rfl) ?_
              refine wd_take (i := 6) [1] rfl rfl rfl rfl rfl (by kernel_rfl) (by kernel_rfl) (fun _ _ _ _ h => h) (yh_cmpI rfl rfl rfl rfl) ?_
              refine wd_take (i := 7) [1] rfl rfl rfl rfl rfl (by kernel_rfl) (by kernel_rfl) (fun _ _ _ _ h => h) (yh_assign rfl rfl) ?_
              refine wd_done (by kernel_rfl) ?_
              refine ex_seq ?_
              refine cw_ret ?_
              obtain rfl := Option.some.inj h
              exact ex_r1 Tb rfl (.tmp rfl) (fun wq hq => ⟨_, rfl, hq.ext, rfl⟩)

def m_impl_Flow_at_f1 (N : Nat) (s_ : Step) (name : Str) : Option (Bool) := some (seq s_.name name)

set_option maxHeartbeats 4000000 in
theorem c_impl_Flow_at_f1 (N : Nat) (s_ : Step) (name : Str) (res : Bool) (h : m_impl_Flow_at_f1 N s_ name = some res) (w : World) {a_s__after : Option Addr} {c_s__after : Nat} {g_name : Nat} (h_s__after : strsL.rd w [] [.slice a_s__after s_.after.length c_s__after] s_.after) (hg_name : CellN w [] g_name 0 [.string name]) : Ret Try.prog 87 [.agg #[.string s_.name, .slice a_s__after s_.after.length c_s__after, .bool s_.undo], .pointer (some ⟨g_name, 0, none⟩)] w [] fun v w' => v = .bool res := by
  have mh_s__after := rd_max h_s__after
  unfold m_impl_Flow_at_f1 at h
  refine ret_enter Try.func87 rfl Try.ntmps87 rfl (Hp.refl w _) ?_
  refine cw_seq ?_
  refine cw_region ?_
  refine wl_u rfl (ow_boxA rfl rfl rfl rfl (fun g2 => kk_wl ?_))
  refine wl_u rfl (ow_y (yh_assign rfl rfl) rfl rfl (kk_wl ?_))
  refine wl_nil ?_
  refine ex_seq ?_
  refine cw_seq ?_
  refine cw_region ?_
  refine wl_u rfl (ow_y (yh_field Tb rfl rfl rfl) rfl rfl (kk_wl ?_))
  refine wl_u rfl (ow_y (yh_loadB Tb (k := 0) rfl rfl rfl rfl rfl) rfl rfl (kk_wl ?_))
  refine wl_u rfl (ow_y (yh_loadA0 Tb rfl rfl rfl hg_name rfl) rfl rfl (kk_wl ?_))
  refine wl_u rfl (ow_y (yh_cmpS rfl rfl rfl rfl) rfl rfl (kk_wl ?_))
  refine wl_u rfl (ow_y (yh_assign rfl rfl) rfl rfl (kk_wl ?_))
  refine wl_nil ?_
  refine ex_seq ?_
  refine cw_ret ?_
  obtain rfl := Option.some.inj h
  exact ex_r1 Tb rfl (.tmp rfl) (fun wq hq => ⟨_, rfl, hq.ext, rfl⟩)

def m_slices_IndexFunc_Step_L4 (N : Nat) (s_ : List Step) (f : Step → Option Bool) : Nat → Nat → Option (Ex (Nat) (Int))
  | 0, _ => none
  | n + 1, s8 => (bif ltb ((s8 : Nat) : Int) ((s_.length : Nat) : Int) then (s_[s8]?).bind fun y14 => (f y14).bind fun x16 => (bif x16 then some (Ex.ret ((s8 : Nat) : Int))
 else m_slices_IndexFunc_Step_L4 N s_ f n (s8 + 1))
 else some (Ex.brk (s8)))

def m_slices_IndexFunc_Step (N : Nat) (s_ : List Step) (f : Step → Option Bool) : Option (Int) := (m_slices_IndexFunc_Step_L4 N s_ f N 0).bind fun e4 => e4.go (fun r => r) fun b4 => some (-1)

set_option maxHeartbeats 4000000 in
theorem c_slices_IndexFunc_Step (N : Nat) (s_ : List Step) (f : Step → Option Bool) (res : Int) (h : m_slices_IndexFunc_Step N s_ f = some res) (w : World) {a_s_ : Option Addr} {c_s_ : Nat} {k_f : FuncId} {caps_f : List Value} (h_s_ : stepsL.rd w [] [.slice a_s_ s_.length c_s_] s_) (hb_f : hasBody Try.prog k_f) (hf_f : ∀ x0 b, f x0 = some b → ∀ w', ExtM [] w w' → ∀ a1 c1, strsL.rd w' [] [.slice a1 x0.after.length c1] x0.after → Ret Try.prog k_f ([.agg #[.string x0.name, .slice a1 x0.after.length c1, .bool x0.undo]] ++ caps_f) w' [] fun v _ => v = .bool b) : Ret Try.prog 86 [.slice a_s_ s_.length c_s_, .func (.func k_f) #[] caps_f.toArray] w [] fun v w' => v = .int .i64 res := by
  have mh_s_ := rd_max h_s_
  unfold m_slices_IndexFunc_Step at h
  refine ret_enter Try.func86 rfl Try.ntmps86 rfl (Hp.refl w _) ?_
  refine cw_seq ?_
  refine cw_region ?_
  refine wl_u rfl (ow_y (yh_assign rfl rfl) rfl rfl (kk_wl ?_))
  refine wl_nil ?_
  refine ex_seq ?_
  refine cw_seq ?_
  refine cw_seq ?_
  refine cw_region ?_
  refine wl_u rfl (ow_y (yh_move rfl rfl) rfl rfl (kk_wl ?_))
  refine wl_u rfl (ow_y (yh_lenS Tb rfl rfl rfl rfl) rfl rfl (kk_wl ?_))
  refine wl_u rfl (ow_y (yh_move rfl rfl) rfl rfl (kk_wl ?_))
  refine wl_nil ?_
  refine ex_seq ?_
  refine cw_block ?_
  obtain ⟨e4, he4, hk4⟩ := bd h
  clear h
  refine cw_loopG (σ := Nat × Nat) (fun s => m_slices_IndexFunc_Step_L4 N s_ f s.1 s.2 = some e4) (fun s => [(0, .slice a_s_ s_.length c_s_), (1, .func (.func k_f) #[] caps_f.toArray), (7, .int .i64 ((s_.length : Nat) : Int)), (8, .int .i64 ((s.2 : Nat) : Int))]) (fun s => []) (fun s => s.1) (N, 0) [] he4 ⟨rfl, rfl, rfl, rfl, trivial⟩ rfl (fun KL s he4 hn4 => ?_)
  obtain ⟨n4, s8⟩ := s
  simp only at he4 hn4 ⊢
  rcases n4 with _ | n4
  · exact nosome he4
  have h := he4; rw [m_slices_IndexFunc_Step_L4] at h
  refine cw_seq ?_
  refine cw_region ?_
  refine wl_u rfl (ow_y (yh_cmpI rfl rfl rfl rfl) rfl rfl (kk_wl ?_))
  refine wl_nil ?_
  refine ex_seq ?_
  refine cw_seq ?_
  refine cw_split rfl (fun c1 => ?_) (fun c1 => ?_)
  · skip
    replace h := bt c1 h
    have q1 := ltb_true.1 c1
    refine cw_skip ?_
    refine ex_seq ?_
    refine cw_seq ?_
    refine cw_block ?_
    refine cw_seq ?_
    refine cw_region ?_
    refine wl_u rfl (ow_y (yh_move rfl rfl) rfl rfl (kk_wl ?_))
    refine wl_u rfl (ow_y (yh_assign rfl rfl) rfl rfl (kk_wl ?_))
    refine wl_nil ?_
    refine ex_seq ?_
    refine cw_seq ?_
    refine cw_region ?_
    refine wl_u rfl (ow_y (yh_move rfl rfl) rfl rfl (kk_wl ?_))
    refine wl_u rfl (ow_y (yh_move rfl rfl) rfl rfl (kk_wl ?_))
    refine wl_u rfl (ow_y (yh_move rfl rfl) rfl rfl (kk_wl ?_))
    obtain ⟨y14, hy14, h⟩ := bd h
    obtain ⟨b14, o14, ha14⟩ := sl_addr h_s_ hy14
    subst ha14
    obtain ⟨a14, e14, hc14, hf14⟩ := get_step h_s_ hy14
    have mx14 := rd_max hf14
    refine wl_u rfl (ow_y (yh_idx Tb (k := s8) rfl rfl rfl rfl (get_lt hy14) rfl rfl) rfl rfl (kk_wl ?_))
    refine wl_u rfl (ow_y (yh_loadAN Tb rfl rfl rfl rfl hc14 rfl) rfl rfl (kk_wl ?_))
    obtain ⟨x16, hx16, h⟩ := bd h
    refine wl_u rfl (ow_callV rfl rfl hb_f rfl rfl (fun w hw => hf_f _ _ hx16 w hw.ext _ _ (Lay.at_ hf14 hw)) rfl rfl (kk_wl ?_))
    refine wl_nil ?_
    refine ex_seq ?_
    refine cw_split rfl (fun c2 => ?_) (fun c2 => ?_)
    · skip
      replace h := bt c2 h
      refine cw_seq ?_
      refine cw_region ?_
      refine wl_u rfl (ow_y (yh_move rfl rfl) rfl rfl (kk_wl ?_))
      refine wl_u rfl (ow_y (yh_assign rfl rfl) rfl rfl (kk_wl ?_))
      refine wl_nil ?_
      refine ex_seq ?_
      refine cw_ret ?_
      refine ex_block_ret ?_
      refine ex_then_ret ?_
      refine ex_then_ret ?_
      refine ex_block_ret ?_
      refine ex_then_ret ?_
      obtain rfl := Option.some.inj h
      obtain rfl := go_ret hk4
      exact ex_r1 Tb rfl (.tmp rfl) (fun wq hq => ⟨_, rfl, hq.ext, rfl⟩)
    · skip
      replace h := bf c2 h
      refine cw_skip ?_
      refine ex_block_normal ?_
      refine ex_seq ?_
      refine cw_region ?_
      refine wl_u rfl (ow_y (yh_arI rfl rfl rfl rfl (by omega)) rfl rfl (kk_wl ?_))
      refine wl_u rfl (ow_y (yh_move rfl rfl) rfl rfl (kk_wl ?_))
      refine wl_nil ?_
      exact ex_next [] (hn4 (n4, s8 + 1) (Nat.lt_succ_self _) h) ⟨rfl, rfl, rfl, rfl, trivial⟩ (by kernel_rfl)
  · skip
    replace h := bf c1 h
    have q2 := ltb_false.1 c1
    refine cw_exit ?_
    refine ex_then_exit ?_
    refine ex_then_exit ?_
    obtain rfl := Option.some.inj h
    have h := go_brk hk4
    refine ex_block_exit ?_
    refine ex_seq ?_
    refine cw_seq ?_
    refine cw_region ?_
    refine wl_u rfl (ow_y (yh_assign rfl rfl) rfl rfl (kk_wl ?_))
    refine wl_nil ?_
    refine ex_seq ?_
    refine cw_ret ?_
    obtain rfl := Option.some.inj h
    exact ex_r1 Tb rfl (.tmp rfl) (fun wq hq => ⟨_, rfl, hq.ext, rfl⟩)

def m_impl_Flow_at (N : Nat) (f : Flow) (name : Str) : Option (Int) := (m_slices_IndexFunc_Step N f.steps (fun x0 => m_impl_Flow_at_f1 N x0 name)).bind fun x8 => some x8

set_option maxHeartbeats 4000000 in
theorem c_impl_Flow_at (N : Nat) (f : Flow) (name : Str) (res : Int) (h : m_impl_Flow_at N f name = some res) (w : World) {a_f_steps : Option Addr} {c_f_steps : Nat} (h_f_steps : stepsL.rd w [] [.slice a_f_steps f.steps.length c_f_steps] f.steps) : Ret Try.prog 48 [.agg #[.int .i64 f.ver, .slice a_f_steps f.steps.length c_f_steps], .string name] w [] fun v w' => v = .int .i64 res := by
  have mh_f_steps := rd_max h_f_steps
  unfold m_impl_Flow_at at h
  refine ret_enter Try.func48 rfl Try.ntmps48 rfl (Hp.refl w _) ?_
  refine cw_seq ?_
  refine cw_region ?_
  refine wl_u rfl (ow_boxA rfl rfl rfl rfl (fun g2 => kk_wl ?_))
  refine wl_u rfl (ow_box1 rfl rfl rfl rfl rfl (fun g3 => kk_wl ?_))
  refine wl_u rfl (ow_y (yh_assign rfl rfl) rfl rfl (kk_wl ?_))
  refine wl_nil ?_
  refine ex_seq ?_
  refine cw_seq ?_
  refine cw_region ?_
  refine wl_u rfl (ow_y (yh_field Tb rfl rfl rfl) rfl rfl (kk_wl ?_))
  refine wl_u rfl (ow_y (yh_loadB Tb (k := 1) rfl rfl rfl rfl rfl) rfl rfl (kk_wl ?_))
  refine wl_u rfl (ow_y (yh_mkfn rfl rfl) rfl rfl (kk_wl ?_))
  obtain ⟨x8, hx8, h⟩ := bd h
  refine wl_u rfl (ow_cV rfl hb86 rfl (fun w hw => c_slices_IndexFunc_Step N _ _ _ hx8 w (Lay.at_ h_f_steps hw) hb87 (fun x0 b hb w' hE a1 c1 h1 => c_impl_Flow_at_f1 N x0 name b hb w' h1 (cell_blk ((hw.step hE).at (i := 0) rfl)))) rfl rfl (kk_wl ?_))
  refine wl_u rfl (ow_y (yh_assign rfl rfl) rfl rfl (kk_wl ?_))
  refine wl_nil ?_
  refine ex_seq ?_
  refine cw_ret ?_
  obtain rfl := Option.some.inj h
  exact ex_r1 Tb rfl (.tmp rfl) (fun wq hq => ⟨_, rfl, hq.ext, rfl⟩)

def m_impl_ChangesOf_f1 (N : Nat) (n_ : Str) (k0 : Flow) : Option (Bool) := (m_impl_Flow_at N k0 n_).bind fun x6 => some (leb 0 x6)

set_option maxHeartbeats 4000000 in
theorem c_impl_ChangesOf_f1 (N : Nat) (n_ : Str) (k0 : Flow) (res : Bool) (h : m_impl_ChangesOf_f1 N n_ k0 = some res) (w : World) {a_k0_steps : Option Addr} {c_k0_steps : Nat} {g_k0 : Nat} (h_k0_steps : stepsL.rd w [] [.slice a_k0_steps k0.steps.length c_k0_steps] k0.steps) (hg_k0 : CellN w [] g_k0 0 [.int .i64 k0.ver, .slice a_k0_steps k0.steps.length c_k0_steps]) : Ret Try.prog 47 [.string n_, .pointer (some ⟨g_k0, 0, none⟩)] w [] fun v w' => v = .bool res := by
  have mh_k0_steps := rd_max h_k0_steps
  unfold m_impl_ChangesOf_f1 at h
  refine ret_enter Try.func47 rfl Try.ntmps47 rfl (Hp.refl w _) ?_
  refine cw_seq ?_
  refine cw_region ?_
  refine wl_u rfl (ow_y (yh_assign rfl rfl) rfl rfl (kk_wl ?_))
  refine wl_nil ?_
  refine ex_seq ?_
  refine cw_seq ?_
  refine cw_region ?_
  refine wl_u rfl (ow_y (yh_loadAN Tb rfl rfl rfl rfl hg_k0 rfl) rfl rfl (kk_wl ?_))
  refine wl_u rfl (ow_y (yh_move rfl rfl) rfl rfl (kk_wl ?_))
  obtain ⟨x6, hx6, h⟩ := bd h
  refine wl_u rfl (ow_cV rfl hb48 rfl (fun w hw => c_impl_Flow_at N _ _ _ hx6 w (Lay.at_ h_k0_steps hw)) rfl rfl (kk_wl ?_))
  refine wl_u rfl (ow_y (yh_cmpI rfl rfl rfl rfl) rfl rfl (kk_wl ?_))
  refine wl_u rfl (ow_y (yh_assign rfl rfl) rfl rfl (kk_wl ?_))
  refine wl_nil ?_
  refine ex_seq ?_
  refine cw_ret ?_
  obtain rfl := Option.some.inj h
  exact ex_r1 Tb rfl (.tmp rfl) (fun wq hq => ⟨_, rfl, hq.ext, rfl⟩)

def m_slices_IndexFunc_string_L4 (N : Nat) (s_ : List Str) (f : Str → Option Bool) : Nat → Nat → Option (Ex (Nat) (Int))
  | 0, _ => none
  | n + 1, s8 => (bif ltb ((s8 : Nat) : Int) ((s_.length : Nat) : Int) then (s_[s8]?).bind fun y14 => (f y14).bind fun x16 => (bif x16 then some (Ex.ret ((s8 : Nat) : Int))
 else m_slices_IndexFunc_string_L4 N s_ f n (s8 + 1))
 else some (Ex.brk (s8)))

def m_slices_IndexFunc_string (N : Nat) (s_ : List Str) (f : Str → Option Bool) : Option (Int) := (m_slices_IndexFunc_string_L4 N s_ f N 0).bind fun e4 => e4.go (fun r => r) fun b4 => some (-1)

set_option maxHeartbeats 4000000 in
theorem c_slices_IndexFunc_string (N : Nat) (s_ : List Str) (f : Str → Option Bool) (res : Int) (h : m_slices_IndexFunc_string N s_ f = some res) (w : World) {a_s_ : Option Addr} {c_s_ : Nat} {k_f : FuncId} {caps_f : List Value} (h_s_ : strsL.rd w [] [.slice a_s_ s_.length c_s_] s_) (hb_f : hasBody Try.prog k_f) (hf_f : ∀ x0 b, f x0 = some b → ∀ w', ExtM [] w w' → Ret Try.prog k_f ([.string x0] ++ caps_f) w' [] fun v _ => v = .bool b) : Ret Try.prog 85 [.slice a_s_ s_.length c_s_, .func (.func k_f) #[] caps_f.toArray] w [] fun v w' => v = .int .i64 res := by
  have mh_s_ := rd_max h_s_
  unfold m_slices_IndexFunc_string at h
  refine ret_enter Try.func85 rfl Try.ntmps85 rfl (Hp.refl w _) ?_
  refine cw_seq ?_
  refine cw_region ?_
  refine wl_u rfl (ow_y (yh_assign rfl rfl) rfl rfl (kk_wl ?_))
  refine wl_nil ?_
  refine ex_seq ?_
  refine cw_seq ?_
  refine cw_seq ?_
  refine cw_region ?_
  refine wl_u rfl (ow_y (yh_move rfl rfl) rfl rfl (kk_wl ?_))
  refine wl_u rfl (ow_y (yh_lenS Tb rfl rfl rfl rfl) rfl rfl (kk_wl ?_))
  refine wl_u rfl (ow_y (yh_move rfl rfl) rfl rfl (kk_wl ?_))
  refine wl_nil ?_
  refine ex_seq ?_
  refine cw_block ?_
  obtain ⟨e4, he4, hk4⟩ := bd h
  clear h
  refine cw_loopG (σ := Nat × Nat) (fun s => m_slices_IndexFunc_string_L4 N s_ f s.1 s.2 = some e4) (fun s => [(0, .slice a_s_ s_.length c_s_), (1, .func (.func k_f) #[] caps_f.toArray), (7, .int .i64 ((s_.length : Nat) : Int)), (8, .int .i64 ((s.2 : Nat) : Int))]) (fun s => []) (fun s => s.1) (N, 0) [] he4 ⟨rfl, rfl, rfl, rfl, trivial⟩ rfl (fun KL s he4 hn4 => ?_)
  obtain ⟨n4, s8⟩ := s
  simp only at he4 hn4 ⊢
  rcases n4 with _ | n4
  · exact nosome he4
  have h := he4; rw [m_slices_IndexFunc_string_L4] at h
  refine cw_seq ?_
  refine cw_region ?_
  refine wl_u rfl (ow_y (yh_cmpI rfl rfl rfl rfl) rfl rfl (kk_wl ?_))
  refine wl_nil ?_
  refine ex_seq ?_
  refine cw_seq ?_
  refine cw_split rfl (fun c1 => ?_) (fun c1 => ?_)
  · skip
    replace h := bt c1 h
    have q1 := ltb_true.1 c1
    refine cw_skip ?_
    refine ex_seq ?_
    refine cw_seq ?_
    refine cw_block ?_
    refine cw_seq ?_
    refine cw_region ?_
    refine wl_u rfl (ow_y (yh_move rfl rfl) rfl rfl (kk_wl ?_))
    refine wl_u rfl (ow_y (yh_assign rfl rfl) rfl rfl (kk_wl ?_))
    refine wl_nil ?_
    refine ex_seq ?_
    refine cw_seq ?_
    refine cw_region ?_
    refine wl_u rfl (ow_y (yh_move rfl rfl) rfl rfl (kk_wl ?_))
    refine wl_u rfl (ow_y (yh_move rfl rfl) rfl rfl (kk_wl ?_))
    refine wl_u rfl (ow_y (yh_move rfl rfl) rfl rfl (kk_wl ?_))
    obtain ⟨y14, hy14, h⟩ := bd h
    obtain ⟨b14, o14, ha14⟩ := sl_addr h_s_ hy14
    subst ha14
    have hc14 := get_str h_s_ hy14
    refine wl_u rfl (ow_y (yh_idx Tb (k := s8) rfl rfl rfl rfl (get_lt hy14) rfl rfl) rfl rfl (kk_wl ?_))
    refine wl_u rfl (ow_y (yh_loadA0 Tb rfl rfl rfl hc14 rfl) rfl rfl (kk_wl ?_))
    obtain ⟨x16, hx16, h⟩ := bd h
    refine wl_u rfl (ow_callV rfl rfl hb_f rfl rfl (fun w hw => hf_f _ _ hx16 w hw.ext) rfl rfl (kk_wl ?_))
    refine wl_nil ?_
    refine ex_seq ?_
    refine cw_split rfl (fun c2 => ?_) (fun c2 => ?_)
    · skip
      replace h := bt c2 h
      refine cw_seq ?_
      refine cw_region ?_
      refine wl_u rfl (ow_y (yh_move rfl rfl) rfl rfl (kk_wl ?_))
      refine wl_u rfl (ow_y (yh_assign rfl rfl) rfl rfl (kk_wl ?_))
      refine wl_nil ?_
      refine ex_seq ?_
      refine cw_ret ?_
      refine ex_block_ret ?_
      refine ex_then_ret ?_
      refine ex_then_ret ?_
      refine ex_block_ret ?_
      refine ex_then_ret ?_
      obtain rfl := Option.some.inj h
      obtain rfl := go_ret hk4
      exact ex_r1 Tb rfl (.tmp rfl) (fun wq hq => ⟨_, rfl, hq.ext, rfl⟩)
    · skip
      replace h := bf c2 h
      refine cw_skip ?_
      refine ex_block_normal ?_
      refine ex_seq ?_
      refine cw_region ?_
      refine wl_u rfl (ow_y (yh_arI rfl rfl rfl rfl (by omega)) rfl rfl (kk_wl ?_))
      refine wl_u rfl (ow_y (yh_move rfl rfl) rfl rfl (kk_wl ?_))
      refine wl_nil ?_
      exact ex_next [] (hn4 (n4, s8 + 1) (Nat.lt_succ_self _) h) ⟨rfl, rfl, rfl, rfl, trivial⟩ (by kernel_rfl)
  · skip
    replace h := bf c1 h
    have q2 := ltb_false.1 c1
    refine cw_exit ?_
    refine ex_then_exit ?_
    refine ex_then_exit ?_
    obtain rfl := Option.some.inj h
    have h := go_brk hk4
    refine ex_block_exit ?_
    refine ex_seq ?_
    refine cw_seq ?_
    refine cw_region ?_
    refine wl_u rfl (ow_y (yh_assign rfl rfl) rfl rfl (kk_wl ?_))
    refine wl_nil ?_
    refine ex_seq ?_
    refine cw_ret ?_
    obtain rfl := Option.some.inj h
    exact ex_r1 Tb rfl (.tmp rfl) (fun wq hq => ⟨_, rfl, hq.ext, rfl⟩)

def m_slices_ContainsFunc_string (N : Nat) (s_ : List Str) (f : Str → Option Bool) : Option (Bool) := (m_slices_IndexFunc_string N s_ f).bind fun x7 => some (leb 0 x7)

set_option maxHeartbeats 4000000 in
theorem c_slices_ContainsFunc_string (N : Nat) (s_ : List Str) (f : Str → Option Bool) (res : Bool) (h : m_slices_ContainsFunc_string N s_ f = some res) (w : World) {a_s_ : Option Addr} {c_s_ : Nat} {k_f : FuncId} {caps_f : List Value} (h_s_ : strsL.rd w [] [.slice a_s_ s_.length c_s_] s_) (hb_f : hasBody Try.prog k_f) (hf_f : ∀ x0 b, f x0 = some b → ∀ w', ExtM [] w w' → Ret Try.prog k_f ([.string x0] ++ caps_f) w' [] fun v _ => v = .bool b) : Ret Try.prog 45 [.slice a_s_ s_.length c_s_, .func (.func k_f) #[] caps_f.toArray] w [] fun v w' => v = .bool res := by
  have mh_s_ := rd_max h_s_
  unfold m_slices_ContainsFunc_string at h
  refine ret_enter Try.func45 rfl Try.ntmps45 rfl (Hp.refl w _) ?_
  refine cw_seq ?_
  refine cw_region ?_
  refine wl_u rfl (ow_y (yh_assign rfl rfl) rfl rfl (kk_wl ?_))
  refine wl_nil ?_
  refine ex_seq ?_
  refine cw_seq ?_
  refine cw_region ?_
  refine wl_u rfl (ow_y (yh_move rfl rfl) rfl rfl (kk_wl ?_))
  refine wl_u rfl (ow_y (yh_move rfl rfl) rfl rfl (kk_wl ?_))
  obtain ⟨x7, hx7, h⟩ := bd h
  refine wl_u rfl (ow_cV rfl hb85 rfl (fun w hw => c_slices_IndexFunc_string N _ _ _ hx7 w (Lay.at_ h_s_ hw) hb_f (fun x b hb w' hE => hf_f x b hb w' (hw.ext.trans0 hE))) rfl rfl (kk_wl ?_))
  refine wl_u rfl (ow_y (yh_cmpI rfl rfl rfl rfl) rfl rfl (kk_wl ?_))
  refine wl_u rfl (ow_y (yh_assign rfl rfl) rfl rfl (kk_wl ?_))
  refine wl_nil ?_
  refine ex_seq ?_
  refine cw_ret ?_
  obtain rfl := Option.some.inj h
  exact ex_r1 Tb rfl (.tmp rfl) (fun wq hq => ⟨_, rfl, hq.ext, rfl⟩)

def m_impl_cloneNames (N : Nat) (list_ : List Str) : Option (List Str) := (appd ([] : List Str) list_).bind fun l4 => some (([] : List Str) ++ list_)

set_option maxHeartbeats 4000000 in
theorem c_impl_cloneNames (N : Nat) (list_ : List Str) (res : List Str) (h : m_impl_cloneNames N list_ = some res) (w : World) {a_list_ : Option Addr} {c_list_ : Nat} (h_list_ : strsL.rd w [] [.slice a_list_ list_.length c_list_] list_) : Ret Try.prog 72 [.slice a_list_ list_.length c_list_] w [] fun v w' => ∃ a1 c1 F1, v = .slice a1 res.length c1 ∧ NewC w w' [owC strsL F1 [.slice a1 res.length c1] res] := by
  have mh_list_ := rd_max h_list_
  unfold m_impl_cloneNames at h
  refine ret_enter Try.func72 rfl Try.ntmps72 rfl (Hp.refl w _) ?_
  refine cw_seq ?_
  refine cw_region ?_
  refine wl_u rfl (ow_y (yh_assign rfl rfl) rfl rfl (kk_wl ?_))
  refine wl_nil ?_
  refine ex_seq ?_
  refine cw_seq ?_
  refine cw_region ?_
  refine wl_u rfl (ow_y (yh_move rfl rfl) rfl rfl (kk_wl ?_))
  obtain ⟨hll4, h⟩ := bd_appd h
  refine wl_u rfl (ow_nilS strsL rfl (ow_appP Tb (i := 0) rfl rfl rfl rfl rfl (fun w hw => Lay.at_ h_list_ hw) rfl rfl rfl rfl hll4 (by decide) rfl rfl (fun a4 c4 F4 => kk_wl ?_)))
  refine wl_u rfl (ow_y (yh_assign rfl rfl) rfl rfl (kk_wl ?_))
  refine wl_nil ?_
  refine ex_seq ?_
  refine cw_ret ?_
  obtain rfl := Option.some.inj h
  exact ex_r1 Tb rfl (.tmp rfl) (fun wq hq => ⟨_, rfl, hq.ext, ⟨a4, c4, F4, rfl, NewC.sel [0] hq rfl⟩⟩)

def m_impl_Step_clone (N : Nat) (s_ : Step) : Option (Step) := (m_impl_cloneNames N s_.after).bind fun x5 => some (Step.mk s_.name x5 s_.undo)

set_option maxHeartbeats 4000000 in
theorem c_impl_Step_clone (N : Nat) (s_ : Step) (res : Step) (h : m_impl_Step_clone N s_ = some res) (w : World) {a_s__after : Option Addr} {c_s__after : Nat} (h_s__after : strsL.rd w [] [.slice a_s__after s_.after.length c_s__after] s_.after) : Ret Try.prog 50 [.agg #[.string s_.name, .slice a_s__after s_.after.length c_s__after, .bool s_.undo]] w [] fun v w' => ∃ a1 c1 F1, v = .agg #[.string res.name, .slice a1 res.after.length c1, .bool res.undo] ∧ NewC w w' [owC strsL F1 [.slice a1 res.after.length c1] res.after] := by
  have mh_s__after := rd_max h_s__after
  unfold m_impl_Step_clone at h
  refine ret_enter Try.func50 rfl Try.ntmps50 rfl (Hp.refl w _) ?_
  refine cw_seq ?_
  refine cw_region ?_
  refine wl_u rfl (ow_boxA rfl rfl rfl rfl (fun g1 => kk_wl ?_))
  refine wl_u rfl (ow_allocA Tb rfl rfl rfl rfl (fun g2 => kk_wl ?_))
  refine wl_nil ?_
  refine ex_seq ?_
  refine cw_seq ?_
  refine cw_region ?_
  refine wl_u rfl (ow_y (yh_field Tb rfl rfl rfl) rfl rfl (kk_wl ?_))
  refine wl_u rfl (ow_y (yh_loadB Tb (k := 1) rfl rfl rfl rfl rfl) rfl rfl (kk_wl ?_))
  obtain ⟨x5, hx5, h⟩ := bd h
  refine wl_u rfl (ow_cN1 rfl hb72 rfl (fun w hw => c_impl_cloneNames N _ _ hx5 w (Lay.at_ h_s__after hw)) rfl rfl (fun a5 c5 F5 => kk_wl ?_))
  refine wl_u rfl (ow_y (yh_field Tb rfl rfl rfl) rfl rfl (kk_wl ?_))
  refine wl_u rfl (ow_store1 Tb (k := 2) rfl rfl rfl rfl rfl rfl rfl rfl rfl (kk_wl ?_))
  refine wl_nil ?_
  refine ex_seq ?_
  refine cw_seq ?_
  refine cw_region ?_
  refine wl_u rfl (ow_y (yh_loadBA Tb (k := 0) rfl rfl rfl rfl rfl rfl) rfl rfl (kk_wl ?_))
  refine wl_u rfl (ow_storeA Tb (k := 2) rfl rfl rfl rfl rfl rfl rfl rfl rfl (kk_wl ?_))
  refine wl_nil ?_
  refine ex_seq ?_
  refine cw_ret ?_
  obtain rfl := Option.some.inj h
  exact ex_r1 Tb rfl (.cellA 0 rfl rfl rfl rfl rfl) (fun wq hq => ⟨_, rfl, hq.ext, ⟨a5, c5, F5, rfl, NewC.sel [2] hq rfl⟩⟩)

def m_impl_ChangesOf_f2 (N : Nat) (kind : Int) (s_ : Step) (k0 : List Change) : Option (List Change) := (m_impl_Step_clone N s_).bind fun x8 => (appd k0 [(Change.mk kind x8)]).bind fun l11 => some (k0 ++ [(Change.mk kind x8)])

set_option maxHeartbeats 4000000 in
theorem c_impl_ChangesOf_f2 (N : Nat) (kind : Int) (s_ : Step) (k0 : List Change) (res : List Change) (h : m_impl_ChangesOf_f2 N kind s_ k0 = some res) (w : World) {a_s__after : Option Addr} {c_s__after : Nat} {a_k0 : Option Addr} {c_k0 g_k0 : Nat} {F_k0 : List Nat} (hr : (blkC g_k0 31 [.slice a_k0 k0.length c_k0]).A w) (hr2 : (owC changesL F_k0 [.slice a_k0 k0.length c_k0] k0).A w) (hnd : (g_k0 :: F_k0).Nodup) (h_s__after : strsL.rd w (g_k0 :: F_k0) [.slice a_s__after s_.after.length c_s__after] s_.after) : Ret Try.prog 49 [.int .i64 kind, .agg #[.string s_.name, .slice a_s__after s_.after.length c_s__after, .bool s_.undo], .pointer (some ⟨g_k0, 0, none⟩)] w (g_k0 :: F_k0) fun v w' => ∃ a1 c1 F1, v = .tuple #[] ∧ NewM w w' (g_k0 :: F_k0) [blkC g_k0 31 [.slice a1 res.length c1], owC changesL F1 [.slice a1 res.length c1] res] := by
  have mh_s__after := rd_max h_s__after
  unfold m_impl_ChangesOf_f2 at h
  refine ret_enter Try.func49 rfl Try.ntmps49 rfl (hp_pair hr hr2 hnd) ?_
  refine cw_seq ?_
  refine cw_region ?_
  refine wl_u rfl (ow_boxA rfl rfl rfl rfl (fun g4 => kk_wl ?_))
  refine wl_nil ?_
  refine ex_seq ?_
  refine cw_dr [0, 1, 2, 4] [6, 7] [blkC g4 48 [.string s_.name, .slice a_s__after s_.after.length c_s__after, .bool s_.undo], blkC g_k0 31 [.slice a_k0 k0.length c_k0], owC changesL F_k0 [.slice a_k0 k0.length c_k0] k0] (by kernel_rfl) ?_
  refine wd_take (i := 0) [0, 1, 2] rfl rfl rfl rfl rfl (by kernel_rfl) (by kernel_rfl) (fun _ _ _ _ h => h) (yh_loadB Tb (k := 1) rfl rfl rfl rfl rfl) ?_
  refine wd_take (i := 1) [0, 1, 2] rfl rfl rfl rfl rfl (by kernel_rfl) (by kernel_rfl) (fun _ _ _ _ h => h) (yh_move rfl rfl) ?_
  refine wd_take (i := 2) [0, 1, 2] rfl rfl rfl rfl rfl (by kernel_rfl) (by kernel_rfl) (fun _ _ _ _ h => h) (yh_loadBA Tb (k := 0) rfl rfl rfl rfl rfl rfl) ?_
  obtain ⟨x8, hx8, h⟩ := bd h
  refine wd_one 3 rfl rfl (by kernel_rfl) (ow_cN1 rfl hb50 rfl (fun w hw => c_impl_Step_clone N _ _ hx8 w (Lay.at_ h_s__after hw)) rfl rfl (fun a8 c8 F8 => kk_wd [1, 2, 3] (by kernel_rfl) ?_))
  refine wd_take (i := 4) [1, 2, 3] rfl rfl rfl rfl rfl (by kernel_rfl) (by kernel_rfl) (fun _ _ _ _ h => h) (yh_build [.int .i64 kind, .string x8.name, .slice a8 x8.after.length c8, .bool x8.undo] rfl rfl (by kernel_rfl)) ?_
  refine wd_one 5 rfl rfl (by kernel_rfl) (ow_litA Tb rfl rfl rfl rfl rfl rfl (by decide) rfl rfl (fun g10 => kk_wd [2, 3, 4] (by kernel_rfl) ?_))
  obtain ⟨hll11, h⟩ := bd_appd h
  refine wd_one 6 rfl rfl (by kernel_rfl) (ow_chg (c' := owC changeL F8 [.int .i64 kind, .string x8.name, .slice a8 x8.after.length c8, .bool x8.undo] (Change.mk kind x8)) 1 rfl (fun w hA => changeL_mk (Change.mk kind x8) hA) rfl (ow_appE Tb (i := 4) (j := 0) (k := 1) rfl rfl rfl rfl rfl rfl rfl rfl rfl rfl rfl (app1 hll11) (by decide) rfl rfl (fun a11 c11 F11 => kk_wdT rfl ?_)))
  refine wd_one 7 rfl rfl (by kernel_rfl) (ow_store1 Tb (k := 3) rfl rfl rfl rfl rfl rfl rfl rfl rfl (kk_wdT rfl ?_))
  refine wd_done (by kernel_rfl) ?_
  obtain rfl := Option.some.inj h
  exact ex_n0 rfl (fun wq hq => ⟨_, rfl, hq.ext, ⟨a11, c11, F11, rfl, NewM.sel [0, 1] hq (by kernel_rfl)⟩⟩)

def m_slices_Equal_string_L8 (N : Nat) (s1 : List Str) (s2 : List Str) : Nat → Nat → Option (Ex (Nat) (Bool))
  | 0, _ => none
  | n + 1, s13 => (bif ltb ((s13 : Nat) : Int) ((s1.length : Nat) : Int) then (s1[s13]?).bind fun y18 => (s2[s13]?).bind fun y22 => (bif !(seq y18 y22) then some (Ex.ret false)
 else m_slices_Equal_string_L8 N s1 s2 n (s13 + 1))
 else some (Ex.brk (s13)))

def m_slices_Equal_string (N : Nat) (s1 : List Str) (s2 : List Str) : Option (Bool) := (bif !(eqb ((s1.length : Nat) : Int) ((s2.length : Nat) : Int)) then some false
 else (m_slices_Equal_string_L8 N s1 s2 N 0).bind fun e8 => e8.go (fun r => r) fun b8 => some true)

set_option maxHeartbeats 4000000 in
theorem c_slices_Equal_string (N : Nat) (s1 : List Str) (s2 : List Str) (res : Bool) (h : m_slices_Equal_string N s1 s2 = some res) (w : World) {a_s1 a_s2 : Option Addr} {c_s1 c_s2 : Nat} (h_s1 : strsL.rd w [] [.slice a_s1 s1.length c_s1] s1) (h_s2 : strsL.rd w [] [.slice a_s2 s2.length c_s2] s2) : Ret Try.prog 51 [.slice a_s1 s1.length c_s1, .slice a_s2 s2.length c_s2] w [] fun v w' => v = .bool res := by
  have mh_s1 := rd_max h_s1
  have mh_s2 := rd_max h_s2
  unfold m_slices_Equal_string at h
  refine ret_enter Try.func51 rfl Try.ntmps51 rfl (Hp.refl w _) ?_
  refine cw_seq ?_
  refine cw_region ?_
  refine wl_u rfl (ow_y (yh_assign rfl rfl) rfl rfl (kk_wl ?_))
  refine wl_nil ?_
  refine ex_seq ?_
  refine cw_seq ?_
  refine cw_seq ?_
  refine cw_region ?_
  refine wl_u rfl (ow_y (yh_move rfl rfl) rfl rfl (kk_wl ?_))
  refine wl_u rfl (ow_y (yh_lenS Tb rfl rfl rfl rfl) rfl rfl (kk_wl ?_))
  refine wl_u rfl (ow_y (yh_move rfl rfl) rfl rfl (kk_wl ?_))
  refine wl_u rfl (ow_y (yh_lenS Tb rfl rfl rfl rfl) rfl rfl (kk_wl ?_))
  refine wl_u rfl (ow_y (yh_cmpI rfl rfl rfl rfl) rfl rfl (kk_wl ?_))
  refine wl_nil ?_
  refine ex_seq ?_
  refine cw_split rfl (fun c1 => ?_) (fun c1 => ?_)
  · skip
    replace h := bt c1 h
    have q1 := eqb_false.1 (nt c1)
    refine cw_seq ?_
    refine cw_region ?_
    refine wl_u rfl (ow_y (yh_assign rfl rfl) rfl rfl (kk_wl ?_))
    refine wl_nil ?_
    refine ex_seq ?_
    refine cw_ret ?_
    refine ex_then_ret ?_
    obtain rfl := Option.some.inj h
    exact ex_r1 Tb rfl (.tmp rfl) (fun wq hq => ⟨_, rfl, hq.ext, rfl⟩)
  · skip
    replace h := bf c1 h
    have q2 := eqb_true.1 (nf c1)
    refine cw_skip ?_
    refine ex_seq ?_
    refine cw_seq ?_
    refine cw_seq ?_
    refine cw_region ?_
    refine wl_u rfl (ow_y (yh_move rfl rfl) rfl rfl (kk_wl ?_))
    refine wl_u rfl (ow_y (yh_lenS Tb rfl rfl rfl rfl) rfl rfl (kk_wl ?_))
    refine wl_u rfl (ow_y (yh_move rfl rfl) rfl rfl (kk_wl ?_))
    refine wl_nil ?_
    refine ex_seq ?_
    refine cw_block ?_
    obtain ⟨e8, he8, hk8⟩ := bd h
    clear h
    refine cw_loopG (σ := Nat × Nat) (fun s => m_slices_Equal_string_L8 N s1 s2 s.1 s.2 = some e8) (fun s => [(0, .slice a_s1 s1.length c_s1), (1, .slice a_s2 s2.length c_s2), (12, .int .i64 ((s1.length : Nat) : Int)), (13, .int .i64 ((s.2 : Nat) : Int))]) (fun s => []) (fun s => s.1) (N, 0) [] he8 ⟨rfl, rfl, rfl, rfl, trivial⟩ rfl (fun KL s he8 hn8 => ?_)
    obtain ⟨n8, s13⟩ := s
    simp only at he8 hn8 ⊢
    rcases n8 with _ | n8
    · exact nosome he8
    have h := he8; rw [m_slices_Equal_string_L8] at h
    refine cw_seq ?_
    refine cw_region ?_
    refine wl_u rfl (ow_y (yh_cmpI rfl rfl rfl rfl) rfl rfl (kk_wl ?_))
    refine wl_nil ?_
    refine ex_seq ?_
    refine cw_seq ?_
    refine cw_split rfl (fun c2 => ?_) (fun c2 => ?_)
    · skip
      replace h := bt c2 h
      have q3 := ltb_true.1 c2
      refine cw_skip ?_
      refine ex_seq ?_
      refine cw_seq ?_
      refine cw_block ?_
      refine cw_seq ?_
      refine cw_region ?_
      refine wl_u rfl (ow_y (yh_move rfl rfl) rfl rfl (kk_wl ?_))
      refine wl_u rfl (ow_y (yh_assign rfl rfl) rfl rfl (kk_wl ?_))
      refine wl_nil ?_
      refine ex_seq ?_
      refine cw_seq ?_
      refine cw_dr [0, 1, 2, 3, 4, 5, 6, 7, 8] [] [] (by kernel_rfl) ?_
      refine wd_take (i := 0) [] rfl rfl rfl rfl rfl (by kernel_rfl) (by kernel_rfl) (fun _ _ _ _ h => h) (yh_move rfl rfl) ?_
      refine wd_take (i := 1) [] rfl rfl rfl rfl rfl (by kernel_rfl) (by kernel_rfl) (fun _ _ _ _ h => h) (yh_move rfl rfl) ?_
      obtain ⟨y18, hy18, h⟩ := bd h
      obtain ⟨b18, o18, ha18⟩ := sl_addr h_s1 hy18
      subst ha18
      have hc18 := get_str h_s1 hy18
      refine wd_take (i := 2) [] rfl rfl rfl rfl rfl (by kernel_rfl) (by kernel_rfl) (fun _ _ _ _ h => h) (yh_idx Tb (k := s13) rfl rfl rfl rfl (get_lt hy18) rfl rfl) ?_
      refine wd_take (i := 3) [] rfl rfl rfl rfl rfl (by kernel_rfl) (by kernel_rfl) (fun _ _ _ _ h => h) (yh_loadA0 Tb rfl rfl rfl hc18 rfl) ?_
      refine wd_take (i := 4) [] rfl rfl rfl rfl rfl (by kernel_rfl) (by kernel_rfl) (fun _ _ _ _ h => h) (yh_move rfl rfl) ?_
      refine wd_take (i := 5) [] rfl rfl rfl rfl rfl (by kernel_rfl) (by kernel_rfl) (fun _ _ _ _ h => h) (yh_move rfl rfl) ?_
      obtain ⟨y22, hy22, h⟩ := bd h
      obtain ⟨b22, o22, ha22⟩ := sl_addr h_s2 hy22
      subst ha22
      have hc22 := get_str h_s2 hy22
      refine wd_take (i := 6) [] rfl rfl rfl rfl rfl (by kernel_rfl) (by kernel_rfl) (fun _ _ _ _ h => h) (yh_idx Tb (k := s13) rfl rfl rfl rfl (get_lt hy22) rfl rfl) ?_
      refine wd_take (i := 7) [] rfl rfl rfl rfl rfl (by kernel_rfl) (by kernel_rfl) (fun _ _ _ _ h => h) (yh_loadA0 Tb rfl rfl rfl hc22 rfl) ?_
      refine wd_take (i := 8) [] rfl rfl rfl rfl rfl (by kernel_rfl) (by kernel_rfl) (fun _ _ _ _ h => h) (yh_cmpS rfl rfl rfl rfl) ?_
      refine wd_done (by kernel_rfl) ?_
      refine ex_seq ?_
      refine cw_split rfl (fun c3 => ?_) (fun c3 => ?_)
      · skip
        replace h := bt c3 h
        refine cw_seq ?_
        refine cw_region ?_
        refine wl_u rfl (ow_y (yh_assign rfl rfl) rfl rfl (kk_wl ?_))
        refine wl_nil ?_
        refine ex_seq ?_
        refine cw_ret ?_
        refine ex_block_ret ?_
        refine ex_then_ret ?_
        refine ex_then_ret ?_
        refine ex_block_ret ?_
        refine ex_then_ret ?_
        obtain rfl := Option.some.inj h
        obtain rfl := go_ret hk8
        exact ex_r1 Tb rfl (.tmp rfl) (fun wq hq => ⟨_, rfl, hq.ext, rfl⟩)
      · skip
        replace h := bf c3 h
        refine cw_skip ?_
        refine ex_block_normal ?_
        refine ex_seq ?_
        refine cw_region ?_
        refine wl_u rfl (ow_y (yh_arI rfl rfl rfl rfl (by omega)) rfl rfl (kk_wl ?_))
        refine wl_u rfl (ow_y (yh_move rfl rfl) rfl rfl (kk_wl ?_))
        refine wl_nil ?_
        exact ex_next [] (hn8 (n8, s13 + 1) (Nat.lt_succ_self _) h) ⟨rfl, rfl, rfl, rfl, trivial⟩ (by kernel_rfl)
    · skip
      replace h := bf c2 h
      have q4 := ltb_false.1 c2
      refine cw_exit ?_
      refine ex_then_exit ?_
      refine ex_then_exit ?_
      obtain rfl := Option.some.inj h
      have h := go_brk hk8
      refine ex_block_exit ?_
      refine ex_seq ?_
      refine cw_seq ?_
      refine cw_region ?_
      refine wl_u rfl (ow_y (yh_assign rfl rfl) rfl rfl (kk_wl ?_))
      refine wl_nil ?_
      refine ex_seq ?_
      refine cw_ret ?_
      obtain rfl := Option.some.inj h
      exact ex_r1 Tb rfl (.tmp rfl) (fun wq hq => ⟨_, rfl, hq.ext, rfl⟩)

def m_slices_Reverse_string_L3 (N : Nat) : Nat → (List Str) → Int → Int → Option (Ex (List Str × Int × Int) ((Unit) × (List Str)))
  | 0, _, _, _ => none
  | n + 1, s0, s2, s3 => (bif ltb s2 s3 then (geti s0 s3).bind fun y20 => (geti s0 s2).bind fun y24 => (geti (s0.set s2.toNat y20) s3).bind fun y27 => m_slices_Reverse_string_L3 N n ((s0.set s2.toNat y20).set s3.toNat y24) (w64 (s2 + 1)) (w64 (s3 - 1))
 else some (Ex.brk (s0, s2, s3)))

def m_slices_Reverse_string (N : Nat) (s_ : List Str) : Option ((Unit) × (List Str)) := (m_slices_Reverse_string_L3 N N s_ 0 (((s_.length : Nat) : Int) - 1)).bind fun e3 => e3.go (fun r => r) fun b3 => some ((), b3.1)

set_option maxHeartbeats 4000000 in
theorem c_slices_Reverse_string (N : Nat) (s_ : List Str) (res : (Unit) × (List Str)) (h : m_slices_Reverse_string N s_ = some res) (w : World) {a_s_ : Option Addr} {c_s_ : Nat} {F_s_ : List Nat} (hr : (owC strsL F_s_ [.slice a_s_ s_.length c_s_] s_).A w) (hnd : F_s_.Nodup) : Ret Try.prog 53 [.slice a_s_ s_.length c_s_] w F_s_ fun v w' => ∃ F0, v = .tuple #[] ∧ NewM w w' F_s_ [owC strsL F0 [.slice a_s_ s_.length c_s_] res.2] := by
  unfold m_slices_Reverse_string at h
  refine ret_enter Try.func53 rfl Try.ntmps53 rfl (hp_one hr hnd) ?_
  refine cw_seq ?_
  refine cw_region ?_
  refine wl_u rfl (ow_y (yh_move rfl rfl) rfl rfl (kk_wl ?_))
  refine wl_know (s_.length ≤ 9223372036854775807) (fun w hw => own_max 0 rfl hw) (fun mo5 => ?_)
  refine wl_u rfl (ow_y (yh_lenS Tb rfl rfl rfl rfl) rfl rfl (kk_wl ?_))
  refine wl_u rfl (ow_y (yh_arI rfl rfl rfl rfl (by omega)) rfl rfl (kk_wl ?_))
  refine wl_u rfl (ow_y (yh_assign rfl rfl) rfl rfl (kk_wl ?_))
  refine wl_u rfl (ow_y (yh_assign rfl rfl) rfl rfl (kk_wl ?_))
  refine wl_nil ?_
  refine ex_seq ?_
  refine cw_block ?_
  obtain ⟨e3, he3, hk3⟩ := bd h
  clear h
  refine cw_loopG (σ := Nat × (List Str) × Int × Int × (List Nat)) (fun s => m_slices_Reverse_string_L3 N s.1 s.2.1 s.2.2.1 s.2.2.2.1 = some e3) (fun s => [(0, .slice a_s_ s_.length c_s_), (2, .int .i64 s.2.2.1), (3, .int .i64 s.2.2.2.1)]) (fun s => [owC strsL s.2.2.2.2 [.slice a_s_ s_.length c_s_] s.2.1]) (fun s => s.1) (N, s_, 0, ((s_.length : Nat) : Int) - 1, F_s_) [0] he3 ⟨rfl, rfl, rfl, trivial⟩ rfl (fun KL s he3 hn3 => ?_)
  obtain ⟨n3, s0, s2, s3, Fs0⟩ := s
  simp only at he3 hn3 ⊢
  rcases n3 with _ | n3
  · exact nosome he3
  have h := he3; rw [m_slices_Reverse_string_L3] at h
  refine cw_seq ?_
  refine cw_seq ?_
  refine cw_region ?_
  refine wl_u rfl (ow_y (yh_move rfl rfl) rfl rfl (kk_wl ?_))
  refine wl_u rfl (ow_y (yh_move rfl rfl) rfl rfl (kk_wl ?_))
  refine wl_u rfl (ow_y (yh_cmpI rfl rfl rfl rfl) rfl rfl (kk_wl ?_))
  refine wl_nil ?_
  refine ex_seq ?_
  refine cw_split rfl (fun c1 => ?_) (fun c1 => ?_)
  · skip
    replace h := bt c1 h
    have q1 := ltb_true.1 c1
    refine cw_skip ?_
    refine ex_seq ?_
    refine cw_seq ?_
    refine cw_block ?_
    refine cw_dr [0, 1, 2, 3, 4, 5, 8, 9] [] [] (by kernel_rfl) ?_
    obtain ⟨y20, zy20, h⟩ := bd h
    obtain ⟨iy20, hy20⟩ := geti_some zy20
    refine wd_ex (fun g => a_s_ = some ⟨g, 0, none⟩) (fun w hw => by exact own_addrK 0 rfl hy20 hw) (fun g20 hg20 => ?_)
    subst hg20
    obtain ⟨y24, zy24, h⟩ := bd h
    obtain ⟨iy24, hy24⟩ := geti_some zy24
    refine wd_take (i := 0) [] rfl rfl rfl rfl rfl (by kernel_rfl) (by kernel_rfl) (fun _ _ _ _ h => h) (yh_move rfl rfl) ?_
    refine wd_take (i := 1) [] rfl rfl rfl rfl rfl (by kernel_rfl) (by kernel_rfl) (fun _ _ _ _ h => h) (yh_move rfl rfl) ?_
    refine wd_take (i := 2) [] rfl rfl rfl rfl rfl (by kernel_rfl) (by kernel_rfl) (fun _ _ _ _ h => h) (yh_move rfl rfl) ?_
    refine wd_take (i := 3) [] rfl rfl rfl rfl rfl (by kernel_rfl) (by kernel_rfl) (fun _ _ _ _ h => h) (yh_move rfl rfl) ?_
    refine wd_take (i := 4) [] rfl rfl rfl rfl rfl (by kernel_rfl) (by kernel_rfl) (fun _ _ _ _ h => h) (yh_move rfl rfl) ?_
    refine wd_take (i := 5) [] rfl rfl rfl rfl rfl (by kernel_rfl) (by kernel_rfl) (fun _ _ _ _ h => h) (yh_move rfl rfl) ?_
    refine wd_take (i := 8) [] rfl rfl rfl rfl rfl (by kernel_rfl) (by kernel_rfl) (fun _ _ _ _ h => h) (yh_move rfl rfl) ?_
    refine wd_take (i := 9) [] rfl rfl rfl rfl rfl (by kernel_rfl) (by kernel_rfl) (fun _ _ _ _ h => h) (yh_move rfl rfl) ?_
    refine wd_all [6, 10] (by kernel_rfl) (by simp) (fun i hi => ?_)
    simp only [List.mem_cons, List.not_mem_nil, or_false] at hi
    rcases hi with rfl | rfl
    · refine ⟨_, rfl, rfl, ?_⟩
      refine ow_know (s_.length = s0.length) (fun w hw => own_lenK 0 rfl hw) (fun hn20 => ?_)
      refine (ow_y (yh_idx Tb (k := s3.toNat) rfl rfl rfl iy20 (Nat.lt_of_lt_of_eq (get_lt hy20) hn20.symm) rfl rfl) rfl rfl (kk_wd [] (by kernel_rfl) ?_))
      refine wd_all [7, 10] (by kernel_rfl) (by simp) (fun i hi => ?_)
      simp only [List.mem_cons, List.not_mem_nil, or_false] at hi
      rcases hi with rfl | rfl
      · refine ⟨_, rfl, rfl, ?_⟩
        refine (ow_y (yh_loadO0 Tb 0 rfl rfl rfl rfl rfl hy20 rfl) rfl rfl (kk_wd [] (by kernel_rfl) ?_))
        refine wd_know (s_.length = s0.length) (fun w hw => own_lenK 0 rfl hw) (fun hn24 => ?_)
        refine wd_one 10 rfl rfl (by kernel_rfl) (ow_y (yh_idx Tb (k := s2.toNat) rfl rfl rfl iy24 (Nat.lt_of_lt_of_eq (get_lt hy24) hn24.symm) rfl rfl) rfl rfl (kk_wd [] (by kernel_rfl) ?_))
        refine wd_one 11 rfl rfl (by kernel_rfl) (ow_y (yh_loadO0 Tb 0 rfl rfl rfl rfl rfl hy24 rfl) rfl rfl (kk_wd [] (by kernel_rfl) ?_))
        refine wd_know (s_.length = s0.length) (fun w hw => own_lenK 0 rfl hw) (fun hn26 => ?_)
        refine wd_one 12 rfl rfl (by kernel_rfl) (ow_y (yh_idx Tb (k := s2.toNat) rfl rfl rfl iy24 (Nat.lt_of_lt_of_eq (get_lt hy24) hn26.symm) rfl rfl) rfl rfl (kk_wd [] (by kernel_rfl) ?_))
        refine wd_one 13 rfl rfl (by kernel_rfl) (ow_setP Tb (u := y20) 0 rfl rfl rfl rfl rfl (get_lt hy24) rfl rfl (fun Fs55 => kk_wd [] (by kernel_rfl) ?_))
        obtain ⟨y27, zy27, h⟩ := bd h
        obtain ⟨iy27, hy27⟩ := geti_some zy27
        refine wd_know (s_.length = (s0.set s2.toNat y20).length) (fun w hw => own_lenK 0 rfl hw) (fun hn27 => ?_)
        refine wd_one 14 rfl rfl (by kernel_rfl) (ow_y (yh_idx Tb (k := s3.toNat) rfl rfl rfl iy27 (Nat.lt_of_lt_of_eq (get_lt hy27) hn27.symm) rfl rfl) rfl rfl (kk_wd [] (by kernel_rfl) ?_))
        refine wd_one 15 rfl rfl (by kernel_rfl) (ow_setP Tb (u := y24) 0 rfl rfl rfl rfl rfl (get_lt hy27) rfl rfl (fun Fs57 => kk_wd [] (by kernel_rfl) ?_))
        refine wd_done (by kernel_rfl) ?_
        refine ex_block_normal ?_
        refine ex_seq ?_
        refine cw_region ?_
        refine wl_u rfl (ow_y (yh_move rfl rfl) rfl rfl (kk_wl ?_))
        refine wl_u rfl (ow_y (yh_arW rfl rfl rfl rfl) rfl rfl (kk_wl ?_))
        refine wl_u rfl (ow_y (yh_move rfl rfl) rfl rfl (kk_wl ?_))
        refine wl_u rfl (ow_y (yh_arW rfl rfl rfl rfl) rfl rfl (kk_wl ?_))
        refine wl_u rfl (ow_y (yh_assign rfl rfl) rfl rfl (kk_wl ?_))
        refine wl_u rfl (ow_y (yh_assign rfl rfl) rfl rfl (kk_wl ?_))
        refine wl_nil ?_
        exact ex_next [0] (hn3 (n3, ((s0.set s2.toNat y20).set s3.toNat y24), w64 (s2 + 1), w64 (s3 - 1), Fs57) (Nat.lt_succ_self _) h) ⟨rfl, rfl, rfl, trivial⟩ (by kernel_rfl)
      · refine ⟨_, rfl, rfl, ?_⟩
        refine ow_know (s_.length = s0.length) (fun w hw => own_lenK 0 rfl hw) (fun hn24 => ?_)
        refine (ow_y (yh_idx Tb (k := s2.toNat) rfl rfl rfl iy24 (Nat.lt_of_lt_of_eq (get_lt hy24) hn24.symm) rfl rfl) rfl rfl (kk_wd [] (by kernel_rfl) ?_))
        refine wd_all [7, 11] (by kernel_rfl) (by simp) (fun i hi => ?_)
        simp only [List.mem_cons, List.not_mem_nil, or_false] at hi
        rcases hi with rfl | rfl
        · refine ⟨_, rfl, rfl, ?_⟩
          refine (ow_y (yh_loadO0 Tb 0 rfl rfl rfl rfl rfl hy20 rfl) rfl rfl (kk_wd [] (by kernel_rfl) ?_))
          refine wd_one 11 rfl rfl (by kernel_rfl) (ow_y (yh_loadO0 Tb 0 rfl rfl rfl rfl rfl hy24 rfl) rfl rfl (kk_wd [] (by kernel_rfl) ?_))
          refine wd_know (s_.length = s0.length) (fun w hw => own_lenK 0 rfl hw) (fun hn26 => ?_)
          refine wd_one 12 rfl rfl (by kernel_rfl) (ow_y (yh_idx Tb (k := s2.toNat) rfl rfl rfl iy24 (Nat.lt_of_lt_of_eq (get_lt hy24) hn26.symm) rfl rfl) rfl rfl (kk_wd [] (by kernel_rfl) ?_))
          refine wd_one 13 rfl rfl (by kernel_rfl) (ow_setP Tb (u := y20) 0 rfl rfl rfl rfl rfl (get_lt hy24) rfl rfl (fun Fs59 => kk_wd [] (by kernel_rfl) ?_))
          obtain ⟨y27, zy27, h⟩ := bd h
          obtain ⟨iy27, hy27⟩ := geti_some zy27
          refine wd_know (s_.length = (s0.set s2.toNat y20).length) (fun w hw => own_lenK 0 rfl hw) (fun hn27 => ?_)
          refine wd_one 14 rfl rfl (by kernel_rfl) (ow_y (yh_idx Tb (k := s3.toNat) rfl rfl rfl iy27 (Nat.lt_of_lt_of_eq (get_lt hy27) hn27.symm) rfl rfl) rfl rfl (kk_wd [] (by kernel_rfl) ?_))
          refine wd_one 15 rfl rfl (by kernel_rfl) (ow_setP Tb (u := y24) 0 rfl rfl rfl rfl rfl (get_lt hy27) rfl rfl (fun Fs61 => kk_wd [] (by kernel_rfl) ?_))
          refine wd_done (by kernel_rfl) ?_
          refine ex_block_normal ?_
          refine ex_seq ?_
          refine cw_region ?_
          refine wl_u rfl (ow_y (yh_move rfl rfl) rfl rfl (kk_wl ?_))
          refine wl_u rfl (ow_y (yh_arW rfl rfl rfl rfl) rfl rfl (kk_wl ?_))
          refine wl_u rfl (ow_y (yh_move rfl rfl) rfl rfl (kk_wl ?_))
          refine wl_u rfl (ow_y (yh_arW rfl rfl rfl rfl) rfl rfl (kk_wl ?_))
          refine wl_u rfl (ow_y (yh_assign rfl rfl) rfl rfl (kk_wl ?_))
          refine wl_u rfl (ow_y (yh_assign rfl rfl) rfl rfl (kk_wl ?_))
          refine wl_nil ?_
          exact ex_next [0] (hn3 (n3, ((s0.set s2.toNat y20).set s3.toNat y24), w64 (s2 + 1), w64 (s3 - 1), Fs61) (Nat.lt_succ_self _) h) ⟨rfl, rfl, rfl, trivial⟩ (by kernel_rfl)
        · refine ⟨_, rfl, rfl, ?_⟩
          refine (ow_y (yh_loadO0 Tb 0 rfl rfl rfl rfl rfl hy24 rfl) rfl rfl (kk_wd [] (by kernel_rfl) ?_))
          refine wd_one 7 rfl rfl (by kernel_rfl) (ow_y (yh_loadO0 Tb 0 rfl rfl rfl rfl rfl hy20 rfl) rfl rfl (kk_wd [] (by kernel_rfl) ?_))
          refine wd_know (s_.length = s0.length) (fun w hw => own_lenK 0 rfl hw) (fun hn26 => ?_)
          refine wd_one 12 rfl rfl (by kernel_rfl) (ow_y (yh_idx Tb (k := s2.toNat) rfl rfl rfl iy24 (Nat.lt_of_lt_of_eq (get_lt hy24) hn26.symm) rfl rfl) rfl rfl (kk_wd [] (by kernel_rfl) ?_))
          refine wd_one 13 rfl rfl (by kernel_rfl) (ow_setP Tb (u := y20) 0 rfl rfl rfl rfl rfl (get_lt hy24) rfl rfl (fun Fs63 => kk_wd [] (by kernel_rfl) ?_))
          obtain ⟨y27, zy27, h⟩ := bd h
          obtain ⟨iy27, hy27⟩ := geti_some zy27
          refine wd_know (s_.length = (s0.set s2.toNat y20).length) (fun w hw => own_lenK 0 rfl hw) (fun hn27 => ?_)
          refine wd_one 14 rfl rfl (by kernel_rfl) (ow_y (yh_idx Tb (k := s3.toNat) rfl rfl rfl iy27 (Nat.lt_of_lt_of_eq (get_lt hy27) hn27.symm) rfl rfl) rfl rfl (kk_wd [] (by kernel_rfl) ?_))
          refine wd_one 15 rfl rfl (by kernel_rfl) (ow_setP Tb (u := y24) 0 rfl rfl rfl rfl rfl (get_lt hy27) rfl rfl (fun Fs65 => kk_wd [] (by kernel_rfl) ?_))
          refine wd_done (by kernel_rfl) ?_
          refine ex_block_normal ?_
          refine ex_seq ?_
          refine cw_region ?_
          refine wl_u rfl (ow_y (yh_move rfl rfl) rfl rfl (kk_wl ?_))
          refine wl_u rfl (ow_y (yh_arW rfl rfl rfl rfl) rfl rfl (kk_wl ?_))
          refine wl_u rfl (ow_y (yh_move rfl rfl) rfl rfl (kk_wl ?_))
          refine wl_u rfl (ow_y (yh_arW rfl rfl rfl rfl) rfl rfl (kk_wl ?_))
          refine wl_u rfl (ow_y (yh_assign rfl rfl) rfl rfl (kk_wl ?_))
          refine wl_u rfl (ow_y (yh_assign rfl rfl) rfl rfl (kk_wl ?_))
          refine wl_nil ?_
          exact ex_next [0] (hn3 (n3, ((s0.set s2.toNat y20).set s3.toNat y24), w64 (s2 + 1), w64 (s3 - 1), Fs65) (Nat.lt_succ_self _) h) ⟨rfl, rfl, rfl, trivial⟩ (by kernel_rfl)
    · refine ⟨_, rfl, rfl, ?_⟩
      refine ow_know (s_.length = s0.length) (fun w hw => own_lenK 0 rfl hw) (fun hn24 => ?_)
      refine (ow_y (yh_idx Tb (k := s2.toNat) rfl rfl rfl iy24 (Nat.lt_of_lt_of_eq (get_lt hy24) hn24.symm) rfl rfl) rfl rfl (kk_wd [] (by kernel_rfl) ?_))
      refine wd_all [6, 11] (by kernel_rfl) (by simp) (fun i hi => ?_)
      simp only [List.mem_cons, List.not_mem_nil, or_false] at hi
      rcases hi with rfl | rfl
      · refine ⟨_, rfl, rfl, ?_⟩
        refine ow_know (s_.length = s0.length) (fun w hw => own_lenK 0 rfl hw) (fun hn20 => ?_)
        refine (ow_y (yh_idx Tb (k := s3.toNat) rfl rfl rfl iy20 (Nat.lt_of_lt_of_eq (get_lt hy20) hn20.symm) rfl rfl) rfl rfl (kk_wd [] (by kernel_rfl) ?_))
        refine wd_all [7, 11] (by kernel_rfl) (by simp) (fun i hi => ?_)
        simp only [List.mem_cons, List.not_mem_nil, or_false] at hi
        rcases hi with rfl | rfl
        · refine ⟨_, rfl, rfl, ?_⟩
          refine (ow_y (yh_loadO0 Tb 0 rfl rfl rfl rfl rfl hy20 rfl) rfl rfl (kk_wd [] (by kernel_rfl) ?_))
          refine wd_one 11 rfl rfl (by kernel_rfl) (ow_y (yh_loadO0 Tb 0 rfl rfl rfl rfl rfl hy24 rfl) rfl rfl (kk_wd [] (by kernel_rfl) ?_))
          refine wd_know (s_.length = s0.length) (fun w hw => own_lenK 0 rfl hw) (fun hn26 => ?_)
          refine wd_one 12 rfl rfl (by kernel_rfl) (ow_y (yh_idx Tb (k := s2.toNat) rfl rfl rfl iy24 (Nat.lt_of_lt_of_eq (get_lt hy24) hn26.symm) rfl rfl) rfl rfl (kk_wd [] (by kernel_rfl) ?_))
          refine wd_one 13 rfl rfl (by kernel_rfl) (ow_setP Tb (u := y20) 0 rfl rfl rfl rfl rfl (get_lt hy24) rfl rfl (fun Fs67 => kk_wd [] (by kernel_rfl) ?_))
          obtain ⟨y27, zy27, h⟩ := bd h
          obtain ⟨iy27, hy27⟩ := geti_some zy27
          refine wd_know (s_.length = (s0.set s2.toNat y20).length) (fun w hw => own_lenK 0 rfl hw) (fun hn27 => ?_)
          refine wd_one 14 rfl rfl (by kernel_rfl) (ow_y (yh_idx Tb (k := s3.toNat) rfl rfl rfl iy27 (Nat.lt_of_lt_of_eq (get_lt hy27) hn27.symm) rfl rfl) rfl rfl (kk_wd [] (by kernel_rfl) ?_))
          refine wd_one 15 rfl rfl (by kernel_rfl) (ow_setP Tb (u := y24) 0 rfl rfl rfl rfl rfl (get_lt hy27) rfl rfl (fun Fs69 => kk_wd [] (by kernel_rfl) ?_))
          refine wd_done (by kernel_rfl) ?_
          refine ex_block_normal ?_
          refine ex_seq ?_
          refine cw_region ?_
          refine wl_u rfl (ow_y (yh_move rfl rfl) rfl rfl (kk_wl ?_))
          refine wl_u rfl (ow_y (yh_arW rfl rfl rfl rfl) rfl rfl (kk_wl ?_))
          refine wl_u rfl (ow_y (yh_move rfl rfl) rfl rfl (kk_wl ?_))
          refine wl_u rfl (ow_y (yh_arW rfl rfl rfl rfl) rfl rfl (kk_wl ?_))
          refine wl_u rfl (ow_y (yh_assign rfl rfl) rfl rfl (kk_wl ?_))
          refine wl_u rfl (ow_y (yh_assign rfl rfl) rfl rfl (kk_wl ?_))
          refine wl_nil ?_
          exact ex_next [0] (hn3 (n3, ((s0.set s2.toNat y20).set s3.toNat y24), w64 (s2 + 1), w64 (s3 - 1), Fs69) (Nat.lt_succ_self _) h) ⟨rfl, rfl, rfl, trivial⟩ (by kernel_rfl)
        · refine ⟨_, rfl, rfl, ?_⟩
          refine (ow_y (yh_loadO0 Tb 0 rfl rfl rfl rfl rfl hy24 rfl) rfl rfl (kk_wd [] (by kernel_rfl) ?_))
          refine wd_one 7 rfl rfl (by kernel_rfl) (ow_y (yh_loadO0 Tb 0 rfl rfl rfl rfl rfl hy20 rfl) rfl rfl (kk_wd [] (by kernel_rfl) ?_))
          refine wd_know (s_.length = s0.length) (fun w hw => own_lenK 0 rfl hw) (fun hn26 => ?_)
          refine wd_one 12 rfl rfl (by kernel_rfl) (ow_y (yh_idx Tb (k := s2.toNat) rfl rfl rfl iy24 (Nat.lt_of_lt_of_eq (get_lt hy24) hn26.symm) rfl rfl) rfl rfl (kk_wd [] (by kernel_rfl) ?_))
          refine wd_one 13 rfl rfl (by kernel_rfl) (ow_setP Tb (u := y20) 0 rfl rfl rfl rfl rfl (get_lt hy24) rfl rfl (fun Fs71 => kk_wd [] (by kernel_rfl) ?_))
          obtain ⟨y27, zy27, h⟩ := bd h
          obtain ⟨iy27, hy27⟩ := geti_some zy27
          refine wd_know (s_.length = (s0.set s2.toNat y20).length) (fun w hw => own_lenK 0 rfl hw) (fun hn27 => ?_)
          refine wd_one 14 rfl rfl (by kernel_rfl) (ow_y (yh_idx Tb (k := s3.toNat) rfl rfl rfl iy27 (Nat.lt_of_lt_of_eq (get_lt hy27) hn27.symm) rfl rfl) rfl rfl (kk_wd [] (by kernel_rfl) ?_))
          refine wd_one 15 rfl rfl (by kernel_rfl) (ow_setP Tb (u := y24) 0 rfl rfl rfl rfl rfl (get_lt hy27) rfl rfl (fun Fs73 => kk_wd [] (by kernel_rfl) ?_))
          refine wd_done (by kernel_rfl) ?_
          refine ex_block_normal ?_
          refine ex_seq ?_
          refine cw_region ?_
          refine wl_u rfl (ow_y (yh_move rfl rfl) rfl rfl (kk_wl ?_))
          refine wl_u rfl (ow_y (yh_arW rfl rfl rfl rfl) rfl rfl (kk_wl ?_))
          refine wl_u rfl (ow_y (yh_move rfl rfl) rfl rfl (kk_wl ?_))
          refine wl_u rfl (ow_y (yh_arW rfl rfl rfl rfl) rfl rfl (kk_wl ?_))
          refine wl_u rfl (ow_y (yh_assign rfl rfl) rfl rfl (kk_wl ?_))
          refine wl_u rfl (ow_y (yh_assign rfl rfl) rfl rfl (kk_wl ?_))
          refine wl_nil ?_
          exact ex_next [0] (hn3 (n3, ((s0.set s2.toNat y20).set s3.toNat y24), w64 (s2 + 1), w64 (s3 - 1), Fs73) (Nat.lt_succ_self _) h) ⟨rfl, rfl, rfl, trivial⟩ (by kernel_rfl)
      · refine ⟨_, rfl, rfl, ?_⟩
        refine (ow_y (yh_loadO0 Tb 0 rfl rfl rfl rfl rfl hy24 rfl) rfl rfl (kk_wd [] (by kernel_rfl) ?_))
        refine wd_know (s_.length = s0.length) (fun w hw => own_lenK 0 rfl hw) (fun hn20 => ?_)
        refine wd_one 6 rfl rfl (by kernel_rfl) (ow_y (yh_idx Tb (k := s3.toNat) rfl rfl rfl iy20 (Nat.lt_of_lt_of_eq (get_lt hy20) hn20.symm) rfl rfl) rfl rfl (kk_wd [] (by kernel_rfl) ?_))
        refine wd_one 7 rfl rfl (by kernel_rfl) (ow_y (yh_loadO0 Tb 0 rfl rfl rfl rfl rfl hy20 rfl) rfl rfl (kk_wd [] (by kernel_rfl) ?_))
        refine wd_know (s_.length = s0.length) (fun w hw => own_lenK 0 rfl hw) (fun hn26 => ?_)
        refine wd_one 12 rfl rfl (by kernel_rfl) (ow_y (yh_idx Tb (k := s2.toNat) rfl rfl rfl iy24 (Nat.lt_of_lt_of_eq (get_lt hy24) hn26.symm) rfl rfl) rfl rfl (kk_wd [] (by kernel_rfl) ?_))
        refine wd_one 13 rfl rfl (by kernel_rfl) (ow_setP Tb (u := y20) 0 rfl rfl rfl rfl rfl (get_lt hy24) rfl rfl (fun Fs75 => kk_wd [] (by kernel_rfl) ?_))
        obtain ⟨y27, zy27, h⟩ := bd h
        obtain ⟨iy27, hy27⟩ := geti_some zy27
        refine wd_know (s_.length = (s0.set s2.toNat y20).length) (fun w hw => own_lenK 0 rfl hw) (fun hn27 => ?_)
        refine wd_one 14 rfl rfl (by kernel_rfl) (ow_y (yh_idx Tb (k := s3.toNat) rfl rfl rfl iy27 (Nat.lt_of_lt_of_eq (get_lt hy27) hn27.symm) rfl rfl) rfl rfl (kk_wd [] (by kernel_rfl) ?_))
        refine wd_one 15 rfl rfl (by kernel_rfl) (ow_setP Tb (u := y24) 0 rfl rfl rfl rfl rfl (get_lt hy27) rfl rfl (fun Fs77 => kk_wd [] (by kernel_rfl) ?_))
        refine wd_done (by kernel_rfl) ?_
        refine ex_block_normal ?_
        refine ex_seq ?_
        refine cw_region ?_
        refine wl_u rfl (ow_y (yh_move rfl rfl) rfl rfl (kk_wl ?_))
        refine wl_u rfl (ow_y (yh_arW rfl rfl rfl rfl) rfl rfl (kk_wl ?_))
        refine wl_u rfl (ow_y (yh_move rfl rfl) rfl rfl (kk_wl ?_))
        refine wl_u rfl (ow_y (yh_arW rfl rfl rfl rfl) rfl rfl (kk_wl ?_))
        refine wl_u rfl (ow_y (yh_assign rfl rfl) rfl rfl (kk_wl ?_))
        refine wl_u rfl (ow_y (yh_assign rfl rfl) rfl rfl (kk_wl ?_))
        refine wl_nil ?_
        exact ex_next [0] (hn3 (n3, ((s0.set s2.toNat y20).set s3.toNat y24), w64 (s2 + 1), w64 (s3 - 1), Fs77) (Nat.lt_succ_self _) h) ⟨rfl, rfl, rfl, trivial⟩ (by kernel_rfl)
  · skip
    replace h := bf c1 h
    have q2 := ltb_false.1 c1
    refine cw_exit ?_
    refine ex_then_exit ?_
    refine ex_then_exit ?_
    obtain rfl := Option.some.inj h
    have h := go_brk hk3
    refine ex_block_exit ?_
    obtain rfl := Option.some.inj h
    exact ex_n0 rfl (fun wq hq => ⟨_, rfl, hq.ext, ⟨Fs0, rfl, NewM.sel [0] hq rfl⟩⟩)

def m_impl_ChangesOf_L12 (N : Nat) (u0 : Flow) (u1 : Flow) : Nat → (List Change) → Nat → Option (Ex (List Change × Nat) (List Change × Bool))
  | 0, _, _ => none
  | n + 1, s6_c_0, s37 => (bif ltb ((s37 : Nat) : Int) ((u0.steps.length : Nat) : Int) then (u0.steps[s37]?).bind fun y39 => (m_impl_Flow_at N u1 y39.name).bind fun x44 => (bif leb 0 x44 then (bif ltb 0 ((y39.after.length : Nat) : Int) then (geti u1.steps x44).bind fun y59 => (m_slices_Equal_string N y39.after y59.after).bind fun x62 => (bif !x62 then (m_impl_ChangesOf_f2 N 3 (Step.mk y39.name [] false) s6_c_0).bind fun xc1 => m_impl_ChangesOf_L12 N u0 u1 n xc1 (s37 + 1)
 else m_impl_ChangesOf_L12 N u0 u1 n s6_c_0 (s37 + 1))
 else m_impl_ChangesOf_L12 N u0 u1 n s6_c_0 (s37 + 1))
 else m_impl_ChangesOf_L12 N u0 u1 n s6_c_0 (s37 + 1))
 else some (Ex.brk (s6_c_0, s37)))

def m_impl_ChangesOf_L24 (N : Nat) (u1 : Flow) (x72 : List Str) (x74 : (Unit) × (List Str)) : Nat → (List Change) → Nat → Option (Ex (List Change × Nat) (List Change × Bool))
  | 0, _, _ => none
  | n + 1, s6_c_0, s77 => (bif ltb ((s77 : Nat) : Int) ((x72.length : Nat) : Int) then (x74.2[s77]?).bind fun y79 => (m_impl_Flow_at N u1 y79).bind fun x83 => (bif ltb x83 0 then (m_impl_ChangesOf_f2 N 2 (Step.mk y79 [] false) s6_c_0).bind fun xc2 => m_impl_ChangesOf_L24 N u1 x72 x74 n xc2 (s77 + 1)
 else m_impl_ChangesOf_L24 N u1 x72 x74 n s6_c_0 (s77 + 1))
 else some (Ex.brk (s6_c_0, s77)))

def m_impl_ChangesOf_L37 (N : Nat) (u0 : Flow) (u1 : Flow) (x91 : List Str) : Nat → (List Change) → Nat → Option (Ex (List Change × Nat) (List Change × Bool))
  | 0, _, _ => none
  | n + 1, s6_c_0, s93 => (bif ltb ((s93 : Nat) : Int) ((x91.length : Nat) : Int) then (x91[s93]?).bind fun y95 => (m_impl_Flow_at N u1 y95).bind fun x101 => (geti u1.steps x101).bind fun y102 => (m_impl_Flow_at N u0 y95).bind fun x106 => (bif ltb x106 0 then (m_impl_ChangesOf_f2 N 1 y102 s6_c_0).bind fun xc3 => m_impl_ChangesOf_L37 N u0 u1 x91 n xc3 (s93 + 1)
 else ((bif ltb 0 ((y102.after.length : Nat) : Int) then (geti u0.steps x106).bind fun y122 => (m_slices_Equal_string N y102.after y122.after).bind fun x125 => (bif !x125 then (m_impl_ChangesOf_f2 N 3 (Step.mk y95 y102.after false) s6_c_0).bind fun xc4 => some xc4
 else some s6_c_0)
 else some s6_c_0) : Option ((List Change))).bind fun j148 => (geti u0.steps x106).bind fun y139 => (bif y102.undo != y139.undo then (m_impl_ChangesOf_f2 N 4 (Step.mk y95 [] y102.undo) j148).bind fun xc5 => m_impl_ChangesOf_L37 N u0 u1 x91 n xc5 (s93 + 1)
 else m_impl_ChangesOf_L37 N u0 u1 x91 n j148 (s93 + 1)))
 else some (Ex.brk (s6_c_0, s93)))

def m_impl_ChangesOf (N : Nat) (u0 : Flow) (u1 : Flow) : Option (List Change × Bool) := (m_impl_FlowValid N u0).bind fun x19 => (bif !x19 then some (([] : List Change), false)
 else (m_impl_FlowValid N u1).bind fun x23 => (bif !x23 then some (([] : List Change), false)
 else (m_impl_Flow_names N u0).bind fun x28 => (m_slices_ContainsFunc_string N x28 (fun x0 => m_impl_ChangesOf_f1 N x0 u1)).bind fun x30 => (bif !x30 then some (([] : List Change), false)
 else (m_impl_ChangesOf_L12 N u0 u1 N ([] : List Change) 0).bind fun e12 => e12.go (fun r => r) fun b12 => (m_impl_Flow_order N u0).bind fun x72 => (m_slices_Reverse_string N x72).bind fun x74 => (m_impl_ChangesOf_L24 N u1 x72 x74 N b12.1 0).bind fun e24 => e24.go (fun r => r) fun b24 => (m_impl_Flow_order N u1).bind fun x91 => (m_impl_ChangesOf_L37 N u0 u1 x91 N b24.1 0).bind fun e37 => e37.go (fun r => r) fun b37 => some (b37.1, true))))

set_option maxHeartbeats 4000000 in
theorem c_impl_ChangesOf (N : Nat) (u0 : Flow) (u1 : Flow) (res : List Change × Bool) (h : m_impl_ChangesOf N u0 u1 = some res) (w : World) {a_u0_steps a_u1_steps : Option Addr} {c_u0_steps c_u1_steps : Nat} (h_u0_steps : stepsL.rd w [] [.slice a_u0_steps u0.steps.length c_u0_steps] u0.steps) (h_u1_steps : stepsL.rd w [] [.slice a_u1_steps u1.steps.length c_u1_steps] u1.steps) : Ret Try.prog 17 [.agg #[.int .i64 u0.ver, .slice a_u0_steps u0.steps.length c_u0_steps], .agg #[.int .i64 u1.ver, .slice a_u1_steps u1.steps.length c_u1_steps]] w [] fun v w' => ∃ a1 c1 F1, v = .tuple #[.slice a1 res.1.length c1, .bool res.2] ∧ NewC w w' [owC changesL F1 [.slice a1 res.1.length c1] res.1] := by
  have mh_u0_steps := rd_max h_u0_steps
  have mh_u1_steps := rd_max h_u1_steps
  unfold m_impl_ChangesOf at h
  refine ret_enter Try.func17 rfl Try.ntmps17 rfl (Hp.refl w _) ?_
  refine cw_seq ?_
  refine cw_region ?_
  refine wl_u rfl (ow_boxA rfl rfl rfl rfl (fun g2 => kk_wl ?_))
  refine wl_u rfl (ow_boxA rfl rfl rfl rfl (fun g3 => kk_wl ?_))
  refine wl_u rfl (ow_y (yh_assign rfl rfl) rfl rfl (kk_wl ?_))
  refine wl_u rfl (ow_y (yh_assign rfl rfl) rfl rfl (kk_wl ?_))
  refine wl_nil ?_
  refine ex_seq ?_
  refine cw_seq ?_
  refine cw_seq ?_
  refine cw_region ?_
  refine wl_u rfl (ow_y (yh_loadBA Tb (k := 1) rfl rfl rfl rfl rfl rfl) rfl rfl (kk_wl ?_))
  obtain ⟨x19, hx19, h⟩ := bd h
  refine wl_u rfl (ow_cV rfl hb30 rfl (fun w hw => c_impl_FlowValid N _ _ hx19 w (Lay.at_ h_u0_steps hw)) rfl rfl (kk_wl ?_))
  refine wl_u rfl (ow_y (yh_not rfl rfl) rfl rfl (kk_wl ?_))
  refine wl_u rfl (ow_y (yh_move rfl rfl) rfl rfl (kk_wl ?_))
  refine wl_s rfl rfl (fun c1 => ?_) (fun c1 => ?_)
  · skip
    replace h := bt c1 h
    refine wl_n rfl rfl rfl rfl ?_
    refine wl_n rfl rfl rfl rfl ?_
    refine wl_n rfl rfl rfl rfl ?_
    refine wl_u rfl (ow_y (yh_pickT rfl rfl rfl) rfl rfl (kk_wl ?_))
    refine wl_u rfl (ow_y (yh_move rfl rfl) rfl rfl (kk_wl ?_))
    refine wl_s rfl rfl (fun _ => ?_) nofun
    refine wl_n rfl rfl rfl rfl ?_
    refine wl_n rfl rfl rfl rfl ?_
    refine wl_n rfl rfl rfl rfl ?_
    refine wl_n rfl rfl rfl rfl ?_
    refine wl_n rfl rfl rfl rfl ?_
    refine wl_u rfl (ow_y (yh_pickT rfl rfl rfl) rfl rfl (kk_wl ?_))
    refine wl_nil ?_
    refine ex_seq ?_
    refine cw_true rfl ?_
    refine cw_seq ?_
    refine cw_region ?_
    refine wl_u rfl (ow_y (yh_assign rfl rfl) rfl rfl (kk_wl ?_))
    refine wl_u rfl (ow_y (yh_assign rfl rfl) rfl rfl (kk_wl ?_))
    refine wl_nil ?_
    refine ex_seq ?_
    refine cw_ret ?_
    refine ex_then_ret ?_
    refine ex_nilS changesL rfl ?_
    obtain rfl := Option.some.inj h
    exact ex_r2 Tb rfl (.tmp rfl) (.tmp rfl) (fun wq hq => ⟨_, rfl, hq.ext, ⟨none, 0, [], rfl, NewC.sel [0] hq rfl⟩⟩)
  · skip
    replace h := bf c1 h
    refine wl_g rfl rfl (ow_y (yh_loadBA Tb (k := 0) rfl rfl rfl rfl rfl rfl) rfl rfl (kk_wl ?_))
    obtain ⟨x23, hx23, h⟩ := bd h
    refine wl_g rfl rfl (ow_cV rfl hb30 rfl (fun w hw => c_impl_FlowValid N _ _ hx23 w (Lay.at_ h_u1_steps hw)) rfl rfl (kk_wl ?_))
    refine wl_g rfl rfl (ow_y (yh_not rfl rfl) rfl rfl (kk_wl ?_))
    refine wl_u rfl (ow_y (yh_pickF rfl rfl rfl) rfl rfl (kk_wl ?_))
    refine wl_u rfl (ow_y (yh_move rfl rfl) rfl rfl (kk_wl ?_))
    refine wl_s rfl rfl (fun c2 => ?_) (fun c2 => ?_)
    · skip
      replace h := bt c2 h
      refine wl_n rfl rfl rfl rfl ?_
      refine wl_n rfl rfl rfl rfl ?_
      refine wl_n rfl rfl rfl rfl ?_
      refine wl_n rfl rfl rfl rfl ?_
      refine wl_n rfl rfl rfl rfl ?_
      refine wl_u rfl (ow_y (yh_pickT rfl rfl rfl) rfl rfl (kk_wl ?_))
      refine wl_nil ?_
      refine ex_seq ?_
      refine cw_true rfl ?_
      refine cw_seq ?_
      refine cw_region ?_
      refine wl_u rfl (ow_y (yh_assign rfl rfl) rfl rfl (kk_wl ?_))
      refine wl_u rfl (ow_y (yh_assign rfl rfl) rfl rfl (kk_wl ?_))
      refine wl_nil ?_
      refine ex_seq ?_
      refine cw_ret ?_
      refine ex_then_ret ?_
      refine ex_nilS changesL rfl ?_
      obtain rfl := Option.some.inj h
      exact ex_r2 Tb rfl (.tmp rfl) (.tmp rfl) (fun wq hq => ⟨_, rfl, hq.ext, ⟨none, 0, [], rfl, NewC.sel [0] hq rfl⟩⟩)
    · skip
      replace h := bf c2 h
      refine wl_g rfl rfl (ow_y (yh_loadBA Tb (k := 1) rfl rfl rfl rfl rfl rfl) rfl rfl (kk_wl ?_))
      obtain ⟨x28, hx28, h⟩ := bd h
      refine wl_g rfl rfl (ow_cN1 rfl hb46 rfl (fun w hw => c_impl_Flow_names N _ _ hx28 w (Lay.at_ h_u0_steps hw)) rfl rfl (fun a28 c28 F28 => kk_wl ?_))
      refine wl_g rfl rfl (ow_y (yh_mkfn rfl rfl) rfl rfl (kk_wl ?_))
      obtain ⟨x30, hx30, h⟩ := bd h
      refine wl_g rfl rfl (ow_cV rfl hb45 rfl (fun w hw => c_slices_ContainsFunc_string N _ _ _ hx30 w (rdo (A := strsL) 0 rfl hw) hb47 (fun x0 b hb w' hE => c_impl_ChangesOf_f1 N x0 u1 b hb w' (Lay.at_ h_u1_steps (hw.step hE)) (cell_blk ((hw.step hE).at (i := 1) rfl)))) rfl rfl (kk_wl ?_))
      refine wl_g rfl rfl (ow_y (yh_not rfl rfl) rfl rfl (kk_wl ?_))
      refine wl_u rfl (ow_y (yh_pickF rfl rfl rfl) rfl rfl (kk_wl ?_))
      refine wl_nil ?_
      refine ex_seq ?_
      refine cw_split rfl (fun c3 => ?_) (fun c3 => ?_)
      · skip
        replace h := bt c3 h
        refine cw_seq ?_
        refine cw_region ?_
        refine wl_u rfl (ow_y (yh_assign rfl rfl) rfl rfl (kk_wl ?_))
        refine wl_u rfl (ow_y (yh_assign rfl rfl) rfl rfl (kk_wl ?_))
        refine wl_nil ?_
        refine ex_seq ?_
        refine cw_ret ?_
        refine ex_then_ret ?_
        refine ex_nilS changesL rfl ?_
        obtain rfl := Option.some.inj h
        exact ex_r2 Tb rfl (.tmp rfl) (.tmp rfl) (fun wq hq => ⟨_, rfl, hq.ext, ⟨none, 0, [], rfl, NewC.sel [0] hq rfl⟩⟩)
      · skip
        replace h := bf c3 h
        refine cw_skip ?_
        refine ex_seq ?_
        refine cw_seq ?_
        refine cw_region ?_
        refine wl_u rfl (ow_alloc1 Tb rfl rfl rfl rfl rfl (fun g6 => kk_wl ?_))
        refine wl_nil ?_
        refine ex_seq ?_
        refine cw_seq ?_
        refine cw_region ?_
        refine wl_u rfl (ow_y (yh_mkfn rfl rfl) rfl rfl (kk_wl ?_))
        refine wl_u rfl (ow_y (yh_assign rfl rfl) rfl rfl (kk_wl ?_))
        refine wl_nil ?_
        refine ex_seq ?_
        refine cw_seq ?_
        refine cw_seq ?_
        refine cw_region ?_
        refine wl_u rfl (ow_y (yh_field Tb rfl rfl rfl) rfl rfl (kk_wl ?_))
        refine wl_u rfl (ow_y (yh_loadB Tb (k := 3) rfl rfl rfl rfl rfl) rfl rfl (kk_wl ?_))
        refine wl_u rfl (ow_y (yh_lenS Tb rfl rfl rfl rfl) rfl rfl (kk_wl ?_))
        refine wl_u rfl (ow_y (yh_move rfl rfl) rfl rfl (kk_wl ?_))
        refine wl_nil ?_
        refine ex_seq ?_
        refine cw_block ?_
        obtain ⟨e12, he12, hk12⟩ := bd h
        clear h
        refine cw_nilS changesL rfl ?_
        refine cw_loopG (σ := Nat × (List Change) × Nat × (Option Addr) × Nat × (List Nat)) (fun s => m_impl_ChangesOf_L12 N u0 u1 s.1 s.2.1 s.2.2.1 = some e12) (fun s => [(2, .pointer (some ⟨g2, 0, none⟩)), (3, .pointer (some ⟨g3, 0, none⟩)), (6, .pointer (some ⟨g6, 0, none⟩)), (7, .func (.func 49) #[] #[.pointer (some ⟨g6, 0, none⟩)]), (35, .slice a_u0_steps u0.steps.length c_u0_steps), (36, .int .i64 ((u0.steps.length : Nat) : Int)), (37, .int .i64 ((s.2.2.1 : Nat) : Int))]) (fun s => [blkC g2 36 [.int .i64 u0.ver, .slice a_u0_steps u0.steps.length c_u0_steps], blkC g3 36 [.int .i64 u1.ver, .slice a_u1_steps u1.steps.length c_u1_steps], blkC g6 31 [.slice s.2.2.2.1 s.2.1.length s.2.2.2.2.1], owC changesL s.2.2.2.2.2 [.slice s.2.2.2.1 s.2.1.length s.2.2.2.2.1] s.2.1]) (fun s => s.1) (N, ([] : List Change), 0, none, 0, []) [4, 3, 1, 0] he12 ⟨rfl, rfl, rfl, rfl, rfl, rfl, rfl, trivial⟩ rfl (fun KL s he12 hn12 => ?_)
        obtain ⟨n12, s6_c_0, s37, as6_c_0, cs6_c_0, Fs6_c_0⟩ := s
        simp only at he12 hn12 ⊢
        rcases n12 with _ | n12
        · exact nosome he12
        have h := he12; rw [m_impl_ChangesOf_L12] at h
        refine cw_seq ?_
        refine cw_region ?_
        refine wl_u rfl (ow_y (yh_cmpI rfl rfl rfl rfl) rfl rfl (kk_wl ?_))
        refine wl_nil ?_
        refine ex_seq ?_
        refine cw_seq ?_
        refine cw_split rfl (fun c4 => ?_) (fun c4 => ?_)
        · skip
          replace h := bt c4 h
          have q1 := ltb_true.1 c4
          refine cw_skip ?_
          refine ex_seq ?_
          refine cw_seq ?_
          refine cw_block ?_
          refine cw_seq ?_
          refine cw_region ?_
          obtain ⟨y39, hy39, h⟩ := bd h
          obtain ⟨b39, o39, ha39⟩ := sl_addr h_u0_steps hy39
          subst ha39
          obtain ⟨a39, e39, hc39, hf39⟩ := get_step h_u0_steps hy39
          have mx39 := rd_max hf39
          refine wl_u rfl (ow_y (yh_idx Tb (k := s37) rfl rfl rfl rfl (get_lt hy39) rfl rfl) rfl rfl (kk_wl ?_))
          refine wl_u rfl (ow_y (yh_loadAN Tb rfl rfl rfl rfl hc39 rfl) rfl rfl (kk_wl ?_))
          refine wl_u rfl (ow_allocA Tb rfl rfl rfl rfl (fun g9 => kk_wl ?_))
          refine wl_u rfl (ow_storeA Tb (k := 0) rfl rfl rfl rfl rfl rfl rfl rfl rfl (kk_wl ?_))
          refine wl_nil ?_
          refine ex_seq ?_
          refine cw_seq ?_
          refine cw_region ?_
          refine wl_u rfl (ow_y (yh_loadBA Tb (k := 2) rfl rfl rfl rfl rfl rfl) rfl rfl (kk_wl ?_))
          refine wl_u rfl (ow_y (yh_field Tb rfl rfl rfl) rfl rfl (kk_wl ?_))
          refine wl_u rfl (ow_y (yh_loadB Tb (k := 0) rfl rfl rfl rfl rfl) rfl rfl (kk_wl ?_))
          obtain ⟨x44, hx44, h⟩ := bd h
          refine wl_u rfl (ow_cV rfl hb48 rfl (fun w hw => c_impl_Flow_at N _ _ _ hx44 w (Lay.at_ h_u1_steps hw)) rfl rfl (kk_wl ?_))
          refine wl_u rfl (ow_y (yh_assign rfl rfl) rfl rfl (kk_wl ?_))
          refine wl_nil ?_
          refine ex_seq ?_
          refine cw_seq ?_
          refine cw_dr [0, 1, 2, 3, 4, 5, 6, 7, 8, 9, 10, 11, 12, 13, 14, 15, 16, 18, 19] [] [blkC g9 48 [.string y39.name, .slice a39 y39.after.length e39, .bool y39.undo], blkC g2 36 [.int .i64 u0.ver, .slice (some ⟨b39, o39, none⟩) u0.steps.length c_u0_steps], blkC g3 36 [.int .i64 u1.ver, .slice a_u1_steps u1.steps.length c_u1_steps], blkC g6 31 [.slice as6_c_0 s6_c_0.length cs6_c_0], owC changesL Fs6_c_0 [.slice as6_c_0 s6_c_0.length cs6_c_0] s6_c_0] (by kernel_rfl) ?_
          refine wd_take (i := 0) [0, 1, 2, 3, 4] rfl rfl rfl rfl rfl (by kernel_rfl) (by kernel_rfl) (fun _ _ _ _ h => h) (yh_move rfl rfl) ?_
          refine wd_take (i := 1) [0, 1, 2, 3, 4] rfl rfl rfl rfl rfl (by kernel_rfl) (by kernel_rfl) (fun _ _ _ _ h => h) (yh_cmpI rfl rfl rfl rfl) ?_
          refine wd_take (i := 2) [0, 1, 2, 3, 4] rfl rfl rfl rfl rfl (by kernel_rfl) (by kernel_rfl) (fun _ _ _ _ h => h) (yh_move rfl rfl) ?_
          refine wd_split 3 rfl rfl rfl (fun c5 => ?_) (fun c5 => ?_)
          · skip
            replace h := bt c5 h
            have q2 := leb_true.1 c5
            refine wd_take (i := 3) [0, 1, 2, 3, 4] rfl rfl rfl rfl rfl (by kernel_rfl) (by kernel_rfl) (fun _ _ _ _ h => h) (yh_field Tb rfl rfl rfl) ?_
            refine wd_take (i := 4) [0, 1, 2, 3, 4] rfl rfl rfl rfl rfl (by kernel_rfl) (by kernel_rfl) (fun _ _ _ _ h => h) (yh_loadB Tb (k := 0) rfl rfl rfl rfl rfl) ?_
            refine wd_take (i := 5) [0, 1, 2, 3, 4] rfl rfl rfl rfl rfl (by kernel_rfl) (by kernel_rfl) (fun _ _ _ _ h => h) (yh_lenS Tb rfl rfl rfl rfl) ?_
            refine wd_take (i := 6) [0, 1, 2, 3, 4] rfl rfl rfl rfl rfl (by kernel_rfl) (by kernel_rfl) (fun _ _ _ _ h => h) (yh_cmpI rfl rfl rfl rfl) ?_
            refine wd_take (i := 7) [0, 1, 2, 3, 4] rfl rfl rfl rfl rfl (by kernel_rfl) (by kernel_rfl) (fun _ _ _ _ h => h) (yh_pickT rfl rfl rfl) ?_
            refine wd_take (i := 8) [0, 1, 2, 3, 4] rfl rfl rfl rfl rfl (by kernel_rfl) (by kernel_rfl) (fun _ _ _ _ h => h) (yh_move rfl rfl) ?_
            refine wd_split 9 rfl rfl rfl (fun c6 => ?_) (fun c6 => ?_)
            · skip
              replace h := bt c6 h
              have q3 := ltb_true.1 c6
              refine wd_take (i := 9) [0, 1, 2, 3, 4] rfl rfl rfl rfl rfl (by kernel_rfl) (by kernel_rfl) (fun _ _ _ _ h => h) (yh_field Tb rfl rfl rfl) ?_
              refine wd_take (i := 10) [0, 1, 2, 3, 4] rfl rfl rfl rfl rfl (by kernel_rfl) (by kernel_rfl) (fun _ _ _ _ h => h) (yh_loadB Tb (k := 0) rfl rfl rfl rfl rfl) ?_
              refine wd_take (i := 11) [0, 1, 2, 3, 4] rfl rfl rfl rfl rfl (by kernel_rfl) (by kernel_rfl) (fun _ _ _ _ h => h) (yh_field Tb rfl rfl rfl) ?_
              refine wd_take (i := 12) [0, 1, 2, 3, 4] rfl rfl rfl rfl rfl (by kernel_rfl) (by kernel_rfl) (fun _ _ _ _ h => h) (yh_loadB Tb (k := 2) rfl rfl rfl rfl rfl) ?_
              refine wd_take (i := 13) [0, 1, 2, 3, 4] rfl rfl rfl rfl rfl (by kernel_rfl) (by kernel_rfl) (fun _ _ _ _ h => h) (yh_move rfl rfl) ?_
              obtain ⟨y59, zy59, h⟩ := bd h
              obtain ⟨iy59, hy59⟩ := geti_some zy59
              obtain ⟨b59, o59, ha59⟩ := sl_addr h_u1_steps hy59
              subst ha59
              obtain ⟨a59, e59, hc59, hf59⟩ := get_step h_u1_steps hy59
              have mx59 := rd_max hf59
              refine wd_take (i := 14) [0, 1, 2, 3, 4] rfl rfl rfl rfl rfl (by kernel_rfl) (by kernel_rfl) (fun _ _ _ _ h => h) (yh_idx Tb (k := x44.toNat) rfl rfl rfl iy59 (get_lt hy59) rfl rfl) ?_
              refine wd_take (i := 15) [0, 1, 2, 3, 4] rfl rfl rfl rfl rfl (by kernel_rfl) (by kernel_rfl) (fun _ _ _ _ h => h) (yh_field Tb rfl rfl rfl) ?_
              refine wd_take (i := 16) [0, 1, 2, 3, 4] rfl rfl rfl rfl rfl (by kernel_rfl) (by kernel_rfl) (fun _ _ _ _ h => h) (yh_loadAF Tb (j := 1) rfl rfl rfl hc59 rfl) ?_
              obtain ⟨x62, hx62, h⟩ := bd h
              refine wd_one 17 rfl rfl (by kernel_rfl) (ow_cV rfl hb51 rfl (fun w hw => c_slices_Equal_string N _ _ _ hx62 w (Lay.at_ hf39 hw) (Lay.at_ hf59 hw)) rfl rfl (kk_wd [0, 1, 2, 3, 4] (by kernel_rfl) ?_))
              refine wd_take (i := 18) [0, 1, 2, 3, 4] rfl rfl rfl rfl rfl (by kernel_rfl) (by kernel_rfl) (fun _ _ _ _ h => h) (yh_not rfl rfl) ?_
              refine wd_take (i := 19) [0, 1, 2, 3, 4] rfl rfl rfl rfl rfl (by kernel_rfl) (by kernel_rfl) (fun _ _ _ _ h => h) (yh_pickT rfl rfl rfl) ?_
              refine wd_done (by kernel_rfl) ?_
              refine ex_seq ?_
              refine cw_split rfl (fun c7 => ?_) (fun c7 => ?_)
              · skip
                replace h := bt c7 h
                refine cw_region ?_
                refine wl_u rfl (ow_y (yh_move rfl rfl) rfl rfl (kk_wl ?_))
                refine wl_u rfl (ow_y (yh_field Tb rfl rfl rfl) rfl rfl (kk_wl ?_))
                refine wl_u rfl (ow_y (yh_loadB Tb (k := 0) rfl rfl rfl rfl rfl) rfl rfl (kk_wl ?_))
                refine wl_u rfl (ow_y (yh_build [.string y39.name, .slice none 0 0, .bool false] rfl rfl (by kernel_rfl)) rfl rfl (kk_wl ?_))
                obtain ⟨xc1, hxc1, h⟩ := bd h
                refine wl_u rfl (ow_cPd 3 3 rfl rfl hb49 rfl rfl rfl rfl (fun w hw => c_impl_ChangesOf_f2 N _ _ _ _ hxc1 w (hw.at (i := 3) rfl) (hw.at (i := 4) rfl) (hw.ndPair (i := 3) (j := 3) rfl rfl) (rd_nil strsL rfl _ _)) rfl rfl (fun axc1 cxc1 Fxc1 => kk_wl ?_))
                refine wl_nil ?_
                refine ex_block_normal ?_
                refine ex_seq ?_
                refine cw_region ?_
                refine wl_u rfl (ow_y (yh_arI rfl rfl rfl rfl (by omega)) rfl rfl (kk_wl ?_))
                refine wl_u rfl (ow_y (yh_move rfl rfl) rfl rfl (kk_wl ?_))
                refine wl_nil ?_
                exact ex_next [3, 4, 0, 1] (hn12 (n12, xc1, s37 + 1, axc1, cxc1, Fxc1) (Nat.lt_succ_self _) h) ⟨rfl, rfl, rfl, rfl, rfl, rfl, rfl, trivial⟩ (by kernel_rfl)
              · skip
                replace h := bf c7 h
                refine cw_skip ?_
                refine ex_block_normal ?_
                refine ex_seq ?_
                refine cw_region ?_
                refine wl_u rfl (ow_y (yh_arI rfl rfl rfl rfl (by omega)) rfl rfl (kk_wl ?_))
                refine wl_u rfl (ow_y (yh_move rfl rfl) rfl rfl (kk_wl ?_))
                refine wl_nil ?_
                exact ex_next [1, 2, 3, 4] (hn12 (n12, s6_c_0, s37 + 1, as6_c_0, cs6_c_0, Fs6_c_0) (Nat.lt_succ_self _) h) ⟨rfl, rfl, rfl, rfl, rfl, rfl, rfl, trivial⟩ (by kernel_rfl)
            · skip
              replace h := bf c6 h
              have q4 := ltb_false.1 c6
              refine wd_skip (i := 9) [0, 1, 2, 3, 4] rfl rfl rfl rfl (by kernel_rfl) (by kernel_rfl) (fun _ _ _ h => h) ?_
              refine wd_skip (i := 10) [0, 1, 2, 3, 4] rfl rfl rfl rfl (by kernel_rfl) (by kernel_rfl) (fun _ _ _ h => h) ?_
              refine wd_skip (i := 11) [0, 1, 2, 3, 4] rfl rfl rfl rfl (by kernel_rfl) (by kernel_rfl) (fun _ _ _ h => h) ?_
              refine wd_skip (i := 12) [0, 1, 2, 3, 4] rfl rfl rfl rfl (by kernel_rfl) (by kernel_rfl) (fun _ _ _ h => h) ?_
              refine wd_skip (i := 13) [0, 1, 2, 3, 4] rfl rfl rfl rfl (by kernel_rfl) (by kernel_rfl) (fun _ _ _ h => h) ?_
              refine wd_skip (i := 14) [0, 1, 2, 3, 4] rfl rfl rfl rfl (by kernel_rfl) (by kernel_rfl) (fun _ _ _ h => h) ?_
              refine wd_skip (i := 15) [0, 1, 2, 3, 4] rfl rfl rfl rfl (by kernel_rfl) (by kernel_rfl) (fun _ _ _ h => h) ?_
              refine wd_skip (i := 16) [0, 1, 2, 3, 4] rfl rfl rfl rfl (by kernel_rfl) (by kernel_rfl) (fun _ _ _ h => h) ?_
              refine wd_offD 17 rfl rfl rfl rfl (by kernel_rfl) [0, 1, 2, 3, 4] (fun _ => rfl) ?_
              refine wd_skip (i := 18) [0, 1, 2, 3, 4] rfl rfl rfl rfl (by kernel_rfl) (by kernel_rfl) (fun _ _ _ h => h) ?_
              refine wd_take (i := 19) [0, 1, 2, 3, 4] rfl rfl rfl rfl rfl (by kernel_rfl) (by kernel_rfl) (fun _ _ _ _ h => h) (yh_pickF rfl rfl rfl) ?_
              refine wd_done (by kernel_rfl) ?_
              refine ex_seq ?_
              refine cw_false rfl ?_
              refine cw_skip ?_
              refine ex_block_normal ?_
              refine ex_seq ?_
              refine cw_region ?_
              refine wl_u rfl (ow_y (yh_arI rfl rfl rfl rfl (by omega)) rfl rfl (kk_wl ?_))
              refine wl_u rfl (ow_y (yh_move rfl rfl) rfl rfl (kk_wl ?_))
              refine wl_nil ?_
              exact ex_next [1, 2, 3, 4] (hn12 (n12, s6_c_0, s37 + 1, as6_c_0, cs6_c_0, Fs6_c_0) (Nat.lt_succ_self _) h) ⟨rfl, rfl, rfl, rfl, rfl, rfl, rfl, trivial⟩ (by kernel_rfl)
          · skip
            replace h := bf c5 h
            have q5 := leb_false.1 c5
            refine wd_skip (i := 3) [0, 1, 2, 3, 4] rfl rfl rfl rfl (by kernel_rfl) (by kernel_rfl) (fun _ _ _ h => h) ?_
            refine wd_skip (i := 4) [0, 1, 2, 3, 4] rfl rfl rfl rfl (by kernel_rfl) (by kernel_rfl) (fun _ _ _ h => h) ?_
            refine wd_skip (i := 5) [0, 1, 2, 3, 4] rfl rfl rfl rfl (by kernel_rfl) (by kernel_rfl) (fun _ _ _ h => h) ?_
            refine wd_skip (i := 6) [0, 1, 2, 3, 4] rfl rfl rfl rfl (by kernel_rfl) (by kernel_rfl) (fun _ _ _ h => h) ?_
            refine wd_take (i := 7) [0, 1, 2, 3, 4] rfl rfl rfl rfl rfl (by kernel_rfl) (by kernel_rfl) (fun _ _ _ _ h => h) (yh_pickF rfl rfl rfl) ?_
            refine wd_take (i := 8) [0, 1, 2, 3, 4] rfl rfl rfl rfl rfl (by kernel_rfl) (by kernel_rfl) (fun _ _ _ _ h => h) (yh_move rfl rfl) ?_
            refine wd_split 9 rfl rfl rfl nofun (fun _ => ?_)
            refine wd_skip (i := 9) [0, 1, 2, 3, 4] rfl rfl rfl rfl (by kernel_rfl) (by kernel_rfl) (fun _ _ _ h => h) ?_
            refine wd_skip (i := 10) [0, 1, 2, 3, 4] rfl rfl rfl rfl (by kernel_rfl) (by kernel_rfl) (fun _ _ _ h => h) ?_
            refine wd_skip (i := 11) [0, 1, 2, 3, 4] rfl rfl rfl rfl (by kernel_rfl) (by kernel_rfl) (fun _ _ _ h => h) ?_
            refine wd_skip (i := 12) [0, 1, 2, 3, 4] rfl rfl rfl rfl (by kernel_rfl) (by kernel_rfl) (fun _ _ _ h => h) ?_
            refine wd_skip (i := 13) [0, 1, 2, 3, 4] rfl rfl rfl rfl (by kernel_rfl) (by kernel_rfl) (fun _ _ _ h => h) ?_
            refine wd_skip (i := 14) [0, 1, 2, 3, 4] rfl rfl rfl rfl (by kernel_rfl) (by kernel_rfl) (fun _ _ _ h => h) ?_
            refine wd_skip (i := 15) [0, 1, 2, 3, 4] rfl rfl rfl rfl (by kernel_rfl) (by kernel_rfl) (fun _ _ _ h => h) ?_
            refine wd_skip (i := 16) [0, 1, 2, 3, 4] rfl rfl rfl rfl (by kernel_rfl) (by kernel_rfl) (fun _ _ _ h => h) ?_
            refine wd_offD 17 rfl rfl rfl rfl (by kernel_rfl) [0, 1, 2, 3, 4] (fun _ => rfl) ?_
            refine wd_skip (i := 18) [0, 1, 2, 3, 4] rfl rfl rfl rfl (by kernel_rfl) (by kernel_rfl) (fun _ _ _ h => h) ?_
            refine wd_take (i := 19) [0, 1, 2, 3, 4] rfl rfl rfl rfl rfl (by kernel_rfl) (by kernel_rfl) (fun _ _ _ _ h => h) (yh_pickF rfl rfl rfl) ?_
            refine wd_done (by kernel_rfl) ?_
            refine ex_seq ?_
            refine cw_false rfl ?_
            refine cw_skip ?_
            refine ex_block_normal ?_
            refine ex_seq ?_
            refine cw_region ?_
            refine wl_u rfl (ow_y (yh_arI rfl rfl rfl rfl (by omega)) rfl rfl (kk_wl ?_))
            refine wl_u rfl (ow_y (yh_move rfl rfl) rfl rfl (kk_wl ?_))
            refine wl_nil ?_
            exact ex_next [1, 2, 3, 4] (hn12 (n12, s6_c_0, s37 + 1, as6_c_0, cs6_c_0, Fs6_c_0) (Nat.lt_succ_self _) h) ⟨rfl, rfl, rfl, rfl, rfl, rfl, rfl, trivial⟩ (by kernel_rfl)
        · skip
          replace h := bf c4 h
          have q6 := ltb_false.1 c4
          refine cw_exit ?_
          refine ex_then_exit ?_
          refine ex_then_exit ?_
          obtain rfl := Option.some.inj h
          have h := go_brk hk12
          refine ex_block_exit ?_
          refine ex_seq ?_
          refine cw_seq ?_
          refine cw_region ?_
          refine wl_u rfl (ow_y (yh_loadBA Tb (k := 0) rfl rfl rfl rfl rfl rfl) rfl rfl (kk_wl ?_))
          obtain ⟨x72, hx72, h⟩ := bd h
          refine wl_u rfl (ow_cN1 rfl hb52 rfl (fun w hw => c_impl_Flow_order N _ _ hx72 w (Lay.at_ h_u0_steps hw)) rfl rfl (fun a72 c72 F72 => kk_wl ?_))
          refine wl_u rfl (ow_y (yh_assign rfl rfl) rfl rfl (kk_wl ?_))
          refine wl_nil ?_
          refine ex_seq ?_
          refine cw_seq ?_
          refine cw_region ?_
          refine wl_u rfl (ow_y (yh_move rfl rfl) rfl rfl (kk_wl ?_))
          obtain ⟨x74, hx74, h⟩ := bd h
          refine wl_u rfl (ow_cF1 0 rfl hb53 rfl rfl (fun w hw => c_slices_Reverse_string N _ _ hx74 w (hw.at (i := 0) rfl) (hw.ndAt (i := 0) rfl)) rfl rfl (fun F74 => kk_wl ?_))
          refine wl_nil ?_
          refine ex_seq ?_
          refine cw_seq ?_
          refine cw_seq ?_
          refine cw_region ?_
          refine wl_u rfl (ow_y (yh_move rfl rfl) rfl rfl (kk_wl ?_))
          refine wl_know (x72.length ≤ 9223372036854775807) (fun w hw => own_max 0 rfl hw) (fun mo76 => ?_)
          refine wl_u rfl (ow_y (yh_lenS Tb rfl rfl rfl rfl) rfl rfl (kk_wl ?_))
          refine wl_u rfl (ow_y (yh_move rfl rfl) rfl rfl (kk_wl ?_))
          refine wl_nil ?_
          refine ex_seq ?_
          refine cw_block ?_
          obtain ⟨e24, he24, hk24⟩ := bd h
          clear h
          refine cw_loopG (σ := Nat × (List Change) × Nat × (Option Addr) × Nat × (List Nat)) (fun s => m_impl_ChangesOf_L24 N u1 x72 x74 s.1 s.2.1 s.2.2.1 = some e24) (fun s => [(2, .pointer (some ⟨g2, 0, none⟩)), (3, .pointer (some ⟨g3, 0, none⟩)), (6, .pointer (some ⟨g6, 0, none⟩)), (7, .func (.func 49) #[] #[.pointer (some ⟨g6, 0, none⟩)]), (75, .slice a72 x72.length c72), (76, .int .i64 ((x72.length : Nat) : Int)), (77, .int .i64 ((s.2.2.1 : Nat) : Int))]) (fun s => [blkC g2 36 [.int .i64 u0.ver, .slice a_u0_steps u0.steps.length c_u0_steps], blkC g3 36 [.int .i64 u1.ver, .slice a_u1_steps u1.steps.length c_u1_steps], blkC g6 31 [.slice s.2.2.2.1 s.2.1.length s.2.2.2.2.1], owC changesL s.2.2.2.2.2 [.slice s.2.2.2.1 s.2.1.length s.2.2.2.2.1] s.2.1, owC strsL F74 [.slice a72 x72.length c72] x74.2]) (fun s => s.1) (N, s6_c_0, 0, as6_c_0, cs6_c_0, Fs6_c_0) [1, 2, 3, 4, 0] he24 ⟨rfl, rfl, rfl, rfl, rfl, rfl, rfl, trivial⟩ rfl (fun KL s he24 hn24 => ?_)
          obtain ⟨n24, s6_c_0, s77, as6_c_0, cs6_c_0, Fs6_c_0⟩ := s
          simp only at he24 hn24 ⊢
          rcases n24 with _ | n24
          · exact nosome he24
          have h := he24; rw [m_impl_ChangesOf_L24] at h
          refine cw_seq ?_
          refine cw_region ?_
          refine wl_u rfl (ow_y (yh_cmpI rfl rfl rfl rfl) rfl rfl (kk_wl ?_))
          refine wl_nil ?_
          refine ex_seq ?_
          refine cw_seq ?_
          refine cw_split rfl (fun c8 => ?_) (fun c8 => ?_)
          · skip
            replace h := bt c8 h
            have q7 := ltb_true.1 c8
            refine cw_skip ?_
            refine ex_seq ?_
            refine cw_seq ?_
            refine cw_block ?_
            refine cw_seq ?_
            refine cw_region ?_
            obtain ⟨y79, hy79, h⟩ := bd h
            refine wl_ex (fun g => a72 = some ⟨g, 0, none⟩) (fun w hw => by exact own_addrK 4 rfl hy79 hw) (fun g79 hg79 => ?_)
            subst hg79
            refine wl_know (x72.length = x74.2.length) (fun w hw => own_lenK 4 rfl hw) (fun hn79 => ?_)
            refine wl_u rfl (ow_y (yh_idx Tb (k := s77) rfl rfl rfl rfl (Nat.lt_of_lt_of_eq (get_lt hy79) hn79.symm) rfl rfl) rfl rfl (kk_wl ?_))
            refine wl_u rfl (ow_y (yh_loadO0 Tb 4 rfl rfl rfl rfl rfl hy79 rfl) rfl rfl (kk_wl ?_))
            refine wl_u rfl (ow_y (yh_assign rfl rfl) rfl rfl (kk_wl ?_))
            refine wl_nil ?_
            refine ex_seq ?_
            refine cw_seq ?_
            refine cw_region ?_
            refine wl_u rfl (ow_y (yh_loadBA Tb (k := 1) rfl rfl rfl rfl rfl rfl) rfl rfl (kk_wl ?_))
            refine wl_u rfl (ow_y (yh_move rfl rfl) rfl rfl (kk_wl ?_))
            obtain ⟨x83, hx83, h⟩ := bd h
            refine wl_u rfl (ow_cV rfl hb48 rfl (fun w hw => c_impl_Flow_at N _ _ _ hx83 w (Lay.at_ h_u1_steps hw)) rfl rfl (kk_wl ?_))
            refine wl_u rfl (ow_y (yh_cmpI rfl rfl rfl rfl) rfl rfl (kk_wl ?_))
            refine wl_nil ?_
            refine ex_seq ?_
            refine cw_split rfl (fun c9 => ?_) (fun c9 => ?_)
            · skip
              replace h := bt c9 h
              have q8 := ltb_true.1 c9
              refine cw_region ?_
              refine wl_u rfl (ow_y (yh_move rfl rfl) rfl rfl (kk_wl ?_))
              refine wl_u rfl (ow_y (yh_move rfl rfl) rfl rfl (kk_wl ?_))
              refine wl_u rfl (ow_y (yh_build [.string y79, .slice none 0 0, .bool false] rfl rfl (by kernel_rfl)) rfl rfl (kk_wl ?_))
              obtain ⟨xc2, hxc2, h⟩ := bd h
              refine wl_u rfl (ow_cPd 2 2 rfl rfl hb49 rfl rfl rfl rfl (fun w hw => c_impl_ChangesOf_f2 N _ _ _ _ hxc2 w (hw.at (i := 2) rfl) (hw.at (i := 3) rfl) (hw.ndPair (i := 2) (j := 2) rfl rfl) (rd_nil strsL rfl _ _)) rfl rfl (fun axc2 cxc2 Fxc2 => kk_wl ?_))
              refine wl_nil ?_
              refine ex_block_normal ?_
              refine ex_seq ?_
              refine cw_region ?_
              refine wl_u rfl (ow_y (yh_arI rfl rfl rfl rfl (by omega)) rfl rfl (kk_wl ?_))
              refine wl_u rfl (ow_y (yh_move rfl rfl) rfl rfl (kk_wl ?_))
              refine wl_nil ?_
              exact ex_next [2, 3, 0, 1, 4] (hn24 (n24, xc2, s77 + 1, axc2, cxc2, Fxc2) (Nat.lt_succ_self _) h) ⟨rfl, rfl, rfl, rfl, rfl, rfl, rfl, trivial⟩ (by kernel_rfl)
            · skip
              replace h := bf c9 h
              have q9 := ltb_false.1 c9
              refine cw_skip ?_
              refine ex_block_normal ?_
              refine ex_seq ?_
              refine cw_region ?_
              refine wl_u rfl (ow_y (yh_arI rfl rfl rfl rfl (by omega)) rfl rfl (kk_wl ?_))
              refine wl_u rfl (ow_y (yh_move rfl rfl) rfl rfl (kk_wl ?_))
              refine wl_nil ?_
              exact ex_next [0, 1, 2, 3, 4] (hn24 (n24, s6_c_0, s77 + 1, as6_c_0, cs6_c_0, Fs6_c_0) (Nat.lt_succ_self _) h) ⟨rfl, rfl, rfl, rfl, rfl, rfl, rfl, trivial⟩ (by kernel_rfl)
          · skip
            replace h := bf c8 h
            have q10 := ltb_false.1 c8
            refine cw_exit ?_
            refine ex_then_exit ?_
            refine ex_then_exit ?_
            obtain rfl := Option.some.inj h
            have h := go_brk hk24
            refine ex_block_exit ?_
            refine ex_seq ?_
            refine cw_seq ?_
            refine cw_seq ?_
            refine cw_region ?_
            refine wl_u rfl (ow_y (yh_loadBA Tb (k := 1) rfl rfl rfl rfl rfl rfl) rfl rfl (kk_wl ?_))
            obtain ⟨x91, hx91, h⟩ := bd h
            refine wl_u rfl (ow_cN1 rfl hb52 rfl (fun w hw => c_impl_Flow_order N _ _ hx91 w (Lay.at_ h_u1_steps hw)) rfl rfl (fun a91 c91 F91 => kk_wl ?_))
            refine wl_know (x91.length ≤ 9223372036854775807) (fun w hw => own_max 0 rfl hw) (fun mo92 => ?_)
            refine wl_u rfl (ow_y (yh_lenS Tb rfl rfl rfl rfl) rfl rfl (kk_wl ?_))
            refine wl_u rfl (ow_y (yh_move rfl rfl) rfl rfl (kk_wl ?_))
            refine wl_nil ?_
            refine ex_seq ?_
            refine cw_block ?_
            obtain ⟨e37, he37, hk37⟩ := bd h
            clear h
            refine cw_loopG (σ := Nat × (List Change) × Nat × (Option Addr) × Nat × (List Nat)) (fun s => m_impl_ChangesOf_L37 N u0 u1 x91 s.1 s.2.1 s.2.2.1 = some e37) (fun s => [(2, .pointer (some ⟨g2, 0, none⟩)), (3, .pointer (some ⟨g3, 0, none⟩)), (6, .pointer (some ⟨g6, 0, none⟩)), (7, .func (.func 49) #[] #[.pointer (some ⟨g6, 0, none⟩)]), (91, .slice a91 x91.length c91), (92, .int .i64 ((x91.length : Nat) : Int)), (93, .int .i64 ((s.2.2.1 : Nat) : Int))]) (fun s => [blkC g2 36 [.int .i64 u0.ver, .slice a_u0_steps u0.steps.length c_u0_steps], blkC g3 36 [.int .i64 u1.ver, .slice a_u1_steps u1.steps.length c_u1_steps], blkC g6 31 [.slice s.2.2.2.1 s.2.1.length s.2.2.2.2.1], owC changesL s.2.2.2.2.2 [.slice s.2.2.2.1 s.2.1.length s.2.2.2.2.1] s.2.1, owC strsL F91 [.slice a91 x91.length c91] x91]) (fun s => s.1) (N, s6_c_0, 0, as6_c_0, cs6_c_0, Fs6_c_0) [1, 2, 3, 4, 0] he37 ⟨rfl, rfl, rfl, rfl, rfl, rfl, rfl, trivial⟩ rfl (fun KL s he37 hn37 => ?_)
            obtain ⟨n37, s6_c_0, s93, as6_c_0, cs6_c_0, Fs6_c_0⟩ := s
            simp only at he37 hn37 ⊢
            rcases n37 with _ | n37
            · exact nosome he37
            have h := he37; rw [m_impl_ChangesOf_L37] at h
            refine cw_seq ?_
            refine cw_region ?_
            refine wl_u rfl (ow_y (yh_cmpI rfl rfl rfl rfl) rfl rfl (kk_wl ?_))
            refine wl_nil ?_
            refine ex_seq ?_
            refine cw_seq ?_
            refine cw_split rfl (fun c10 => ?_) (fun c10 => ?_)
            · skip
              replace h := bt c10 h
              have q11 := ltb_true.1 c10
              refine cw_skip ?_
              refine ex_seq ?_
              refine cw_seq ?_
              refine cw_block ?_
              refine cw_seq ?_
              refine cw_region ?_
              obtain ⟨y95, hy95, h⟩ := bd h
              refine wl_ex (fun g => a91 = some ⟨g, 0, none⟩) (fun w hw => by exact own_addrK 4 rfl hy95 hw) (fun g95 hg95 => ?_)
              subst hg95
              refine wl_u rfl (ow_y (yh_idx Tb (k := s93) rfl rfl rfl rfl (get_lt hy95) rfl rfl) rfl rfl (kk_wl ?_))
              refine wl_u rfl (ow_y (yh_loadO0 Tb 4 rfl rfl rfl rfl rfl hy95 rfl) rfl rfl (kk_wl ?_))
              refine wl_u rfl (ow_y (yh_assign rfl rfl) rfl rfl (kk_wl ?_))
              refine wl_nil ?_
              refine ex_seq ?_
              refine cw_seq ?_
              refine cw_dr [0, 1, 2, 3, 5, 6] [8] [blkC g2 36 [.int .i64 u0.ver, .slice a_u0_steps u0.steps.length c_u0_steps], blkC g3 36 [.int .i64 u1.ver, .slice a_u1_steps u1.steps.length c_u1_steps], blkC g6 31 [.slice as6_c_0 s6_c_0.length cs6_c_0], owC changesL Fs6_c_0 [.slice as6_c_0 s6_c_0.length cs6_c_0] s6_c_0, owC strsL F91 [.slice (some ⟨g95, 0, none⟩) x91.length c91] x91] (by kernel_rfl) ?_
              refine wd_take (i := 0) [0, 1, 2, 3, 4] rfl rfl rfl rfl rfl (by kernel_rfl) (by kernel_rfl) (fun _ _ _ _ h => h) (yh_field Tb rfl rfl rfl) ?_
              refine wd_take (i := 1) [0, 1, 2, 3, 4] rfl rfl rfl rfl rfl (by kernel_rfl) (by kernel_rfl) (fun _ _ _ _ h => h) (yh_loadB Tb (k := 1) rfl rfl rfl rfl rfl) ?_
              refine wd_take (i := 2) [0, 1, 2, 3, 4] rfl rfl rfl rfl rfl (by kernel_rfl) (by kernel_rfl) (fun _ _ _ _ h => h) (yh_loadBA Tb (k := 1) rfl rfl rfl rfl rfl rfl) ?_
              refine wd_take (i := 3) [0, 1, 2, 3, 4] rfl rfl rfl rfl rfl (by kernel_rfl) (by kernel_rfl) (fun _ _ _ _ h => h) (yh_move rfl rfl) ?_
              refine wd_all [4, 7] (by kernel_rfl) (by simp) (fun i hi => ?_)
              simp only [List.mem_cons, List.not_mem_nil, or_false] at hi
              rcases hi with rfl | rfl
              · refine ⟨_, rfl, rfl, ?_⟩
                obtain ⟨x101, hx101, h⟩ := bd h
                refine (ow_cV rfl hb48 rfl (fun w hw => c_impl_Flow_at N _ _ _ hx101 w (Lay.at_ h_u1_steps hw)) rfl rfl (kk_wd [0, 1, 2, 3, 4] (by kernel_rfl) ?_))
                obtain ⟨y102, zy102, h⟩ := bd h
                obtain ⟨iy102, hy102⟩ := geti_some zy102
                obtain ⟨b102, o102, ha102⟩ := sl_addr h_u1_steps hy102
                subst ha102
                obtain ⟨a102, e102, hc102, hf102⟩ := get_step h_u1_steps hy102
                have mx102 := rd_max hf102
                refine wd_take (i := 5) [0, 1, 2, 3, 4] rfl rfl rfl rfl rfl (by kernel_rfl) (by kernel_rfl) (fun _ _ _ _ h => h) (yh_idx Tb (k := x101.toNat) rfl rfl rfl iy102 (get_lt hy102) rfl rfl) ?_
                refine wd_take (i := 6) [0, 1, 2, 3, 4] rfl rfl rfl rfl rfl (by kernel_rfl) (by kernel_rfl) (fun _ _ _ _ h => h) (yh_loadAN Tb rfl rfl rfl rfl hc102 rfl) ?_
                refine wd_one 7 rfl rfl (by kernel_rfl) (ow_allocA Tb rfl rfl rfl rfl (fun g16 => kk_wd [1, 2, 3, 4, 5] (by kernel_rfl) ?_))
                refine wd_one 8 rfl rfl (by kernel_rfl) (ow_storeA Tb (k := 0) rfl rfl rfl rfl rfl rfl rfl rfl rfl (kk_wdT rfl ?_))
                refine wd_done (by kernel_rfl) ?_
                refine ex_seq ?_
                refine cw_seq ?_
                refine cw_region ?_
                refine wl_u rfl (ow_y (yh_loadBA Tb (k := 1) rfl rfl rfl rfl rfl rfl) rfl rfl (kk_wl ?_))
                refine wl_u rfl (ow_y (yh_move rfl rfl) rfl rfl (kk_wl ?_))
                obtain ⟨x106, hx106, h⟩ := bd h
                refine wl_u rfl (ow_cV rfl hb48 rfl (fun w hw => c_impl_Flow_at N _ _ _ hx106 w (Lay.at_ h_u0_steps hw)) rfl rfl (kk_wl ?_))
                refine wl_u rfl (ow_y (yh_assign rfl rfl) rfl rfl (kk_wl ?_))
                refine wl_nil ?_
                refine ex_seq ?_
                refine cw_seq ?_
                refine cw_seq ?_
                refine cw_region ?_
                refine wl_u rfl (ow_y (yh_move rfl rfl) rfl rfl (kk_wl ?_))
                refine wl_u rfl (ow_y (yh_cmpI rfl rfl rfl rfl) rfl rfl (kk_wl ?_))
                refine wl_nil ?_
                refine ex_seq ?_
                refine cw_split rfl (fun c11 => ?_) (fun c11 => ?_)
                · skip
                  replace h := bt c11 h
                  have q12 := ltb_true.1 c11
                  refine cw_seq ?_
                  refine cw_region ?_
                  refine wl_u rfl (ow_y (yh_move rfl rfl) rfl rfl (kk_wl ?_))
                  refine wl_u rfl (ow_y (yh_loadBA Tb (k := 0) rfl rfl rfl rfl rfl rfl) rfl rfl (kk_wl ?_))
                  obtain ⟨xc3, hxc3, h⟩ := bd h
                  refine wl_u rfl (ow_cPd 3 3 rfl rfl hb49 rfl rfl rfl rfl (fun w hw => c_impl_ChangesOf_f2 N _ _ _ _ hxc3 w (hw.at (i := 3) rfl) (hw.at (i := 4) rfl) (hw.ndPair (i := 3) (j := 3) rfl rfl) (Lay.atP (i := 3) (j := 3) hf102 rfl rfl hw :)) rfl rfl (fun axc3 cxc3 Fxc3 => kk_wl ?_))
                  refine wl_nil ?_
                  refine ex_seq ?_
                  refine cw_exit ?_
                  refine ex_then_exit ?_
                  refine ex_block_exit ?_
                  refine ex_seq ?_
                  refine cw_region ?_
                  refine wl_u rfl (ow_y (yh_arI rfl rfl rfl rfl (by omega)) rfl rfl (kk_wl ?_))
                  refine wl_u rfl (ow_y (yh_move rfl rfl) rfl rfl (kk_wl ?_))
                  refine wl_nil ?_
                  exact ex_next [3, 4, 0, 1, 5] (hn37 (n37, xc3, s93 + 1, axc3, cxc3, Fxc3) (Nat.lt_succ_self _) h) ⟨rfl, rfl, rfl, rfl, rfl, rfl, rfl, trivial⟩ (by kernel_rfl)
                · skip
                  replace h := bf c11 h
                  have q13 := ltb_false.1 c11
                  refine cw_skip ?_
                  refine ex_seq ?_
                  obtain ⟨j148, he148, hk148⟩ := bd h
                  clear h
                  refine cw_cut (σ := (Option Addr) × Nat × (List Nat)) (fun s => True) (fun s => [(2, .pointer (some ⟨g2, 0, none⟩)), (3, .pointer (some ⟨g3, 0, none⟩)), (6, .pointer (some ⟨g6, 0, none⟩)), (7, .func (.func 49) #[] #[.pointer (some ⟨g6, 0, none⟩)]), (15, .string y95), (16, .pointer (some ⟨g16, 0, none⟩)), (17, .int .i64 x106), (91, .slice (some ⟨g95, 0, none⟩) x91.length c91), (92, .int .i64 ((x91.length : Nat) : Int)), (93, .int .i64 ((s93 : Nat) : Int))]) (fun s => [blkC g2 36 [.int .i64 u0.ver, .slice a_u0_steps u0.steps.length c_u0_steps], blkC g3 36 [.int .i64 u1.ver, .slice (some ⟨b102, o102, none⟩) u1.steps.length c_u1_steps], blkC g6 31 [.slice s.1 j148.length s.2.1], owC changesL s.2.2 [.slice s.1 j148.length s.2.1] j148, blkC g16 48 [.string y102.name, .slice a102 y102.after.length e102, .bool y102.undo], owC strsL F91 [.slice (some ⟨g95, 0, none⟩) x91.length c91] x91]) (fun s hI => ?_) (fun KL hn148 => ?_)
                  · skip
                    obtain ⟨ak148_6_c_0, ck148_6_c_0, Fk148_6_c_0⟩ := s
                    simp only at ⊢
                    have h := hk148
                    refine cw_seq ?_
                    refine cw_dr [0, 1, 2, 3, 4, 5, 6, 7, 8] [] [blkC g2 36 [.int .i64 u0.ver, .slice a_u0_steps u0.steps.length c_u0_steps], blkC g3 36 [.int .i64 u1.ver, .slice (some ⟨b102, o102, none⟩) u1.steps.length c_u1_steps], blkC g6 31 [.slice ak148_6_c_0 j148.length ck148_6_c_0], owC changesL Fk148_6_c_0 [.slice ak148_6_c_0 j148.length ck148_6_c_0] j148, blkC g16 48 [.string y102.name, .slice a102 y102.after.length e102, .bool y102.undo], owC strsL F91 [.slice (some ⟨g95, 0, none⟩) x91.length c91] x91] (by kernel_rfl) ?_
                    refine wd_take (i := 0) [0, 1, 2, 3, 4, 5] rfl rfl rfl rfl rfl (by kernel_rfl) (by kernel_rfl) (fun _ _ _ _ h => h) (yh_field Tb rfl rfl rfl) ?_
                    refine wd_take (i := 1) [0, 1, 2, 3, 4, 5] rfl rfl rfl rfl rfl (by kernel_rfl) (by kernel_rfl) (fun _ _ _ _ h => h) (yh_loadB Tb (k := 4) rfl rfl rfl rfl rfl) ?_
                    refine wd_take (i := 2) [0, 1, 2, 3, 4, 5] rfl rfl rfl rfl rfl (by kernel_rfl) (by kernel_rfl) (fun _ _ _ _ h => h) (yh_field Tb rfl rfl rfl) ?_
                    refine wd_take (i := 3) [0, 1, 2, 3, 4, 5] rfl rfl rfl rfl rfl (by kernel_rfl) (by kernel_rfl) (fun _ _ _ _ h => h) (yh_loadB Tb (k := 0) rfl rfl rfl rfl rfl) ?_
                    refine wd_take (i := 4) [0, 1, 2, 3, 4, 5] rfl rfl rfl rfl rfl (by kernel_rfl) (by kernel_rfl) (fun _ _ _ _ h => h) (yh_move rfl rfl) ?_
                    obtain ⟨y139, zy139, h⟩ := bd h
                    obtain ⟨iy139, hy139⟩ := geti_some zy139
                    obtain ⟨b139, o139, ha139⟩ := sl_addr h_u0_steps hy139
                    subst ha139
                    obtain ⟨a139, e139, hc139, hf139⟩ := get_step h_u0_steps hy139
                    have mx139 := rd_max hf139
                    refine wd_take (i := 5) [0, 1, 2, 3, 4, 5] rfl rfl rfl rfl rfl (by kernel_rfl) (by kernel_rfl) (fun _ _ _ _ h => h) (yh_idx Tb (k := x106.toNat) rfl rfl rfl iy139 (get_lt hy139) rfl rfl) ?_
                    refine wd_take (i := 6) [0, 1, 2, 3, 4, 5] rfl rfl rfl rfl rfl (by kernel_rfl) (by kernel_rfl) (fun _ _ _ _ h => h) (yh_field Tb rfl rfl rfl) ?_
                    refine wd_take (i := 7) [0, 1, 2, 3, 4, 5] rfl rfl rfl rfl rfl (by kernel_rfl) (by kernel_rfl) (fun _ _ _ _ h => h) (yh_loadAF Tb (j := 2) rfl rfl rfl hc139 rfl) ?_
                    refine wd_take (i := 8) [0, 1, 2, 3, 4, 5] rfl rfl rfl rfl rfl (by kernel_rfl) (by kernel_rfl) (fun _ _ _ _ h => h) (yh_cmpB rfl rfl rfl rfl (by kernel_rfl)) ?_
                    refine wd_done (by kernel_rfl) ?_
                    refine ex_seq ?_
                    refine cw_split rfl (fun c12 => ?_) (fun c12 => ?_)
                    · skip
                      replace h := bt c12 h
                      refine cw_region ?_
                      refine wl_u rfl (ow_y (yh_move rfl rfl) rfl rfl (kk_wl ?_))
                      refine wl_u rfl (ow_y (yh_move rfl rfl) rfl rfl (kk_wl ?_))
                      refine wl_u rfl (ow_y (yh_field Tb rfl rfl rfl) rfl rfl (kk_wl ?_))
                      refine wl_u rfl (ow_y (yh_loadB Tb (k := 4) rfl rfl rfl rfl rfl) rfl rfl (kk_wl ?_))
                      refine wl_u rfl (ow_y (yh_build [.string y95, .slice none 0 0, .bool y102.undo] rfl rfl (by kernel_rfl)) rfl rfl (kk_wl ?_))
                      obtain ⟨xc5, hxc5, h⟩ := bd h
                      refine wl_u rfl (ow_cPd 2 2 rfl rfl hb49 rfl rfl rfl rfl (fun w hw => c_impl_ChangesOf_f2 N _ _ _ _ hxc5 w (hw.at (i := 2) rfl) (hw.at (i := 3) rfl) (hw.ndPair (i := 2) (j := 2) rfl rfl) (rd_nil strsL rfl _ _)) rfl rfl (fun axc5 cxc5 Fxc5 => kk_wl ?_))
                      refine wl_nil ?_
                      refine ex_block_normal ?_
                      refine ex_seq ?_
                      refine cw_region ?_
                      refine wl_u rfl (ow_y (yh_arI rfl rfl rfl rfl (by omega)) rfl rfl (kk_wl ?_))
                      refine wl_u rfl (ow_y (yh_move rfl rfl) rfl rfl (kk_wl ?_))
                      refine wl_nil ?_
                      exact ex_next [2, 3, 0, 1, 5] (hn37 (n37, xc5, s93 + 1, axc5, cxc5, Fxc5) (Nat.lt_succ_self _) h) ⟨rfl, rfl, rfl, rfl, rfl, rfl, rfl, trivial⟩ (by kernel_rfl)
                    · skip
                      replace h := bf c12 h
                      refine cw_skip ?_
                      refine ex_block_normal ?_
                      refine ex_seq ?_
                      refine cw_region ?_
                      refine wl_u rfl (ow_y (yh_arI rfl rfl rfl rfl (by omega)) rfl rfl (kk_wl ?_))
                      refine wl_u rfl (ow_y (yh_move rfl rfl) rfl rfl (kk_wl ?_))
                      refine wl_nil ?_
                      exact ex_next [0, 1, 2, 3, 5] (hn37 (n37, j148, s93 + 1, ak148_6_c_0, ck148_6_c_0, Fk148_6_c_0) (Nat.lt_succ_self _) h) ⟨rfl, rfl, rfl, rfl, rfl, rfl, rfl, trivial⟩ (by kernel_rfl)
                  · skip
                    have h := he148
                    refine cw_seq ?_
                    refine cw_dr [0, 1, 2, 3, 4, 5, 6, 7, 8, 9, 10, 11, 12, 14, 15] [] [blkC g16 48 [.string y102.name, .slice a102 y102.after.length e102, .bool y102.undo], blkC g2 36 [.int .i64 u0.ver, .slice a_u0_steps u0.steps.length c_u0_steps], blkC g3 36 [.int .i64 u1.ver, .slice (some ⟨b102, o102, none⟩) u1.steps.length c_u1_steps], blkC g6 31 [.slice as6_c_0 s6_c_0.length cs6_c_0], owC changesL Fs6_c_0 [.slice as6_c_0 s6_c_0.length cs6_c_0] s6_c_0, owC strsL F91 [.slice (some ⟨g95, 0, none⟩) x91.length c91] x91] (by kernel_rfl) ?_
                    refine wd_take (i := 0) [0, 1, 2, 3, 4, 5] rfl rfl rfl rfl rfl (by kernel_rfl) (by kernel_rfl) (fun _ _ _ _ h => h) (yh_field Tb rfl rfl rfl) ?_
                    refine wd_take (i := 1) [0, 1, 2, 3, 4, 5] rfl rfl rfl rfl rfl (by kernel_rfl) (by kernel_rfl) (fun _ _ _ _ h => h) (yh_loadB Tb (k := 0) rfl rfl rfl rfl rfl) ?_
                    refine wd_take (i := 2) [0, 1, 2, 3, 4, 5] rfl rfl rfl rfl rfl (by kernel_rfl) (by kernel_rfl) (fun _ _ _ _ h => h) (yh_lenS Tb rfl rfl rfl rfl) ?_
                    refine wd_take (i := 3) [0, 1, 2, 3, 4, 5] rfl rfl rfl rfl rfl (by kernel_rfl) (by kernel_rfl) (fun _ _ _ _ h => h) (yh_cmpI rfl rfl rfl rfl) ?_
                    refine wd_take (i := 4) [0, 1, 2, 3, 4, 5] rfl rfl rfl rfl rfl (by kernel_rfl) (by kernel_rfl) (fun _ _ _ _ h => h) (yh_move rfl rfl) ?_
                    refine wd_split 5 rfl rfl rfl (fun c13 => ?_) (fun c13 => ?_)
                    · skip
                      replace h := bt c13 h
                      have q14 := ltb_true.1 c13
                      refine wd_take (i := 5) [0, 1, 2, 3, 4, 5] rfl rfl rfl rfl rfl (by kernel_rfl) (by kernel_rfl) (fun _ _ _ _ h => h) (yh_field Tb rfl rfl rfl) ?_
                      refine wd_take (i := 6) [0, 1, 2, 3, 4, 5] rfl rfl rfl rfl rfl (by kernel_rfl) (by kernel_rfl) (fun _ _ _ _ h => h) (yh_loadB Tb (k := 0) rfl rfl rfl rfl rfl) ?_
                      refine wd_take (i := 7) [0, 1, 2, 3, 4, 5] rfl rfl rfl rfl rfl (by kernel_rfl) (by kernel_rfl) (fun _ _ _ _ h => h) (yh_field Tb rfl rfl rfl) ?_
                      refine wd_take (i := 8) [0, 1, 2, 3, 4, 5] rfl rfl rfl rfl rfl (by kernel_rfl) (by kernel_rfl) (fun _ _ _ _ h => h) (yh_loadB Tb (k := 1) rfl rfl rfl rfl rfl) ?_
                      refine wd_take (i := 9) [0, 1, 2, 3, 4, 5] rfl rfl rfl rfl rfl (by kernel_rfl) (by kernel_rfl) (fun _ _ _ _ h => h) (yh_move rfl rfl) ?_
                      obtain ⟨y122, zy122, h⟩ := bd h
                      obtain ⟨iy122, hy122⟩ := geti_some zy122
                      obtain ⟨b122, o122, ha122⟩ := sl_addr h_u0_steps hy122
                      subst ha122
                      obtain ⟨a122, e122, hc122, hf122⟩ := get_step h_u0_steps hy122
                      have mx122 := rd_max hf122
                      refine wd_take (i := 10) [0, 1, 2, 3, 4, 5] rfl rfl rfl rfl rfl (by kernel_rfl) (by kernel_rfl) (fun _ _ _ _ h => h) (yh_idx Tb (k := x106.toNat) rfl rfl rfl iy122 (get_lt hy122) rfl rfl) ?_
                      refine wd_take (i := 11) [0, 1, 2, 3, 4, 5] rfl rfl rfl rfl rfl (by kernel_rfl) (by kernel_rfl) (fun _ _ _ _ h => h) (yh_field Tb rfl rfl rfl) ?_
                      refine wd_take (i := 12) [0, 1, 2, 3, 4, 5] rfl rfl rfl rfl rfl (by kernel_rfl) (by kernel_rfl) (fun _ _ _ _ h => h) (yh_loadAF Tb (j := 1) rfl rfl rfl hc122 rfl) ?_
                      obtain ⟨x125, hx125, h⟩ := bd h
                      refine wd_one 13 rfl rfl (by kernel_rfl) (ow_cV rfl hb51 rfl (fun w hw => c_slices_Equal_string N _ _ _ hx125 w (Lay.at_ hf102 hw) (Lay.at_ hf122 hw)) rfl rfl (kk_wd [0, 1, 2, 3, 4, 5] (by kernel_rfl) ?_))
                      refine wd_take (i := 14) [0, 1, 2, 3, 4, 5] rfl rfl rfl rfl rfl (by kernel_rfl) (by kernel_rfl) (fun _ _ _ _ h => h) (yh_not rfl rfl) ?_
                      refine wd_take (i := 15) [0, 1, 2, 3, 4, 5] rfl rfl rfl rfl rfl (by kernel_rfl) (by kernel_rfl) (fun _ _ _ _ h => h) (yh_pickT rfl rfl rfl) ?_
                      refine wd_done (by kernel_rfl) ?_
                      refine ex_seq ?_
                      refine cw_split rfl (fun c14 => ?_) (fun c14 => ?_)
                      · skip
                        replace h := bt c14 h
                        refine cw_region ?_
                        refine wl_u rfl (ow_y (yh_move rfl rfl) rfl rfl (kk_wl ?_))
                        refine wl_u rfl (ow_y (yh_move rfl rfl) rfl rfl (kk_wl ?_))
                        refine wl_u rfl (ow_y (yh_field Tb rfl rfl rfl) rfl rfl (kk_wl ?_))
                        refine wl_u rfl (ow_y (yh_loadB Tb (k := 0) rfl rfl rfl rfl rfl) rfl rfl (kk_wl ?_))
                        refine wl_u rfl (ow_y (yh_build [.string y95, .slice a102 y102.after.length e102, .bool false] rfl rfl (by kernel_rfl)) rfl rfl (kk_wl ?_))
                        obtain ⟨xc4, hxc4, h⟩ := bd h
                        refine wl_u rfl (ow_cPd 3 3 rfl rfl hb49 rfl rfl rfl rfl (fun w hw => c_impl_ChangesOf_f2 N _ _ _ _ hxc4 w (hw.at (i := 3) rfl) (hw.at (i := 4) rfl) (hw.ndPair (i := 3) (j := 3) rfl rfl) (Lay.atP (i := 3) (j := 3) hf102 rfl rfl hw :)) rfl rfl (fun axc4 cxc4 Fxc4 => kk_wl ?_))
                        refine wl_nil ?_
                        obtain rfl := Option.some.inj h
                        exact ex_next [3, 4, 0, 1, 2, 5] (hn148 (axc4, cxc4, Fxc4) trivial) ⟨rfl, rfl, rfl, rfl, rfl, rfl, rfl, rfl, rfl, rfl, trivial⟩ (by kernel_rfl)
                      · skip
                        replace h := bf c14 h
                        refine cw_skip ?_
                        obtain rfl := Option.some.inj h
                        exact ex_next [1, 2, 3, 4, 0, 5] (hn148 (as6_c_0, cs6_c_0, Fs6_c_0) trivial) ⟨rfl, rfl, rfl, rfl, rfl, rfl, rfl, rfl, rfl, rfl, trivial⟩ (by kernel_rfl)
                    · skip
                      replace h := bf c13 h
                      have q15 := ltb_false.1 c13
                      refine wd_skip (i := 5) [0, 1, 2, 3, 4, 5] rfl rfl rfl rfl (by kernel_rfl) (by kernel_rfl) (fun _ _ _ h => h) ?_
                      refine wd_skip (i := 6) [0, 1, 2, 3, 4, 5] rfl rfl rfl rfl (by kernel_rfl) (by kernel_rfl) (fun _ _ _ h => h) ?_
                      refine wd_skip (i := 7) [0, 1, 2, 3, 4, 5] rfl rfl rfl rfl (by kernel_rfl) (by kernel_rfl) (fun _ _ _ h => h) ?_
                      refine wd_skip (i := 8) [0, 1, 2, 3, 4, 5] rfl rfl rfl rfl (by kernel_rfl) (by kernel_rfl) (fun _ _ _ h => h) ?_
                      refine wd_skip (i := 9) [0, 1, 2, 3, 4, 5] rfl rfl rfl rfl (by kernel_rfl) (by kernel_rfl) (fun _ _ _ h => h) ?_
                      refine wd_skip (i := 10) [0, 1, 2, 3, 4, 5] rfl rfl rfl rfl (by kernel_rfl) (by kernel_rfl) (fun _ _ _ h => h) ?_
                      refine wd_skip (i := 11) [0, 1, 2, 3, 4, 5] rfl rfl rfl rfl (by kernel_rfl) (by kernel_rfl) (fun _ _ _ h => h) ?_
                      refine wd_skip (i := 12) [0, 1, 2, 3, 4, 5] rfl rfl rfl rfl (by kernel_rfl) (by kernel_rfl) (fun _ _ _ h => h) ?_
                      refine wd_offD 13 rfl rfl rfl rfl (by kernel_rfl) [0, 1, 2, 3, 4, 5] (fun _ => rfl) ?_
                      refine wd_skip (i := 14) [0, 1, 2, 3, 4, 5] rfl rfl rfl rfl (by kernel_rfl) (by kernel_rfl) (fun _ _ _ h => h) ?_
                      refine wd_take (i := 15) [0, 1, 2, 3, 4, 5] rfl rfl rfl rfl rfl (by kernel_rfl) (by kernel_rfl) (fun _ _ _ _ h => h) (yh_pickF rfl rfl rfl) ?_
                      refine wd_done (by kernel_rfl) ?_
                      refine ex_seq ?_
                      refine cw_false rfl ?_
                      refine cw_skip ?_
                      obtain rfl := Option.some.inj h
                      exact ex_next [1, 2, 3, 4, 0, 5] (hn148 (as6_c_0, cs6_c_0, Fs6_c_0) trivial) ⟨rfl, rfl, rfl, rfl, rfl, rfl, rfl, rfl, rfl, rfl, trivial⟩ (by kernel_rfl)
              · refine ⟨_, rfl, rfl, ?_⟩
                refine (ow_allocA Tb rfl rfl rfl rfl (fun g16 => kk_wd [1, 2, 3, 4, 5] (by kernel_rfl) ?_))
                obtain ⟨x101, hx101, h⟩ := bd h
                refine wd_one 4 rfl rfl (by kernel_rfl) (ow_cV rfl hb48 rfl (fun w hw => c_impl_Flow_at N _ _ _ hx101 w (Lay.at_ h_u1_steps hw)) rfl rfl (kk_wd [1, 2, 3, 4, 5] (by kernel_rfl) ?_))
                obtain ⟨y102, zy102, h⟩ := bd h
                obtain ⟨iy102, hy102⟩ := geti_some zy102
                obtain ⟨b102, o102, ha102⟩ := sl_addr h_u1_steps hy102
                subst ha102
                obtain ⟨a102, e102, hc102, hf102⟩ := get_step h_u1_steps hy102
                have mx102 := rd_max hf102
                refine wd_take (i := 5) [1, 2, 3, 4, 5] rfl rfl rfl rfl rfl (by kernel_rfl) (by kernel_rfl) (fun _ _ _ _ h => h) (yh_idx Tb (k := x101.toNat) rfl rfl rfl iy102 (get_lt hy102) rfl rfl) ?_
                refine wd_take (i := 6) [1, 2, 3, 4, 5] rfl rfl rfl rfl rfl (by kernel_rfl) (by kernel_rfl) (fun _ _ _ _ h => h) (yh_loadAN Tb rfl rfl rfl rfl hc102 rfl) ?_
                refine wd_one 8 rfl rfl (by kernel_rfl) (ow_storeA Tb (k := 0) rfl rfl rfl rfl rfl rfl rfl rfl rfl (kk_wdT rfl ?_))
                refine wd_done (by kernel_rfl) ?_
                refine ex_seq ?_
                refine cw_seq ?_
                refine cw_region ?_
                refine wl_u rfl (ow_y (yh_loadBA Tb (k := 1) rfl rfl rfl rfl rfl rfl) rfl rfl (kk_wl ?_))
                refine wl_u rfl (ow_y (yh_move rfl rfl) rfl rfl (kk_wl ?_))
                obtain ⟨x106, hx106, h⟩ := bd h
                refine wl_u rfl (ow_cV rfl hb48 rfl (fun w hw => c_impl_Flow_at N _ _ _ hx106 w (Lay.at_ h_u0_steps hw)) rfl rfl (kk_wl ?_))
                refine wl_u rfl (ow_y (yh_assign rfl rfl) rfl rfl (kk_wl ?_))
                refine wl_nil ?_
                refine ex_seq ?_
                refine cw_seq ?_
                refine cw_seq ?_
                refine cw_region ?_
                refine wl_u rfl (ow_y (yh_move rfl rfl) rfl rfl (kk_wl ?_))
                refine wl_u rfl (ow_y (yh_cmpI rfl rfl rfl rfl) rfl rfl (kk_wl ?_))
                refine wl_nil ?_
                refine ex_seq ?_
                refine cw_split rfl (fun c15 => ?_) (fun c15 => ?_)
                · skip
                  replace h := bt c15 h
                  have q16 := ltb_true.1 c15
                  refine cw_seq ?_
                  refine cw_region ?_
                  refine wl_u rfl (ow_y (yh_move rfl rfl) rfl rfl (kk_wl ?_))
                  refine wl_u rfl (ow_y (yh_loadBA Tb (k := 0) rfl rfl rfl rfl rfl rfl) rfl rfl (kk_wl ?_))
                  obtain ⟨xc3, hxc3, h⟩ := bd h
                  refine wl_u rfl (ow_cPd 3 3 rfl rfl hb49 rfl rfl rfl rfl (fun w hw => c_impl_ChangesOf_f2 N _ _ _ _ hxc3 w (hw.at (i := 3) rfl) (hw.at (i := 4) rfl) (hw.ndPair (i := 3) (j := 3) rfl rfl) (Lay.atP (i := 3) (j := 3) hf102 rfl rfl hw :)) rfl rfl (fun axc3 cxc3 Fxc3 => kk_wl ?_))
                  refine wl_nil ?_
                  refine ex_seq ?_
                  refine cw_exit ?_
                  refine ex_then_exit ?_
                  refine ex_block_exit ?_
                  refine ex_seq ?_
                  refine cw_region ?_
                  refine wl_u rfl (ow_y (yh_arI rfl rfl rfl rfl (by omega)) rfl rfl (kk_wl ?_))
                  refine wl_u rfl (ow_y (yh_move rfl rfl) rfl rfl (kk_wl ?_))
                  refine wl_nil ?_
                  exact ex_next [3, 4, 0, 1, 5] (hn37 (n37, xc3, s93 + 1, axc3, cxc3, Fxc3) (Nat.lt_succ_self _) h) ⟨rfl, rfl, rfl, rfl, rfl, rfl, rfl, trivial⟩ (by kernel_rfl)
                · skip
                  replace h := bf c15 h
                  have q17 := ltb_false.1 c15
                  refine cw_skip ?_
                  refine ex_seq ?_
                  obtain ⟨j148, he148, hk148⟩ := bd h
                  clear h
                  refine cw_cut (σ := (Option Addr) × Nat × (List Nat)) (fun s => True) (fun s => [(2, .pointer (some ⟨g2, 0, none⟩)), (3, .pointer (some ⟨g3, 0, none⟩)), (6, .pointer (some ⟨g6, 0, none⟩)), (7, .func (.func 49) #[] #[.pointer (some ⟨g6, 0, none⟩)]), (15, .string y95), (16, .pointer (some ⟨g16, 0, none⟩)), (17, .int .i64 x106), (91, .slice (some ⟨g95, 0, none⟩) x91.length c91), (92, .int .i64 ((x91.length : Nat) : Int)), (93, .int .i64 ((s93 : Nat) : Int))]) (fun s => [blkC g2 36 [.int .i64 u0.ver, .slice a_u0_steps u0.steps.length c_u0_steps], blkC g3 36 [.int .i64 u1.ver, .slice (some ⟨b102, o102, none⟩) u1.steps.length c_u1_steps], blkC g6 31 [.slice s.1 j148.length s.2.1], owC changesL s.2.2 [.slice s.1 j148.length s.2.1] j148, blkC g16 48 [.string y102.name, .slice a102 y102.after.length e102, .bool y102.undo], owC strsL F91 [.slice (some ⟨g95, 0, none⟩) x91.length c91] x91]) (fun s hI => ?_) (fun KL hn148 => ?_)
                  · skip
                    obtain ⟨ak148_6_c_0, ck148_6_c_0, Fk148_6_c_0⟩ := s
                    simp only at ⊢
                    have h := hk148
                    refine cw_seq ?_
                    refine cw_dr [0, 1, 2, 3, 4, 5, 6, 7, 8] [] [blkC g2 36 [.int .i64 u0.ver, .slice a_u0_steps u0.steps.length c_u0_steps], blkC g3 36 [.int .i64 u1.ver, .slice (some ⟨b102, o102, none⟩) u1.steps.length c_u1_steps], blkC g6 31 [.slice ak148_6_c_0 j148.length ck148_6_c_0], owC changesL Fk148_6_c_0 [.slice ak148_6_c_0 j148.length ck148_6_c_0] j148, blkC g16 48 [.string y102.name, .slice a102 y102.after.length e102, .bool y102.undo], owC strsL F91 [.slice (some ⟨g95, 0, none⟩) x91.length c91] x91] (by kernel_rfl) ?_
                    refine wd_take (i := 0) [0, 1, 2, 3, 4, 5] rfl rfl rfl rfl rfl (by kernel_rfl) (by kernel_rfl) (fun _ _ _ _ h => h) (yh_field Tb rfl rfl rfl) ?_
                    refine wd_take (i := 1) [0, 1, 2, 3, 4, 5] rfl rfl rfl rfl rfl (by kernel_rfl) (by kernel_rfl) (fun _ _ _ _ h => h) (yh_loadB Tb (k := 4) rfl rfl rfl rfl rfl) ?_
                    refine wd_take (i := 2) [0, 1, 2, 3, 4, 5] rfl rfl rfl rfl rfl (by kernel_rfl) (by kernel_rfl) (fun _ _ _ _ h => h) (yh_field Tb rfl rfl rfl) ?_
                    refine wd_take (i := 3) [0, 1, 2, 3, 4, 5] rfl rfl rfl rfl rfl (by kernel_rfl) (by kernel_rfl) (fun _ _ _ _ h => h) (yh_loadB Tb (k := 0) rfl rfl rfl rfl rfl) ?_
                    refine wd_take (i := 4) [0, 1, 2, 3, 4, 5] rfl rfl rfl rfl rfl (by kernel_rfl) (by kernel_rfl) (fun _ _ _ _ h => h) (yh_move rfl rfl) ?_
                    obtain ⟨y139, zy139, h⟩ := bd h
                    obtain ⟨iy139, hy139⟩ := geti_some zy139
                    obtain ⟨b139, o139, ha139⟩ := sl_addr h_u0_steps hy139
                    subst ha139
                    obtain ⟨a139, e139, hc139, hf139⟩ := get_step h_u0_steps hy139
                    have mx139 := rd_max hf139
                    refine wd_take (i := 5) [0, 1, 2, 3, 4, 5] rfl rfl rfl rfl rfl (by kernel_rfl) (by kernel_rfl) (fun _ _ _ _ h => h) (yh_idx Tb (k := x106.toNat) rfl rfl rfl iy139 (get_lt hy139) rfl rfl) ?_
                    refine wd_take (i := 6) [0, 1, 2, 3, 4, 5] rfl rfl rfl rfl rfl (by kernel_rfl) (by kernel_rfl) (fun _ _ _ _ h => h) (yh_field Tb rfl rfl rfl) ?_
                    refine wd_take (i := 7) [0, 1, 2, 3, 4, 5] rfl rfl rfl rfl rfl (by kernel_rfl) (by kernel_rfl) (fun _ _ _ _ h => h) (yh_loadAF Tb (j := 2) rfl rfl rfl hc139 rfl) ?_
                    refine wd_take (i := 8) [0, 1, 2, 3, 4, 5] rfl rfl rfl rfl rfl (by kernel_rfl) (by kernel_rfl) (fun _ _ _ _ h => h) (yh_cmpB rfl rfl rfl rfl (by kernel_rfl)) ?_
                    refine wd_done (by kernel_rfl) ?_
                    refine ex_seq ?_
                    refine cw_split rfl (fun c16 => ?_) (fun c16 => ?_)
                    · skip
                      replace h := bt c16 h
                      refine cw_region ?_
                      refine wl_u rfl (ow_y (yh_move rfl rfl) rfl rfl (kk_wl ?_))
                      refine wl_u rfl (ow_y (yh_move rfl rfl) rfl rfl (kk_wl ?_))
                      refine wl_u rfl (ow_y (yh_field Tb rfl rfl rfl) rfl rfl (kk_wl ?_))
                      refine wl_u rfl (ow_y (yh_loadB Tb (k := 4) rfl rfl rfl rfl rfl) rfl rfl (kk_wl ?_))
                      refine wl_u rfl (ow_y (yh_build [.string y95, .slice none 0 0, .bool y102.undo] rfl rfl (by kernel_rfl)) rfl rfl (kk_wl ?_))
                      obtain ⟨xc5, hxc5, h⟩ := bd h
                      refine wl_u rfl (ow_cPd 2 2 rfl rfl hb49 rfl rfl rfl rfl (fun w hw => c_impl_ChangesOf_f2 N _ _ _ _ hxc5 w (hw.at (i := 2) rfl) (hw.at (i := 3) rfl) (hw.ndPair (i := 2) (j := 2) rfl rfl) (rd_nil strsL rfl _ _)) rfl rfl (fun axc5 cxc5 Fxc5 => kk_wl ?_))
                      refine wl_nil ?_
                      refine ex_block_normal ?_
                      refine ex_seq ?_
                      refine cw_region ?_
                      refine wl_u rfl (ow_y (yh_arI rfl rfl rfl rfl (by omega)) rfl rfl (kk_wl ?_))
                      refine wl_u rfl (ow_y (yh_move rfl rfl) rfl rfl (kk_wl ?_))
                      refine wl_nil ?_
                      exact ex_next [2, 3, 0, 1, 5] (hn37 (n37, xc5, s93 + 1, axc5, cxc5, Fxc5) (Nat.lt_succ_self _) h) ⟨rfl, rfl, rfl, rfl, rfl, rfl, rfl, trivial⟩ (by kernel_rfl)
                    · skip
                      replace h := bf c16 h
                      refine cw_skip ?_
                      refine ex_block_normal ?_
                      refine ex_seq ?_
                      refine cw_region ?_
                      refine wl_u rfl (ow_y (yh_arI rfl rfl rfl rfl (by omega)) rfl rfl (kk_wl ?_))
                      refine wl_u rfl (ow_y (yh_move rfl rfl) rfl rfl (kk_wl ?_))
                      refine wl_nil ?_
                      exact ex_next [0, 1, 2, 3, 5] (hn37 (n37, j148, s93 + 1, ak148_6_c_0, ck148_6_c_0, Fk148_6_c_0) (Nat.lt_succ_self _) h) ⟨rfl, rfl, rfl, rfl, rfl, rfl, rfl, trivial⟩ (by kernel_rfl)
                  · skip
                    have h := he148
                    refine cw_seq ?_
                    refine cw_dr [0, 1, 2, 3, 4, 5, 6, 7, 8, 9, 10, 11, 12, 14, 15] [] [blkC g16 48 [.string y102.name, .slice a102 y102.after.length e102, .bool y102.undo], blkC g2 36 [.int .i64 u0.ver, .slice a_u0_steps u0.steps.length c_u0_steps], blkC g3 36 [.int .i64 u1.ver, .slice (some ⟨b102, o102, none⟩) u1.steps.length c_u1_steps], blkC g6 31 [.slice as6_c_0 s6_c_0.length cs6_c_0], owC changesL Fs6_c_0 [.slice as6_c_0 s6_c_0.length cs6_c_0] s6_c_0, owC strsL F91 [.slice (some ⟨g95, 0, none⟩) x91.length c91] x91] (by kernel_rfl) ?_
                    refine wd_take (i := 0) [0, 1, 2, 3, 4, 5] rfl rfl rfl rfl rfl (by kernel_rfl) (by kernel_rfl) (fun _ _ _ _ h => h) (yh_field Tb rfl rfl rfl) ?_
                    refine wd_take (i := 1) [0, 1, 2, 3, 4, 5] rfl rfl rfl rfl rfl (by kernel_rfl) (by kernel_rfl) (fun _ _ _ _ h => h) (yh_loadB Tb (k := 0) rfl rfl rfl rfl rfl) ?_
                    refine wd_take (i := 2) [0, 1, 2, 3, 4, 5] rfl rfl rfl rfl rfl (by kernel_rfl) (by kernel_rfl) (fun _ _ _ _ h => h) (yh_lenS Tb rfl rfl rfl rfl) ?_
                    refine wd_take (i := 3) [0, 1, 2, 3, 4, 5] rfl rfl rfl rfl rfl (by kernel_rfl) (by kernel_rfl) (fun _ _ _ _ h => h) (yh_cmpI rfl rfl rfl rfl) ?_
                    refine wd_take (i := 4) [0, 1, 2, 3, 4, 5] rfl rfl rfl rfl rfl (by kernel_rfl) (by kernel_rfl) (fun _ _ _ _ h => h) (yh_move rfl rfl) ?_
                    refine wd_split 5 rfl rfl rfl (fun c17 => ?_) (fun c17 => ?_)
                    · skip
                      replace h := bt c17 h
                      have q18 := ltb_true.1 c17
                      refine wd_take (i := 5) [0, 1, 2, 3, 4, 5] rfl rfl rfl rfl rfl (by kernel_rfl) (by kernel_rfl) (fun _ _ _ _ h => h) (yh_field Tb rfl rfl rfl) ?_
                      refine wd_take (i := 6) [0, 1, 2, 3, 4, 5] rfl rfl rfl rfl rfl (by kernel_rfl) (by kernel_rfl) (fun _ _ _ _ h => h) (yh_loadB Tb (k := 0) rfl rfl rfl rfl rfl) ?_
                      refine wd_take (i := 7) [0, 1, 2, 3, 4, 5] rfl rfl rfl rfl rfl (by kernel_rfl) (by kernel_rfl) (fun _ _ _ _ h => h) (yh_field Tb rfl rfl rfl) ?_
                      refine wd_take (i := 8) [0, 1, 2, 3, 4, 5] rfl rfl rfl rfl rfl (by kernel_rfl) (by kernel_rfl) (fun _ _ _ _ h => h) (yh_loadB Tb (k := 1) rfl rfl rfl rfl rfl) ?_
                      refine wd_take (i := 9) [0, 1, 2, 3, 4, 5] rfl rfl rfl rfl rfl (by kernel_rfl) (by kernel_rfl) (fun _ _ _ _ h => h) (yh_move rfl rfl) ?_
                      obtain ⟨y122, zy122, h⟩ := bd h
                      obtain ⟨iy122, hy122⟩ := geti_some zy122
                      obtain ⟨b122, o122, ha122⟩ := sl_addr h_u0_steps hy122
                      subst ha122
                      obtain ⟨a122, e122, hc122, hf122⟩ := get_step h_u0_steps hy122
                      have mx122 := rd_max hf122
                      refine wd_take (i := 10) [0, 1, 2, 3, 4, 5] rfl rfl rfl rfl rfl (by kernel_rfl) (by kernel_rfl) (fun _ _ _ _ h => h) (yh_idx Tb (k := x106.toNat) rfl rfl rfl iy122 (get_lt hy122) rfl rfl) ?_
                      refine wd_take (i := 11) [0, 1, 2, 3, 4, 5] rfl rfl rfl rfl rfl (by kernel_rfl) (by kernel_rfl) (fun _ _ _ _ h => h) (yh_field Tb rfl rfl rfl) ?_
                      refine wd_take (i := 12) [0, 1, 2, 3, 4, 5] rfl rfl rfl rfl rfl (by kernel_rfl) (by kernel_rfl) (fun _ _ _ _ h => h) (yh_loadAF Tb (j := 1) rfl rfl rfl hc122 rfl) ?_
                      obtain ⟨x125, hx125, h⟩ := bd h
                      refine wd_one 13 rfl rfl (by kernel_rfl) (ow_cV rfl hb51 rfl (fun w hw => c_slices_Equal_string N _ _ _ hx125 w (Lay.at_ hf102 hw) (Lay.at_ hf122 hw)) rfl rfl (kk_wd [0, 1, 2, 3, 4, 5] (by kernel_rfl) ?_))
                      refine wd_take (i := 14) [0, 1, 2, 3, 4, 5] rfl rfl rfl rfl rfl (by kernel_rfl) (by kernel_rfl) (fun _ _ _ _ h => h) (yh_not rfl rfl) ?_
                      refine wd_take (i := 15) [0, 1, 2, 3, 4, 5] rfl rfl rfl rfl rfl (by kernel_rfl) (by kernel_rfl) (fun _ _ _ _ h => h) (yh_pickT rfl rfl rfl) ?_
                      refine wd_done (by kernel_rfl) ?_
                      refine ex_seq ?_
                      refine cw_split rfl (fun c18 => ?_) (fun c18 => ?_)
                      · skip
                        replace h := bt c18 h
                        refine cw_region ?_
                        refine wl_u rfl (ow_y (yh_move rfl rfl) rfl rfl (kk_wl ?_))
                        refine wl_u rfl (ow_y (yh_move rfl rfl) rfl rfl (kk_wl ?_))
                        refine wl_u rfl (ow_y (yh_field Tb rfl rfl rfl) rfl rfl (kk_wl ?_))
                        refine wl_u rfl (ow_y (yh_loadB Tb (k := 0) rfl rfl rfl rfl rfl) rfl rfl (kk_wl ?_))
                        refine wl_u rfl (ow_y (yh_build [.string y95, .slice a102 y102.after.length e102, .bool false] rfl rfl (by kernel_rfl)) rfl rfl (kk_wl ?_))
                        obtain ⟨xc4, hxc4, h⟩ := bd h
                        refine wl_u rfl (ow_cPd 3 3 rfl rfl hb49 rfl rfl rfl rfl (fun w hw => c_impl_ChangesOf_f2 N _ _ _ _ hxc4 w (hw.at (i := 3) rfl) (hw.at (i := 4) rfl) (hw.ndPair (i := 3) (j := 3) rfl rfl) (Lay.atP (i := 3) (j := 3) hf102 rfl rfl hw :)) rfl rfl (fun axc4 cxc4 Fxc4 => kk_wl ?_))
                        refine wl_nil ?_
                        obtain rfl := Option.some.inj h
                        exact ex_next [3, 4, 0, 1, 2, 5] (hn148 (axc4, cxc4, Fxc4) trivial) ⟨rfl, rfl, rfl, rfl, rfl, rfl, rfl, rfl, rfl, rfl, trivial⟩ (by kernel_rfl)
                      · skip
                        replace h := bf c18 h
                        refine cw_skip ?_
                        obtain rfl := Option.some.inj h
                        exact ex_next [1, 2, 3, 4, 0, 5] (hn148 (as6_c_0, cs6_c_0, Fs6_c_0) trivial) ⟨rfl, rfl, rfl, rfl, rfl, rfl, rfl, rfl, rfl, rfl, trivial⟩ (by kernel_rfl)
                    · skip
                      replace h := bf c17 h
                      have q19 := ltb_false.1 c17
                      refine wd_skip (i := 5) [0, 1, 2, 3, 4, 5] rfl rfl rfl rfl (by kernel_rfl) (by kernel_rfl) (fun _ _ _ h => h) ?_
                      refine wd_skip (i := 6) [0, 1, 2, 3, 4, 5] rfl rfl rfl rfl (by kernel_rfl) (by kernel_rfl) (fun _ _ _ h => h) ?_
                      refine wd_skip (i := 7) [0, 1, 2, 3, 4, 5] rfl rfl rfl rfl (by kernel_rfl) (by kernel_rfl) (fun _ _ _ h => h) ?_
                      refine wd_skip (i := 8) [0, 1, 2, 3, 4, 5] rfl rfl rfl rfl (by kernel_rfl) (by kernel_rfl) (fun _ _ _ h => h) ?_
                      refine wd_skip (i := 9) [0, 1, 2, 3, 4, 5] rfl rfl rfl rfl (by kernel_rfl) (by kernel_rfl) (fun _ _ _ h => h) ?_
                      refine wd_skip (i := 10) [0, 1, 2, 3, 4, 5] rfl rfl rfl rfl (by kernel_rfl) (by kernel_rfl) (fun _ _ _ h => h) ?_
                      refine wd_skip (i := 11) [0, 1, 2, 3, 4, 5] rfl rfl rfl rfl (by kernel_rfl) (by kernel_rfl) (fun _ _ _ h => h) ?_
                      refine wd_skip (i := 12) [0, 1, 2, 3, 4, 5] rfl rfl rfl rfl (by kernel_rfl) (by kernel_rfl) (fun _ _ _ h => h) ?_
                      refine wd_offD 13 rfl rfl rfl rfl (by kernel_rfl) [0, 1, 2, 3, 4, 5] (fun _ => rfl) ?_
                      refine wd_skip (i := 14) [0, 1, 2, 3, 4, 5] rfl rfl rfl rfl (by kernel_rfl) (by kernel_rfl) (fun _ _ _ h => h) ?_
                      refine wd_take (i := 15) [0, 1, 2, 3, 4, 5] rfl rfl rfl rfl rfl (by kernel_rfl) (by kernel_rfl) (fun _ _ _ _ h => h) (yh_pickF rfl rfl rfl) ?_
                      refine wd_done (by kernel_rfl) ?_
                      refine ex_seq ?_
                      refine cw_false rfl ?_
                      refine cw_skip ?_
                      obtain rfl := Option.some.inj h
                      exact ex_next [1, 2, 3, 4, 0, 5] (hn148 (as6_c_0, cs6_c_0, Fs6_c_0) trivial) ⟨rfl, rfl, rfl, rfl, rfl, rfl, rfl, rfl, rfl, rfl, trivial⟩ (by kernel_rfl)
            · skip
              replace h := bf c10 h
              have q20 := ltb_false.1 c10
              refine cw_exit ?_
              refine ex_then_exit ?_
              refine ex_then_exit ?_
              obtain rfl := Option.some.inj h
              have h := go_brk hk37
              refine ex_block_exit ?_
              refine ex_seq ?_
              refine cw_seq ?_
              refine cw_region ?_
              refine wl_u rfl (ow_y (yh_loadB Tb (k := 2) rfl rfl rfl rfl rfl) rfl rfl (kk_wl ?_))
              refine wl_u rfl (ow_y (yh_assign rfl rfl) rfl rfl (kk_wl ?_))
              refine wl_u rfl (ow_y (yh_assign rfl rfl) rfl rfl (kk_wl ?_))
              refine wl_nil ?_
              refine ex_seq ?_
              refine cw_ret ?_
              obtain rfl := Option.some.inj h
              exact ex_r2 Tb rfl (.tmp rfl) (.tmp rfl) (fun wq hq => ⟨_, rfl, hq.ext, ⟨as6_c_0, cs6_c_0, Fs6_c_0, rfl, NewC.sel [3] hq rfl⟩⟩)

def m_laws_eqStringS_L8 (N : Nat) (a : List Str) (b : List Str) : Nat → Nat → Option (Ex (Nat) (Bool))
  | 0, _ => none
  | n + 1, s5 => (bif ltb ((s5 : Nat) : Int) ((a.length : Nat) : Int) then (a[s5]?).bind fun y19 => (b[s5]?).bind fun y23 => (bif !(seq y19 y23) then some (Ex.ret false)
 else m_laws_eqStringS_L8 N a b n (s5 + 1))
 else some (Ex.brk (s5)))

def m_laws_eqStringS (N : Nat) (a : List Str) (b : List Str) : Option (Bool) := (bif !(eqb ((a.length : Nat) : Int) ((b.length : Nat) : Int)) then some false
 else (m_laws_eqStringS_L8 N a b N 0).bind fun e8 => e8.go (fun r => r) fun b8 => some true)

set_option maxHeartbeats 4000000 in
theorem c_laws_eqStringS (N : Nat) (a : List Str) (b : List Str) (res : Bool) (h : m_laws_eqStringS N a b = some res) (w : World) {a_a a_b : Option Addr} {c_a c_b : Nat} (h_a : strsL.rd w [] [.slice a_a a.length c_a] a) (h_b : strsL.rd w [] [.slice a_b b.length c_b] b) : Ret Try.prog 110 [.slice a_a a.length c_a, .slice a_b b.length c_b] w [] fun v w' => v = .bool res := by
  have mh_a := rd_max h_a
  have mh_b := rd_max h_b
  unfold m_laws_eqStringS at h
  refine ret_enter Try.func110 rfl Try.ntmps110 rfl (Hp.refl w _) ?_
  refine cw_seq ?_
  refine cw_region ?_
  refine wl_u rfl (ow_y (yh_assign rfl rfl) rfl rfl (kk_wl ?_))
  refine wl_nil ?_
  refine ex_seq ?_
  refine cw_seq ?_
  refine cw_seq ?_
  refine cw_region ?_
  refine wl_u rfl (ow_y (yh_move rfl rfl) rfl rfl (kk_wl ?_))
  refine wl_u rfl (ow_y (yh_lenS Tb rfl rfl rfl rfl) rfl rfl (kk_wl ?_))
  refine wl_u rfl (ow_y (yh_move rfl rfl) rfl rfl (kk_wl ?_))
  refine wl_u rfl (ow_y (yh_lenS Tb rfl rfl rfl rfl) rfl rfl (kk_wl ?_))
  refine wl_u rfl (ow_y (yh_cmpI rfl rfl rfl rfl) rfl rfl (kk_wl ?_))
  refine wl_nil ?_
  refine ex_seq ?_
  refine cw_split rfl (fun c1 => ?_) (fun c1 => ?_)
  · skip
    replace h := bt c1 h
    have q1 := eqb_false.1 (nt c1)
    refine cw_seq ?_
    refine cw_region ?_
    refine wl_u rfl (ow_y (yh_assign rfl rfl) rfl rfl (kk_wl ?_))
    refine wl_nil ?_
    refine ex_seq ?_
    refine cw_ret ?_
    refine ex_then_ret ?_
    obtain rfl := Option.some.inj h
    exact ex_r1 Tb rfl (.tmp rfl) (fun wq hq => ⟨_, rfl, hq.ext, rfl⟩)
  · skip
    replace h := bf c1 h
    have q2 := eqb_true.1 (nf c1)
    refine cw_skip ?_
    refine ex_seq ?_
    refine cw_seq ?_
    refine cw_seq ?_
    refine cw_region ?_
    refine wl_u rfl (ow_y (yh_assign rfl rfl) rfl rfl (kk_wl ?_))
    refine wl_nil ?_
    refine ex_seq ?_
    refine cw_block ?_
    obtain ⟨e8, he8, hk8⟩ := bd h
    clear h
    refine cw_loopG (σ := Nat × Nat) (fun s => m_laws_eqStringS_L8 N a b s.1 s.2 = some e8) (fun s => [(0, .slice a_a a.length c_a), (1, .slice a_b b.length c_b), (5, .int .i64 ((s.2 : Nat) : Int))]) (fun s => []) (fun s => s.1) (N, 0) [] he8 ⟨rfl, rfl, rfl, trivial⟩ rfl (fun KL s he8 hn8 => ?_)
    obtain ⟨n8, s5⟩ := s
    simp only at he8 hn8 ⊢
    rcases n8 with _ | n8
    · exact nosome he8
    have h := he8; rw [m_laws_eqStringS_L8] at h
    refine cw_seq ?_
    refine cw_seq ?_
    refine cw_region ?_
    refine wl_u rfl (ow_y (yh_move rfl rfl) rfl rfl (kk_wl ?_))
    refine wl_u rfl (ow_y (yh_move rfl rfl) rfl rfl (kk_wl ?_))
    refine wl_u rfl (ow_y (yh_lenS Tb rfl rfl rfl rfl) rfl rfl (kk_wl ?_))
    refine wl_u rfl (ow_y (yh_cmpI rfl rfl rfl rfl) rfl rfl (kk_wl ?_))
    refine wl_nil ?_
    refine ex_seq ?_
    refine cw_split rfl (fun c2 => ?_) (fun c2 => ?_)
    · skip
      replace h := bt c2 h
      have q3 := ltb_true.1 c2
      refine cw_skip ?_
      refine ex_seq ?_
      refine cw_seq ?_
      refine cw_block ?_
      refine cw_seq ?_
      refine cw_dr [0, 1, 2, 3, 4, 5, 6, 7, 8] [] [] (by kernel_rfl) ?_
      refine wd_take (i := 0) [] rfl rfl rfl rfl rfl (by kernel_rfl) (by kernel_rfl) (fun _ _ _ _ h => h) (yh_move rfl rfl) ?_
      refine wd_take (i := 1) [] rfl rfl rfl rfl rfl (by kernel_rfl) (by kernel_rfl) (fun _ _ _ _ h => h) (yh_move rfl rfl) ?_
      obtain ⟨y19, hy19, h⟩ := bd h
      obtain ⟨b19, o19, ha19⟩ := sl_addr h_a hy19
      subst ha19
      have hc19 := get_str h_a hy19
      refine wd_take (i := 2) [] rfl rfl rfl rfl rfl (by kernel_rfl) (by kernel_rfl) (fun _ _ _ _ h => h) (yh_idx Tb (k := s5) rfl rfl rfl rfl (get_lt hy19) rfl rfl) ?_
      refine wd_take (i := 3) [] rfl rfl rfl rfl rfl (by kernel_rfl) (by kernel_rfl) (fun _ _ _ _ h => h) (yh_loadA0 Tb rfl rfl rfl hc19 rfl) ?_
      refine wd_take (i := 4) [] rfl rfl rfl rfl rfl (by kernel_rfl) (by kernel_rfl) (fun _ _ _ _ h => h) (yh_move rfl rfl) ?_
      refine wd_take (i := 5) [] rfl rfl rfl rfl rfl (by kernel_rfl) (by kernel_rfl) (fun _ _ _ _ h => h) (yh_move rfl rfl) ?_
      obtain ⟨y23, hy23, h⟩ := bd h
      obtain ⟨b23, o23, ha23⟩ := sl_addr h_b hy23
      subst ha23
      have hc23 := get_str h_b hy23
      refine wd_take (i := 6) [] rfl rfl rfl rfl rfl (by kernel_rfl) (by kernel_rfl) (fun _ _ _ _ h => h) (yh_idx Tb (k := s5) rfl rfl rfl rfl (get_lt hy23) rfl rfl) ?_
      refine wd_take (i := 7) [] rfl rfl rfl rfl rfl (by kernel_rfl) (by kernel_rfl) (fun _ _ _ _ h => h) (yh_loadA0 Tb rfl rfl rfl hc23 rfl) ?_
      refine wd_take (i := 8) [] rfl rfl rfl rfl rfl (by kernel_rfl) (by kernel_rfl) (fun _ _ _ _ h => h) (yh_cmpS rfl rfl rfl rfl) ?_
      refine wd_done (by kernel_rfl) ?_
      refine ex_seq ?_
      refine cw_split rfl (fun c3 => ?_) (fun c3 => ?_)
      · skip
        replace h := bt c3 h
        refine cw_seq ?_
        refine cw_region ?_
        refine wl_u rfl (ow_y (yh_assign rfl rfl) rfl rfl (kk_wl ?_))
        refine wl_nil ?_
        refine ex_seq ?_
        refine cw_ret ?_
        refine ex_block_ret ?_
        refine ex_then_ret ?_
        refine ex_then_ret ?_
        refine ex_block_ret ?_
        refine ex_then_ret ?_
        obtain rfl := Option.some.inj h
        obtain rfl := go_ret hk8
        exact ex_r1 Tb rfl (.tmp rfl) (fun wq hq => ⟨_, rfl, hq.ext, rfl⟩)
      · skip
        replace h := bf c3 h
        refine cw_skip ?_
        refine ex_block_normal ?_
        refine ex_seq ?_
        refine cw_region ?_
        refine wl_u rfl (ow_y (yh_move rfl rfl) rfl rfl (kk_wl ?_))
        refine wl_u rfl (ow_y (yh_arI rfl rfl rfl rfl (by omega)) rfl rfl (kk_wl ?_))
        refine wl_u rfl (ow_y (yh_assign rfl rfl) rfl rfl (kk_wl ?_))
        refine wl_nil ?_
        exact ex_next [] (hn8 (n8, s5 + 1) (Nat.lt_succ_self _) h) ⟨rfl, rfl, rfl, trivial⟩ (by kernel_rfl)
    · skip
      replace h := bf c2 h
      have q4 := ltb_false.1 c2
      refine cw_exit ?_
      refine ex_then_exit ?_
      refine ex_then_exit ?_
      obtain rfl := Option.some.inj h
      have h := go_brk hk8
      refine ex_block_exit ?_
      refine ex_seq ?_
      refine cw_seq ?_
      refine cw_region ?_
      refine wl_u rfl (ow_y (yh_assign rfl rfl) rfl rfl (kk_wl ?_))
      refine wl_nil ?_
      refine ex_seq ?_
      refine cw_ret ?_
      obtain rfl := Option.some.inj h
      exact ex_r1 Tb rfl (.tmp rfl) (fun wq hq => ⟨_, rfl, hq.ext, rfl⟩)

def m_laws_eqStep (N : Nat) (a : Step) (b : Step) : Option (Bool) := (bif !(seq a.name b.name) then some false
 else (m_laws_eqStringS N a.after b.after).bind fun x14 => (bif !x14 then some false
 else (bif a.undo != b.undo then some false
 else some true)))

set_option maxHeartbeats 4000000 in
theorem c_laws_eqStep (N : Nat) (a : Step) (b : Step) (res : Bool) (h : m_laws_eqStep N a b = some res) (w : World) {a_a_after a_b_after : Option Addr} {c_a_after c_b_after : Nat} (h_a_after : strsL.rd w [] [.slice a_a_after a.after.length c_a_after] a.after) (h_b_after : strsL.rd w [] [.slice a_b_after b.after.length c_b_after] b.after) : Ret Try.prog 89 [.agg #[.string a.name, .slice a_a_after a.after.length c_a_after, .bool a.undo], .agg #[.string b.name, .slice a_b_after b.after.length c_b_after, .bool b.undo]] w [] fun v w' => v = .bool res := by
  have mh_a_after := rd_max h_a_after
  have mh_b_after := rd_max h_b_after
  unfold m_laws_eqStep at h
  refine ret_enter Try.func89 rfl Try.ntmps89 rfl (Hp.refl w _) ?_
  refine cw_seq ?_
  refine cw_region ?_
  refine wl_u rfl (ow_boxA rfl rfl rfl rfl (fun g2 => kk_wl ?_))
  refine wl_u rfl (ow_boxA rfl rfl rfl rfl (fun g3 => kk_wl ?_))
  refine wl_u rfl (ow_y (yh_assign rfl rfl) rfl rfl (kk_wl ?_))
  refine wl_nil ?_
  refine ex_seq ?_
  refine cw_seq ?_
  refine cw_seq ?_
  refine cw_region ?_
  refine wl_u rfl (ow_y (yh_field Tb rfl rfl rfl) rfl rfl (kk_wl ?_))
  refine wl_u rfl (ow_y (yh_loadB Tb (k := 1) rfl rfl rfl rfl rfl) rfl rfl (kk_wl ?_))
  refine wl_u rfl (ow_y (yh_field Tb rfl rfl rfl) rfl rfl (kk_wl ?_))
  refine wl_u rfl (ow_y (yh_loadB Tb (k := 0) rfl rfl rfl rfl rfl) rfl rfl (kk_wl ?_))
  refine wl_u rfl (ow_y (yh_cmpS rfl rfl rfl rfl) rfl rfl (kk_wl ?_))
  refine wl_nil ?_
  refine ex_seq ?_
  refine cw_split rfl (fun c1 => ?_) (fun c1 => ?_)
  · skip
    replace h := bt c1 h
    refine cw_seq ?_
    refine cw_region ?_
    refine wl_u rfl (ow_y (yh_assign rfl rfl) rfl rfl (kk_wl ?_))
    refine wl_nil ?_
    refine ex_seq ?_
    refine cw_ret ?_
    refine ex_then_ret ?_
    obtain rfl := Option.some.inj h
    exact ex_r1 Tb rfl (.tmp rfl) (fun wq hq => ⟨_, rfl, hq.ext, rfl⟩)
  · skip
    replace h := bf c1 h
    refine cw_skip ?_
    refine ex_seq ?_
    refine cw_seq ?_
    refine cw_seq ?_
    refine cw_region ?_
    refine wl_u rfl (ow_y (yh_field Tb rfl rfl rfl) rfl rfl (kk_wl ?_))
    refine wl_u rfl (ow_y (yh_loadB Tb (k := 1) rfl rfl rfl rfl rfl) rfl rfl (kk_wl ?_))
    refine wl_u rfl (ow_y (yh_field Tb rfl rfl rfl) rfl rfl (kk_wl ?_))
    refine wl_u rfl (ow_y (yh_loadB Tb (k := 0) rfl rfl rfl rfl rfl) rfl rfl (kk_wl ?_))
    obtain ⟨x14, hx14, h⟩ := bd h
    refine wl_u rfl (ow_cV rfl hb110 rfl (fun w hw => c_laws_eqStringS N _ _ _ hx14 w (Lay.at_ h_a_after hw) (Lay.at_ h_b_after hw)) rfl rfl (kk_wl ?_))
    refine wl_u rfl (ow_y (yh_not rfl rfl) rfl rfl (kk_wl ?_))
    refine wl_nil ?_
    refine ex_seq ?_
    refine cw_split rfl (fun c2 => ?_) (fun c2 => ?_)
    · skip
      replace h := bt c2 h
      refine cw_seq ?_
      refine cw_region ?_
      refine wl_u rfl (ow_y (yh_assign rfl rfl) rfl rfl (kk_wl ?_))
      refine wl_nil ?_
      refine ex_seq ?_
      refine cw_ret ?_
      refine ex_then_ret ?_
      obtain rfl := Option.some.inj h
      exact ex_r1 Tb rfl (.tmp rfl) (fun wq hq => ⟨_, rfl, hq.ext, rfl⟩)
    · skip
      replace h := bf c2 h
      refine cw_skip ?_
      refine ex_seq ?_
      refine cw_seq ?_
      refine cw_seq ?_
      refine cw_region ?_
      refine wl_u rfl (ow_y (yh_field Tb rfl rfl rfl) rfl rfl (kk_wl ?_))
      refine wl_u rfl (ow_y (yh_loadB Tb (k := 1) rfl rfl rfl rfl rfl) rfl rfl (kk_wl ?_))
      refine wl_u rfl (ow_y (yh_field Tb rfl rfl rfl) rfl rfl (kk_wl ?_))
      refine wl_u rfl (ow_y (yh_loadB Tb (k := 0) rfl rfl rfl rfl rfl) rfl rfl (kk_wl ?_))
      refine wl_u rfl (ow_y (yh_cmpB rfl rfl rfl rfl (by kernel_rfl)) rfl rfl (kk_wl ?_))
      refine wl_nil ?_
      refine ex_seq ?_
      refine cw_split rfl (fun c3 => ?_) (fun c3 => ?_)
      · skip
        replace h := bt c3 h
        refine cw_seq ?_
        refine cw_region ?_
        refine wl_u rfl (ow_y (yh_assign rfl rfl) rfl rfl (kk_wl ?_))
        refine wl_nil ?_
        refine ex_seq ?_
        refine cw_ret ?_
        refine ex_then_ret ?_
        obtain rfl := Option.some.inj h
        exact ex_r1 Tb rfl (.tmp rfl) (fun wq hq => ⟨_, rfl, hq.ext, rfl⟩)
      · skip
        replace h := bf c3 h
        refine cw_skip ?_
        refine ex_seq ?_
        refine cw_seq ?_
        refine cw_region ?_
        refine wl_u rfl (ow_y (yh_assign rfl rfl) rfl rfl (kk_wl ?_))
        refine wl_nil ?_
        refine ex_seq ?_
        refine cw_ret ?_
        obtain rfl := Option.some.inj h
        exact ex_r1 Tb rfl (.tmp rfl) (fun wq hq => ⟨_, rfl, hq.ext, rfl⟩)

def m_laws_eqChange (N : Nat) (a : Change) (b : Change) : Option (Bool) := (bif !(eqb a.kind b.kind) then some false
 else (m_laws_eqStep N a.step b.step).bind fun x14 => (bif !x14 then some false
 else some true))

set_option maxHeartbeats 4000000 in
theorem c_laws_eqChange (N : Nat) (a : Change) (b : Change) (res : Bool) (h : m_laws_eqChange N a b = some res) (w : World) {a_a_step_after a_b_step_after : Option Addr} {c_a_step_after c_b_step_after : Nat} (h_a_step_after : strsL.rd w [] [.slice a_a_step_after a.step.after.length c_a_step_after] a.step.after) (h_b_step_after : strsL.rd w [] [.slice a_b_step_after b.step.after.length c_b_step_after] b.step.after) : Ret Try.prog 54 [.agg #[.int .i64 a.kind, .string a.step.name, .slice a_a_step_after a.step.after.length c_a_step_after, .bool a.step.undo], .agg #[.int .i64 b.kind, .string b.step.name, .slice a_b_step_after b.step.after.length c_b_step_after, .bool b.step.undo]] w [] fun v w' => v = .bool res := by
  have mh_a_step_after := rd_max h_a_step_after
  have mh_b_step_after := rd_max h_b_step_after
  unfold m_laws_eqChange at h
  refine ret_enter Try.func54 rfl Try.ntmps54 rfl (Hp.refl w _) ?_
  refine cw_seq ?_
  refine cw_region ?_
  refine wl_u rfl (ow_boxA rfl rfl rfl rfl (fun g2 => kk_wl ?_))
  refine wl_u rfl (ow_boxA rfl rfl rfl rfl (fun g3 => kk_wl ?_))
  refine wl_u rfl (ow_y (yh_assign rfl rfl) rfl rfl (kk_wl ?_))
  refine wl_nil ?_
  refine ex_seq ?_
  refine cw_seq ?_
  refine cw_seq ?_
  refine cw_region ?_
  refine wl_u rfl (ow_y (yh_field Tb rfl rfl rfl) rfl rfl (kk_wl ?_))
  refine wl_u rfl (ow_y (yh_loadB Tb (k := 1) rfl rfl rfl rfl rfl) rfl rfl (kk_wl ?_))
  refine wl_u rfl (ow_y (yh_field Tb rfl rfl rfl) rfl rfl (kk_wl ?_))
  refine wl_u rfl (ow_y (yh_loadB Tb (k := 0) rfl rfl rfl rfl rfl) rfl rfl (kk_wl ?_))
  refine wl_u rfl (ow_y (yh_cmpI rfl rfl rfl rfl) rfl rfl (kk_wl ?_))
  refine wl_nil ?_
  refine ex_seq ?_
  refine cw_split rfl (fun c1 => ?_) (fun c1 => ?_)
  · skip
    replace h := bt c1 h
    have q1 := eqb_false.1 (nt c1)
    refine cw_seq ?_
    refine cw_region ?_
    refine wl_u rfl (ow_y (yh_assign rfl rfl) rfl rfl (kk_wl ?_))
    refine wl_nil ?_
    refine ex_seq ?_
    refine cw_ret ?_
    refine ex_then_ret ?_
    obtain rfl := Option.some.inj h
    exact ex_r1 Tb rfl (.tmp rfl) (fun wq hq => ⟨_, rfl, hq.ext, rfl⟩)
  · skip
    replace h := bf c1 h
    have q2 := eqb_true.1 (nf c1)
    refine cw_skip ?_
    refine ex_seq ?_
    refine cw_seq ?_
    refine cw_seq ?_
    refine cw_region ?_
    refine wl_u rfl (ow_y (yh_field Tb rfl rfl rfl) rfl rfl (kk_wl ?_))
    refine wl_u rfl (ow_y (yh_loadBN Tb (k := 1) rfl rfl rfl rfl rfl rfl rfl) rfl rfl (kk_wl ?_))
    refine wl_u rfl (ow_y (yh_field Tb rfl rfl rfl) rfl rfl (kk_wl ?_))
    refine wl_u rfl (ow_y (yh_loadBN Tb (k := 0) rfl rfl rfl rfl rfl rfl rfl) rfl rfl (kk_wl ?_))
    obtain ⟨x14, hx14, h⟩ := bd h
    refine wl_u rfl (ow_cV rfl hb89 rfl (fun w hw => c_laws_eqStep N _ _ _ hx14 w (Lay.at_ h_a_step_after hw) (Lay.at_ h_b_step_after hw)) rfl rfl (kk_wl ?_))
    refine wl_u rfl (ow_y (yh_not rfl rfl) rfl rfl (kk_wl ?_))
    refine wl_nil ?_
    refine ex_seq ?_
    refine cw_split rfl (fun c2 => ?_) (fun c2 => ?_)
    · skip
      replace h := bt c2 h
      refine cw_seq ?_
      refine cw_region ?_
      refine wl_u rfl (ow_y (yh_assign rfl rfl) rfl rfl (kk_wl ?_))
      refine wl_nil ?_
      refine ex_seq ?_
      refine cw_ret ?_
      refine ex_then_ret ?_
      obtain rfl := Option.some.inj h
      exact ex_r1 Tb rfl (.tmp rfl) (fun wq hq => ⟨_, rfl, hq.ext, rfl⟩)
    · skip
      replace h := bf c2 h
      refine cw_skip ?_
      refine ex_seq ?_
      refine cw_seq ?_
      refine cw_region ?_
      refine wl_u rfl (ow_y (yh_assign rfl rfl) rfl rfl (kk_wl ?_))
      refine wl_nil ?_
      refine ex_seq ?_
      refine cw_ret ?_
      obtain rfl := Option.some.inj h
      exact ex_r1 Tb rfl (.tmp rfl) (fun wq hq => ⟨_, rfl, hq.ext, rfl⟩)

def m_laws_eqChangeS_L8 (N : Nat) (a : List Change) (b : List Change) : Nat → Nat → Option (Ex (Nat) (Bool))
  | 0, _ => none
  | n + 1, s5 => (bif ltb ((s5 : Nat) : Int) ((a.length : Nat) : Int) then (a[s5]?).bind fun y19 => (b[s5]?).bind fun y23 => (m_laws_eqChange N y19 y23).bind fun x25 => (bif !x25 then some (Ex.ret false)
 else m_laws_eqChangeS_L8 N a b n (s5 + 1))
 else some (Ex.brk (s5)))

def m_laws_eqChangeS (N : Nat) (a : List Change) (b : List Change) : Option (Bool) := (bif !(eqb ((a.length : Nat) : Int) ((b.length : Nat) : Int)) then some false
 else (m_laws_eqChangeS_L8 N a b N 0).bind fun e8 => e8.go (fun r => r) fun b8 => some true)

set_option maxHeartbeats 4000000 in
theorem c_laws_eqChangeS (N : Nat) (a : List Change) (b : List Change) (res : Bool) (h : m_laws_eqChangeS N a b = some res) (w : World) {a_a a_b : Option Addr} {c_a c_b : Nat} (h_a : changesL.rd w [] [.slice a_a a.length c_a] a) (h_b : changesL.rd w [] [.slice a_b b.length c_b] b) : Ret Try.prog 18 [.slice a_a a.length c_a, .slice a_b b.length c_b] w [] fun v w' => v = .bool res := by
  have mh_a := rd_max h_a
  have mh_b := rd_max h_b
  unfold m_laws_eqChangeS at h
  refine ret_enter Try.func18 rfl Try.ntmps18 rfl (Hp.refl w _) ?_
  refine cw_seq ?_
  refine cw_region ?_
  refine wl_u rfl (ow_y (yh_assign rfl rfl) rfl rfl (kk_wl ?_))
  refine wl_nil ?_
  refine ex_seq ?_
  refine cw_seq ?_
  refine cw_seq ?_
  refine cw_region ?_
  refine wl_u rfl (ow_y (yh_move rfl rfl) rfl rfl (kk_wl ?_))
  refine wl_u rfl (ow_y (yh_lenS Tb rfl rfl rfl rfl) rfl rfl (kk_wl ?_))
  refine wl_u rfl (ow_y (yh_move rfl rfl) rfl rfl (kk_wl ?_))
  refine wl_u rfl (ow_y (yh_lenS Tb rfl rfl rfl rfl) rfl rfl (kk_wl ?_))
  refine wl_u rfl (ow_y (yh_cmpI rfl rfl rfl rfl) rfl rfl (kk_wl ?_))
  refine wl_nil ?_
  refine ex_seq ?_
  refine cw_split rfl (fun c1 => ?_) (fun c1 => ?_)
  · skip
    replace h := bt c1 h
    have q1 := eqb_false.1 (nt c1)
    refine cw_seq ?_
    refine cw_region ?_
    refine wl_u rfl (ow_y (yh_assign rfl rfl) rfl rfl (kk_wl ?_))
    refine wl_nil ?_
    refine ex_seq ?_
    refine cw_ret ?_
    refine ex_then_ret ?_
    obtain rfl := Option.some.inj h
    exact ex_r1 Tb rfl (.tmp rfl) (fun wq hq => ⟨_, rfl, hq.ext, rfl⟩)
  · skip
    replace h := bf c1 h
    have q2 := eqb_true.1 (nf c1)
    refine cw_skip ?_
    refine ex_seq ?_
    refine cw_seq ?_
    refine cw_seq ?_
    refine cw_region ?_
    refine wl_u rfl (ow_y (yh_assign rfl rfl) rfl rfl (kk_wl ?_))
    refine wl_nil ?_
    refine ex_seq ?_
    refine cw_block ?_
    obtain ⟨e8, he8, hk8⟩ := bd h
    clear h
    refine cw_loopG (σ := Nat × Nat) (fun s => m_laws_eqChangeS_L8 N a b s.1 s.2 = some e8) (fun s => [(0, .slice a_a a.length c_a), (1, .slice a_b b.length c_b), (5, .int .i64 ((s.2 : Nat) : Int))]) (fun s => []) (fun s => s.1) (N, 0) [] he8 ⟨rfl, rfl, rfl, trivial⟩ rfl (fun KL s he8 hn8 => ?_)
    obtain ⟨n8, s5⟩ := s
    simp only at he8 hn8 ⊢
    rcases n8 with _ | n8
    · exact nosome he8
    have h := he8; rw [m_laws_eqChangeS_L8] at h
    refine cw_seq ?_
    refine cw_seq ?_
    refine cw_region ?_
    refine wl_u rfl (ow_y (yh_move rfl rfl) rfl rfl (kk_wl ?_))
    refine wl_u rfl (ow_y (yh_move rfl rfl) rfl rfl (kk_wl ?_))
    refine wl_u rfl (ow_y (yh_lenS Tb rfl rfl rfl rfl) rfl rfl (kk_wl ?_))
    refine wl_u rfl (ow_y (yh_cmpI rfl rfl rfl rfl) rfl rfl (kk_wl ?_))
    refine wl_nil ?_
    refine ex_seq ?_
    refine cw_split rfl (fun c2 => ?_) (fun c2 => ?_)
    · skip
      replace h := bt c2 h
      have q3 := ltb_true.1 c2
      refine cw_skip ?_
      refine ex_seq ?_
      refine cw_seq ?_
      refine cw_block ?_
      refine cw_seq ?_
      refine cw_dr [0, 1, 2, 3, 4, 5, 6, 7, 9] [] [] (by kernel_rfl) ?_
      refine wd_take (i := 0) [] rfl rfl rfl rfl rfl (by kernel_rfl) (by kernel_rfl) (fun _ _ _ _ h => h) (yh_move rfl rfl) ?_
      refine wd_take (i := 1) [] rfl rfl rfl rfl rfl (by kernel_rfl) (by kernel_rfl) (fun _ _ _ _ h => h) (yh_move rfl rfl) ?_
      obtain ⟨y19, hy19, h⟩ := bd h
      obtain ⟨b19, o19, ha19⟩ := sl_addr h_a hy19
      subst ha19
      obtain ⟨a19, e19, hc19, hf19⟩ := get_change h_a hy19
      have mx19 := rd_max hf19
      refine wd_take (i := 2) [] rfl rfl rfl rfl rfl (by kernel_rfl) (by kernel_rfl) (fun _ _ _ _ h => h) (yh_idx Tb (k := s5) rfl rfl rfl rfl (get_lt hy19) rfl rfl) ?_
      refine wd_take (i := 3) [] rfl rfl rfl rfl rfl (by kernel_rfl) (by kernel_rfl) (fun _ _ _ _ h => h) (yh_loadAN Tb rfl rfl rfl rfl hc19 rfl) ?_
      refine wd_take (i := 4) [] rfl rfl rfl rfl rfl (by kernel_rfl) (by kernel_rfl) (fun _ _ _ _ h => h) (yh_move rfl rfl) ?_
      refine wd_take (i := 5) [] rfl rfl rfl rfl rfl (by kernel_rfl) (by kernel_rfl) (fun _ _ _ _ h => h) (yh_move rfl rfl) ?_
      obtain ⟨y23, hy23, h⟩ := bd h
      obtain ⟨b23, o23, ha23⟩ := sl_addr h_b hy23
      subst ha23
      obtain ⟨a23, e23, hc23, hf23⟩ := get_change h_b hy23
      have mx23 := rd_max hf23
      refine wd_take (i := 6) [] rfl rfl rfl rfl rfl (by kernel_rfl) (by kernel_rfl) (fun _ _ _ _ h => h) (yh_idx Tb (k := s5) rfl rfl rfl rfl (get_lt hy23) rfl rfl) ?_
      refine wd_take (i := 7) [] rfl rfl rfl rfl rfl (by kernel_rfl) (by kernel_rfl) (fun _ _ _ _ h => h) (yh_loadAN Tb rfl rfl rfl rfl hc23 rfl) ?_
      obtain ⟨x25, hx25, h⟩ := bd h
      refine wd_one 8 rfl rfl (by kernel_rfl) (ow_cV rfl hb54 rfl (fun w hw => c_laws_eqChange N _ _ _ hx25 w (Lay.at_ hf19 hw) (Lay.at_ hf23 hw)) rfl rfl (kk_wd [] (by kernel_rfl) ?_))
      refine wd_take (i := 9) [] rfl rfl rfl rfl rfl (by kernel_rfl) (by kernel_rfl) (fun _ _ _ _ h => h) (yh_not rfl rfl) ?_
      refine wd_done (by kernel_rfl) ?_
      refine ex_seq ?_
      refine cw_split rfl (fun c3 => ?_) (fun c3 => ?_)
      · skip
        replace h := bt c3 h
        refine cw_seq ?_
        refine cw_region ?_
        refine wl_u rfl (ow_y (yh_assign rfl rfl) rfl rfl (kk_wl ?_))
        refine wl_nil ?_
        refine ex_seq ?_
        refine cw_ret ?_
        refine ex_block_ret ?_
        refine ex_then_ret ?_
        refine ex_then_ret ?_
        refine ex_block_ret ?_
        refine ex_then_ret ?_
        obtain rfl := Option.some.inj h
        obtain rfl := go_ret hk8
        exact ex_r1 Tb rfl (.tmp rfl) (fun wq hq => ⟨_, rfl, hq.ext, rfl⟩)
      · skip
        replace h := bf c3 h
        refine cw_skip ?_
        refine ex_block_normal ?_
        refine ex_seq ?_
        refine cw_region ?_
        refine wl_u rfl (ow_y (yh_move rfl rfl) rfl rfl (kk_wl ?_))
        refine wl_u rfl (ow_y (yh_arI rfl rfl rfl rfl (by omega)) rfl rfl (kk_wl ?_))
        refine wl_u rfl (ow_y (yh_assign rfl rfl) rfl rfl (kk_wl ?_))
        refine wl_nil ?_
        exact ex_next [] (hn8 (n8, s5 + 1) (Nat.lt_succ_self _) h) ⟨rfl, rfl, rfl, trivial⟩ (by kernel_rfl)
    · skip
      replace h := bf c2 h
      have q4 := ltb_false.1 c2
      refine cw_exit ?_
      refine ex_then_exit ?_
      refine ex_then_exit ?_
      obtain rfl := Option.some.inj h
      have h := go_brk hk8
      refine ex_block_exit ?_
      refine ex_seq ?_
      refine cw_seq ?_
      refine cw_region ?_
      refine wl_u rfl (ow_y (yh_assign rfl rfl) rfl rfl (kk_wl ?_))
      refine wl_nil ?_
      refine ex_seq ?_
      refine cw_ret ?_
      obtain rfl := Option.some.inj h
      exact ex_r1 Tb rfl (.tmp rfl) (fun wq hq => ⟨_, rfl, hq.ext, rfl⟩)

def m_laws_eqStepS_L8 (N : Nat) (a : List Step) (b : List Step) : Nat → Nat → Option (Ex (Nat) (Bool))
  | 0, _ => none
  | n + 1, s5 => (bif ltb ((s5 : Nat) : Int) ((a.length : Nat) : Int) then (a[s5]?).bind fun y19 => (b[s5]?).bind fun y23 => (m_laws_eqStep N y19 y23).bind fun x25 => (bif !x25 then some (Ex.ret false)
 else m_laws_eqStepS_L8 N a b n (s5 + 1))
 else some (Ex.brk (s5)))

def m_laws_eqStepS (N : Nat) (a : List Step) (b : List Step) : Option (Bool) := (bif !(eqb ((a.length : Nat) : Int) ((b.length : Nat) : Int)) then some false
 else (m_laws_eqStepS_L8 N a b N 0).bind fun e8 => e8.go (fun r => r) fun b8 => some true)

set_option maxHeartbeats 4000000 in
theorem c_laws_eqStepS (N : Nat) (a : List Step) (b : List Step) (res : Bool) (h : m_laws_eqStepS N a b = some res) (w : World) {a_a a_b : Option Addr} {c_a c_b : Nat} (h_a : stepsL.rd w [] [.slice a_a a.length c_a] a) (h_b : stepsL.rd w [] [.slice a_b b.length c_b] b) : Ret Try.prog 55 [.slice a_a a.length c_a, .slice a_b b.length c_b] w [] fun v w' => v = .bool res := by
  have mh_a := rd_max h_a
  have mh_b := rd_max h_b
  unfold m_laws_eqStepS at h
  refine ret_enter Try.func55 rfl Try.ntmps55 rfl (Hp.refl w _) ?_
  refine cw_seq ?_
  refine cw_region ?_
  refine wl_u rfl (ow_y (yh_assign rfl rfl) rfl rfl (kk_wl ?_))
  refine wl_nil ?_
  refine ex_seq ?_
  refine cw_seq ?_
  refine cw_seq ?_
  refine cw_region ?_
  refine wl_u rfl (ow_y (yh_move rfl rfl) rfl rfl (kk_wl ?_))
  refine wl_u rfl (ow_y (yh_lenS Tb rfl rfl rfl rfl) rfl rfl (kk_wl ?_))
  refine wl_u rfl (ow_y (yh_move rfl rfl) rfl rfl (kk_wl ?_))
  refine wl_u rfl (ow_y (yh_lenS Tb rfl rfl rfl rfl) rfl rfl (kk_wl ?_))
  refine wl_u rfl (ow_y (yh_cmpI rfl rfl rfl rfl) rfl rfl (kk_wl ?_))
  refine wl_nil ?_
  refine ex_seq ?_
  refine cw_split rfl (fun c1 => ?_) (fun c1 => ?_)
  · skip
    replace h := bt c1 h
    have q1 := eqb_false.1 (nt c1)
    refine cw_seq ?_
    refine cw_region ?_
    refine wl_u rfl (ow_y (yh_assign rfl rfl) rfl rfl (kk_wl ?_))
    refine wl_nil ?_
    refine ex_seq ?_
    refine cw_ret ?_
    refine ex_then_ret ?_
    obtain rfl := Option.some.inj h
    exact ex_r1 Tb rfl (.tmp rfl) (fun wq hq => ⟨_, rfl, hq.ext, rfl⟩)
  · skip
    replace h := bf c1 h
    have q2 := eqb_true.1 (nf c1)
    refine cw_skip ?_
    refine ex_seq ?_
    refine cw_seq ?_
    refine cw_seq ?_
    refine cw_region ?_
    refine wl_u rfl (ow_y (yh_assign rfl rfl) rfl rfl (kk_wl ?_))
    refine wl_nil ?_
    refine ex_seq ?_
    refine cw_block ?_
    obtain ⟨e8, he8, hk8⟩ := bd h
    clear h
    refine cw_loopG (σ := Nat × Nat) (fun s => m_laws_eqStepS_L8 N a b s.1 s.2 = some e8) (fun s => [(0, .slice a_a a.length c_a), (1, .slice a_b b.length c_b), (5, .int .i64 ((s.2 : Nat) : Int))]) (fun s => []) (fun s => s.1) (N, 0) [] he8 ⟨rfl, rfl, rfl, trivial⟩ rfl (fun KL s he8 hn8 => ?_)
    obtain ⟨n8, s5⟩ := s
    simp only at he8 hn8 ⊢
    rcases n8 with _ | n8
    · exact nosome he8
    have h := he8; rw [m_laws_eqStepS_L8] at h
    refine cw_seq ?_
    refine cw_seq ?_
    refine cw_region ?_
    refine wl_u rfl (ow_y (yh_move rfl rfl) rfl rfl (kk_wl ?_))
    refine wl_u rfl (ow_y (yh_move rfl rfl) rfl rfl (kk_wl ?_))
    refine wl_u rfl (ow_y (yh_lenS Tb rfl rfl rfl rfl) rfl rfl (kk_wl ?_))
    refine wl_u rfl (ow_y (yh_cmpI rfl rfl rfl rfl) rfl rfl (kk_wl ?_))
    refine wl_nil ?_
    refine ex_seq ?_
    refine cw_split rfl (fun c2 => ?_) (fun c2 => ?_)
    · skip
      replace h := bt c2 h
      have q3 := ltb_true.1 c2
      refine cw_skip ?_
      refine ex_seq ?_
      refine cw_seq ?_
      refine cw_block ?_
      refine cw_seq ?_
      refine cw_dr [0, 1, 2, 3, 4, 5, 6, 7, 9] [] [] (by kernel_rfl) ?_
      refine wd_take (i := 0) [] rfl rfl rfl rfl rfl (by kernel_rfl) (by kernel_rfl) (fun _ _ _ _ h => h) (yh_move rfl rfl) ?_
      refine wd_take (i := 1) [] rfl rfl rfl rfl rfl (by kernel_rfl) (by kernel_rfl) (fun _ _ _ _ h => h) (yh_move rfl rfl) ?_
      obtain ⟨y19, hy19, h⟩ := bd h
      obtain ⟨b19, o19, ha19⟩ := sl_addr h_a hy19
      subst ha19
      obtain ⟨a19, e19, hc19, hf19⟩ := get_step h_a hy19
      have mx19 := rd_max hf19
      refine wd_take (i := 2) [] rfl rfl rfl rfl rfl (by kernel_rfl) (by kernel_rfl) (fun _ _ _ _ h => h) (yh_idx Tb (k := s5) rfl rfl rfl rfl (get_lt hy19) rfl rfl) ?_
      refine wd_take (i := 3) [] rfl rfl rfl rfl rfl (by kernel_rfl) (by kernel_rfl) (fun _ _ _ _ h => h) (yh_loadAN Tb rfl rfl rfl rfl hc19 rfl) ?_
      refine wd_take (i := 4) [] rfl rfl rfl rfl rfl (by kernel_rfl) (by kernel_rfl) (fun _ _ _ _ h => h) (yh_move rfl rfl) ?_
      refine wd_take (i := 5) [] rfl rfl rfl rfl rfl (by kernel_rfl) (by kernel_rfl) (fun _ _ _ _ h => h) (yh_move rfl rfl) ?_
      obtain ⟨y23, hy23, h⟩ := bd h
      obtain ⟨b23, o23, ha23⟩ := sl_addr h_b hy23
      subst ha23
      obtain ⟨a23, e23, hc23, hf23⟩ := get_step h_b hy23
      have mx23 := rd_max hf23
      refine wd_take (i := 6) [] rfl rfl rfl rfl rfl (by kernel_rfl) (by kernel_rfl) (fun _ _ _ _ h => h) (yh_idx Tb (k := s5) rfl rfl rfl rfl (get_lt hy23) rfl rfl) ?_
      refine wd_take (i := 7) [] rfl rfl rfl rfl rfl (by kernel_rfl) (by kernel_rfl) (fun _ _ _ _ h => h) (yh_loadAN Tb rfl rfl rfl rfl hc23 rfl) ?_
      obtain ⟨x25, hx25, h⟩ := bd h
      refine wd_one 8 rfl rfl (by kernel_rfl) (ow_cV rfl hb89 rfl (fun w hw => c_laws_eqStep N _ _ _ hx25 w (Lay.at_ hf19 hw) (Lay.at_ hf23 hw)) rfl rfl (kk_wd [] (by kernel_rfl) ?_))
      refine wd_take (i := 9) [] rfl rfl rfl rfl rfl (by kernel_rfl) (by kernel_rfl) (fun _ _ _ _ h => h) (yh_not rfl rfl) ?_
      refine wd_done (by kernel_rfl) ?_
      refine ex_seq ?_
      refine cw_split rfl (fun c3 => ?_) (fun c3 => ?_)
      · skip
        replace h := bt c3 h
        refine cw_seq ?_
        refine cw_region ?_
        refine wl_u rfl (ow_y (yh_assign rfl rfl) rfl rfl (kk_wl ?_))
        refine wl_nil ?_
        refine ex_seq ?_
        refine cw_ret ?_
        refine ex_block_ret ?_
        refine ex_then_ret ?_
        refine ex_then_ret ?_
        refine ex_block_ret ?_
        refine ex_then_ret ?_
        obtain rfl := Option.some.inj h
        obtain rfl := go_ret hk8
        exact ex_r1 Tb rfl (.tmp rfl) (fun wq hq => ⟨_, rfl, hq.ext, rfl⟩)
      · skip
        replace h := bf c3 h
        refine cw_skip ?_
        refine ex_block_normal ?_
        refine ex_seq ?_
        refine cw_region ?_
        refine wl_u rfl (ow_y (yh_move rfl rfl) rfl rfl (kk_wl ?_))
        refine wl_u rfl (ow_y (yh_arI rfl rfl rfl rfl (by omega)) rfl rfl (kk_wl ?_))
        refine wl_u rfl (ow_y (yh_assign rfl rfl) rfl rfl (kk_wl ?_))
        refine wl_nil ?_
        exact ex_next [] (hn8 (n8, s5 + 1) (Nat.lt_succ_self _) h) ⟨rfl, rfl, rfl, trivial⟩ (by kernel_rfl)
    · skip
      replace h := bf c2 h
      have q4 := ltb_false.1 c2
      refine cw_exit ?_
      refine ex_then_exit ?_
      refine ex_then_exit ?_
      obtain rfl := Option.some.inj h
      have h := go_brk hk8
      refine ex_block_exit ?_
      refine ex_seq ?_
      refine cw_seq ?_
      refine cw_region ?_
      refine wl_u rfl (ow_y (yh_assign rfl rfl) rfl rfl (kk_wl ?_))
      refine wl_nil ?_
      refine ex_seq ?_
      refine cw_ret ?_
      obtain rfl := Option.some.inj h
      exact ex_r1 Tb rfl (.tmp rfl) (fun wq hq => ⟨_, rfl, hq.ext, rfl⟩)

def m_laws_eqFlow (N : Nat) (a : Flow) (b : Flow) : Option (Bool) := (bif !(eqb a.ver b.ver) then some false
 else (m_laws_eqStepS N a.steps b.steps).bind fun x14 => (bif !x14 then some false
 else some true))

set_option maxHeartbeats 4000000 in
theorem c_laws_eqFlow (N : Nat) (a : Flow) (b : Flow) (res : Bool) (h : m_laws_eqFlow N a b = some res) (w : World) {a_a_steps a_b_steps : Option Addr} {c_a_steps c_b_steps : Nat} (h_a_steps : stepsL.rd w [] [.slice a_a_steps a.steps.length c_a_steps] a.steps) (h_b_steps : stepsL.rd w [] [.slice a_b_steps b.steps.length c_b_steps] b.steps) : Ret Try.prog 19 [.agg #[.int .i64 a.ver, .slice a_a_steps a.steps.length c_a_steps], .agg #[.int .i64 b.ver, .slice a_b_steps b.steps.length c_b_steps]] w [] fun v w' => v = .bool res := by
  have mh_a_steps := rd_max h_a_steps
  have mh_b_steps := rd_max h_b_steps
  unfold m_laws_eqFlow at h
  refine ret_enter Try.func19 rfl Try.ntmps19 rfl (Hp.refl w _) ?_
  refine cw_seq ?_
  refine cw_region ?_
  refine wl_u rfl (ow_boxA rfl rfl rfl rfl (fun g2 => kk_wl ?_))
  refine wl_u rfl (ow_boxA rfl rfl rfl rfl (fun g3 => kk_wl ?_))
  refine wl_u rfl (ow_y (yh_assign rfl rfl) rfl rfl (kk_wl ?_))
  refine wl_nil ?_
  refine ex_seq ?_
  refine cw_seq ?_
  refine cw_seq ?_
  refine cw_region ?_
  refine wl_u rfl (ow_y (yh_field Tb rfl rfl rfl) rfl rfl (kk_wl ?_))
  refine wl_u rfl (ow_y (yh_loadB Tb (k := 1) rfl rfl rfl rfl rfl) rfl rfl (kk_wl ?_))
  refine wl_u rfl (ow_y (yh_field Tb rfl rfl rfl) rfl rfl (kk_wl ?_))
  refine wl_u rfl (ow_y (yh_loadB Tb (k := 0) rfl rfl rfl rfl rfl) rfl rfl (kk_wl ?_))
  refine wl_u rfl (ow_y (yh_cmpI rfl rfl rfl rfl) rfl rfl (kk_wl ?_))
  refine wl_nil ?_
  refine ex_seq ?_
  refine cw_split rfl (fun c1 => ?_) (fun c1 => ?_)
  · skip
    replace h := bt c1 h
    have q1 := eqb_false.1 (nt c1)
    refine cw_seq ?_
    refine cw_region ?_
    refine wl_u rfl (ow_y (yh_assign rfl rfl) rfl rfl (kk_wl ?_))
    refine wl_nil ?_
    refine ex_seq ?_
    refine cw_ret ?_
    refine ex_then_ret ?_
    obtain rfl := Option.some.inj h
    exact ex_r1 Tb rfl (.tmp rfl) (fun wq hq => ⟨_, rfl, hq.ext, rfl⟩)
  · skip
    replace h := bf c1 h
    have q2 := eqb_true.1 (nf c1)
    refine cw_skip ?_
    refine ex_seq ?_
    refine cw_seq ?_
    refine cw_seq ?_
    refine cw_region ?_
    refine wl_u rfl (ow_y (yh_field Tb rfl rfl rfl) rfl rfl (kk_wl ?_))
    refine wl_u rfl (ow_y (yh_loadB Tb (k := 1) rfl rfl rfl rfl rfl) rfl rfl (kk_wl ?_))
    refine wl_u rfl (ow_y (yh_field Tb rfl rfl rfl) rfl rfl (kk_wl ?_))
    refine wl_u rfl (ow_y (yh_loadB Tb (k := 0) rfl rfl rfl rfl rfl) rfl rfl (kk_wl ?_))
    obtain ⟨x14, hx14, h⟩ := bd h
    refine wl_u rfl (ow_cV rfl hb55 rfl (fun w hw => c_laws_eqStepS N _ _ _ hx14 w (Lay.at_ h_a_steps hw) (Lay.at_ h_b_steps hw)) rfl rfl (kk_wl ?_))
    refine wl_u rfl (ow_y (yh_not rfl rfl) rfl rfl (kk_wl ?_))
    refine wl_nil ?_
    refine ex_seq ?_
    refine cw_split rfl (fun c2 => ?_) (fun c2 => ?_)
    · skip
      replace h := bt c2 h
      refine cw_seq ?_
      refine cw_region ?_
      refine wl_u rfl (ow_y (yh_assign rfl rfl) rfl rfl (kk_wl ?_))
      refine wl_nil ?_
      refine ex_seq ?_
      refine cw_ret ?_
      refine ex_then_ret ?_
      obtain rfl := Option.some.inj h
      exact ex_r1 Tb rfl (.tmp rfl) (fun wq hq => ⟨_, rfl, hq.ext, rfl⟩)
    · skip
      replace h := bf c2 h
      refine cw_skip ?_
      refine ex_seq ?_
      refine cw_seq ?_
      refine cw_region ?_
      refine wl_u rfl (ow_y (yh_assign rfl rfl) rfl rfl (kk_wl ?_))
      refine wl_nil ?_
      refine ex_seq ?_
      refine cw_ret ?_
      obtain rfl := Option.some.inj h
      exact ex_r1 Tb rfl (.tmp rfl) (fun wq hq => ⟨_, rfl, hq.ext, rfl⟩)

def m_laws_markText_L7 (N : Nat) : Nat → Int → Str → Option (Ex (Int × Str) (Str))
  | 0, _, _ => none
  | n + 1, s0, s3 => (bif ltb 0 s0 then (cat (bstr [u8w (w64 (48 + (Int.tmod s0 10)))]) s3).bind fun t15_ => m_laws_markText_L7 N n (w64 (Int.tdiv s0 10)) t15_
 else some (Ex.brk (s0, s3)))

def m_laws_markText (N : Nat) (k : Int) : Option (Str) := (bif leb k 0 then some (⟨#[109, 48]⟩ : Str)
 else (m_laws_markText_L7 N N k (⟨#[]⟩ : Str)).bind fun e7 => e7.go (fun r => r) fun b7 => (cat (⟨#[109]⟩ : Str) b7.2).bind fun t19_ => some t19_)

set_option maxHeartbeats 4000000 in
theorem c_laws_markText (N : Nat) (k : Int) (res : Str) (h : m_laws_markText N k = some res) (w : World) : Ret Try.prog 57 [.int .i64 k] w [] fun v w' => v = .string res := by
  unfold m_laws_markText at h
  refine ret_enter Try.func57 rfl Try.ntmps57 rfl (Hp.refl w _) ?_
  refine cw_seq ?_
  refine cw_region ?_
  refine wl_u rfl (ow_y (yh_assign rfl rfl) rfl rfl (kk_wl ?_))
  refine wl_nil ?_
  refine ex_seq ?_
  refine cw_seq ?_
  refine cw_seq ?_
  refine cw_region ?_
  refine wl_u rfl (ow_y (yh_move rfl rfl) rfl rfl (kk_wl ?_))
  refine wl_u rfl (ow_y (yh_cmpI rfl rfl rfl rfl) rfl rfl (kk_wl ?_))
  refine wl_nil ?_
  refine ex_seq ?_
  refine cw_split rfl (fun c1 => ?_) (fun c1 => ?_)
  · skip
    replace h := bt c1 h
    have q1 := leb_true.1 c1
    refine cw_seq ?_
    refine cw_region ?_
    refine wl_u rfl (ow_y (yh_assign rfl rfl) rfl rfl (kk_wl ?_))
    refine wl_nil ?_
    refine ex_seq ?_
    refine cw_ret ?_
    refine ex_then_ret ?_
    obtain rfl := Option.some.inj h
    exact ex_r1 Tb rfl (.tmp rfl) (fun wq hq => ⟨_, rfl, hq.ext, rfl⟩)
  · skip
    replace h := bf c1 h
    have q2 := leb_false.1 c1
    refine cw_skip ?_
    refine ex_seq ?_
    refine cw_seq ?_
    refine cw_region ?_
    refine wl_u rfl (ow_y (yh_assign rfl rfl) rfl rfl (kk_wl ?_))
    refine wl_nil ?_
    refine ex_seq ?_
    refine cw_seq ?_
    refine cw_block ?_
    obtain ⟨e7, he7, hk7⟩ := bd h
    clear h
    refine cw_loopG (σ := Nat × Int × Str) (fun s => m_laws_markText_L7 N s.1 s.2.1 s.2.2 = some e7) (fun s => [(0, .int .i64 s.2.1), (3, .string s.2.2)]) (fun s => []) (fun s => s.1) (N, k, (⟨#[]⟩ : Str)) [] he7 ⟨rfl, rfl, trivial⟩ rfl (fun KL s he7 hn7 => ?_)
    obtain ⟨n7, s0, s3⟩ := s
    simp only at he7 hn7 ⊢
    rcases n7 with _ | n7
    · exact nosome he7
    have h := he7; rw [m_laws_markText_L7] at h
    refine cw_seq ?_
    refine cw_seq ?_
    refine cw_region ?_
    refine wl_u rfl (ow_y (yh_move rfl rfl) rfl rfl (kk_wl ?_))
    refine wl_u rfl (ow_y (yh_cmpI rfl rfl rfl rfl) rfl rfl (kk_wl ?_))
    refine wl_nil ?_
    refine ex_seq ?_
    refine cw_split rfl (fun c2 => ?_) (fun c2 => ?_)
    · skip
      replace h := bt c2 h
      have q3 := ltb_true.1 c2
      refine cw_skip ?_
      refine ex_seq ?_
      refine cw_block ?_
      refine cw_seq ?_
      refine cw_region ?_
      refine wl_u rfl (ow_y (yh_move rfl rfl) rfl rfl (kk_wl ?_))
      refine wl_u rfl (ow_y (yh_remT rfl rfl rfl (by decide)) rfl rfl (kk_wl ?_))
      refine wl_u rfl (ow_y (yh_arW rfl rfl rfl rfl) rfl rfl (kk_wl ?_))
      refine wl_u rfl (ow_y (yh_convU rfl rfl (by kernel_rfl)) rfl rfl (kk_wl ?_))
      refine wl_u rfl (ow_lit1 Tb rfl rfl rfl rfl rfl rfl rfl rfl rfl rfl (fun g12 => kk_wl ?_))
      refine wl_u rfl (ow_y (yh_bstr (ns := [u8w (w64 (48 + (Int.tmod s0 10)))]) (k := 0) rfl rfl rfl rfl (by kernel_rfl)) rfl rfl (kk_wl ?_))
      refine wl_u rfl (ow_y (yh_move rfl rfl) rfl rfl (kk_wl ?_))
      obtain ⟨t15_, zt15_, h⟩ := bd h
      refine wl_u rfl (ow_y (yh_addS zt15_ rfl rfl rfl) rfl rfl (kk_wl ?_))
      refine wl_u rfl (ow_y (yh_assign rfl rfl) rfl rfl (kk_wl ?_))
      refine wl_nil ?_
      refine ex_seq ?_
      refine cw_region ?_
      refine wl_u rfl (ow_y (yh_move rfl rfl) rfl rfl (kk_wl ?_))
      refine wl_u rfl (ow_y (yh_quoT rfl rfl rfl (by decide)) rfl rfl (kk_wl ?_))
      refine wl_u rfl (ow_y (yh_assign rfl rfl) rfl rfl (kk_wl ?_))
      refine wl_nil ?_
      refine ex_block_normal ?_
      exact ex_next [] (hn7 (n7, w64 (Int.tdiv s0 10), t15_) (Nat.lt_succ_self _) h) ⟨rfl, rfl, trivial⟩ (by kernel_rfl)
    · skip
      replace h := bf c2 h
      have q4 := ltb_false.1 c2
      refine cw_exit ?_
      refine ex_then_exit ?_
      refine ex_then_exit ?_
      obtain rfl := Option.some.inj h
      have h := go_brk hk7
      refine ex_block_exit ?_
      refine ex_seq ?_
      refine cw_seq ?_
      refine cw_region ?_
      refine wl_u rfl (ow_y (yh_move rfl rfl) rfl rfl (kk_wl ?_))
      obtain ⟨t19_, zt19_, h⟩ := bd h
      refine wl_u rfl (ow_y (yh_addS zt19_ rfl rfl rfl) rfl rfl (kk_wl ?_))
      refine wl_u rfl (ow_y (yh_assign rfl rfl) rfl rfl (kk_wl ?_))
      refine wl_nil ?_
      refine ex_seq ?_
      refine cw_ret ?_
      obtain rfl := Option.some.inj h
      exact ex_r1 Tb rfl (.tmp rfl) (fun wq hq => ⟨_, rfl, hq.ext, rfl⟩)

def m_laws_markStringS_L4 (N : Nat) (a : List Str) : Nat → (List Str) → Int → Nat → Option (Ex (List Str × Int × Nat) ((Int) × (List Str)))
  | 0, _, _, _ => none
  | n + 1, s0, s1, s5 => (bif ltb ((s5 : Nat) : Int) ((a.length : Nat) : Int) then (m_laws_markText N s1).bind fun x15 => (s0[s5]?).bind fun y16 => m_laws_markStringS_L4 N a n (s0.set s5 x15) (w64 (s1 + 1)) (s5 + 1)
 else some (Ex.brk (s0, s1, s5)))

def m_laws_markStringS (N : Nat) (a : List Str) (k : Int) : Option ((Int) × (List Str)) := (m_laws_markStringS_L4 N a N a k 0).bind fun e4 => e4.go (fun r => r) fun b4 => some (b4.2.1, b4.1)

set_option maxHeartbeats 4000000 in
theorem c_laws_markStringS (N : Nat) (a : List Str) (k : Int) (res : (Int) × (List Str)) (h : m_laws_markStringS N a k = some res) (w : World) {a_a : Option Addr} {c_a : Nat} {F_a : List Nat} (hr : (owC strsL F_a [.slice a_a a.length c_a] a).A w) (hnd : F_a.Nodup) : Ret Try.prog 58 [.slice a_a a.length c_a, .int .i64 k] w F_a fun v w' => ∃ F0, v = .int .i64 res.1 ∧ NewM w w' F_a [owC strsL F0 [.slice a_a a.length c_a] res.2] := by
  unfold m_laws_markStringS at h
  refine ret_enter Try.func58 rfl Try.ntmps58 rfl (hp_one hr hnd) ?_
  refine cw_seq ?_
  refine cw_region ?_
  refine wl_u rfl (ow_y (yh_assign rfl rfl) rfl rfl (kk_wl ?_))
  refine wl_nil ?_
  refine ex_seq ?_
  refine cw_seq ?_
  refine cw_seq ?_
  refine cw_region ?_
  refine wl_u rfl (ow_y (yh_assign rfl rfl) rfl rfl (kk_wl ?_))
  refine wl_nil ?_
  refine ex_seq ?_
  refine cw_block ?_
  obtain ⟨e4, he4, hk4⟩ := bd h
  clear h
  refine cw_loopG (σ := Nat × (List Str) × Int × Nat × (List Nat)) (fun s => m_laws_markStringS_L4 N a s.1 s.2.1 s.2.2.1 s.2.2.2.1 = some e4) (fun s => [(0, .slice a_a a.length c_a), (1, .int .i64 s.2.2.1), (5, .int .i64 ((s.2.2.2.1 : Nat) : Int))]) (fun s => [owC strsL s.2.2.2.2 [.slice a_a a.length c_a] s.2.1]) (fun s => s.1) (N, a, k, 0, F_a) [0] he4 ⟨rfl, rfl, rfl, trivial⟩ rfl (fun KL s he4 hn4 => ?_)
  obtain ⟨n4, s0, s1, s5, Fs0⟩ := s
  simp only at he4 hn4 ⊢
  rcases n4 with _ | n4
  · exact nosome he4
  have h := he4; rw [m_laws_markStringS_L4] at h
  refine cw_seq ?_
  refine cw_seq ?_
  refine cw_region ?_
  refine wl_u rfl (ow_y (yh_move rfl rfl) rfl rfl (kk_wl ?_))
  refine wl_u rfl (ow_y (yh_move rfl rfl) rfl rfl (kk_wl ?_))
  refine wl_know (a.length ≤ 9223372036854775807) (fun w hw => own_max 0 rfl hw) (fun mo8 => ?_)
  refine wl_u rfl (ow_y (yh_lenS Tb rfl rfl rfl rfl) rfl rfl (kk_wl ?_))
  refine wl_u rfl (ow_y (yh_cmpI rfl rfl rfl rfl) rfl rfl (kk_wl ?_))
  refine wl_nil ?_
  refine ex_seq ?_
  refine cw_split rfl (fun c1 => ?_) (fun c1 => ?_)
  · skip
    replace h := bt c1 h
    have q1 := ltb_true.1 c1
    refine cw_skip ?_
    refine ex_seq ?_
    refine cw_seq ?_
    refine cw_block ?_
    refine cw_seq ?_
    refine cw_region ?_
    refine wl_u rfl (ow_y (yh_move rfl rfl) rfl rfl (kk_wl ?_))
    refine wl_u rfl (ow_y (yh_move rfl rfl) rfl rfl (kk_wl ?_))
    refine wl_u rfl (ow_y (yh_move rfl rfl) rfl rfl (kk_wl ?_))
    obtain ⟨x15, hx15, h⟩ := bd h
    refine wl_u rfl (ow_cV rfl hb57 rfl (fun w hw => c_laws_markText N _ _ hx15 w) rfl rfl (kk_wl ?_))
    obtain ⟨y16, hy16, h⟩ := bd h
    refine wl_ex (fun g => a_a = some ⟨g, 0, none⟩) (fun w hw => by exact own_addrK 0 rfl hy16 hw) (fun g16 hg16 => ?_)
    subst hg16
    refine wl_know (a.length = s0.length) (fun w hw => own_lenK 0 rfl hw) (fun hn16 => ?_)
    refine wl_u rfl (ow_y (yh_idx Tb (k := s5) rfl rfl rfl rfl (Nat.lt_of_lt_of_eq (get_lt hy16) hn16.symm) rfl rfl) rfl rfl (kk_wl ?_))
    refine wl_u rfl (ow_setP Tb (u := x15) 0 rfl rfl rfl rfl rfl (get_lt hy16) rfl rfl (fun Fs12 => kk_wl ?_))
    refine wl_nil ?_
    refine ex_seq ?_
    refine cw_region ?_
    refine wl_u rfl (ow_y (yh_move rfl rfl) rfl rfl (kk_wl ?_))
    refine wl_u rfl (ow_y (yh_arW rfl rfl rfl rfl) rfl rfl (kk_wl ?_))
    refine wl_u rfl (ow_y (yh_assign rfl rfl) rfl rfl (kk_wl ?_))
    refine wl_nil ?_
    refine ex_block_normal ?_
    refine ex_seq ?_
    refine cw_region ?_
    refine wl_u rfl (ow_y (yh_move rfl rfl) rfl rfl (kk_wl ?_))
    refine wl_u rfl (ow_y (yh_arI rfl rfl rfl rfl (by omega)) rfl rfl (kk_wl ?_))
    refine wl_u rfl (ow_y (yh_assign rfl rfl) rfl rfl (kk_wl ?_))
    refine wl_nil ?_
    exact ex_next [0] (hn4 (n4, (s0.set s5 x15), w64 (s1 + 1), s5 + 1, Fs12) (Nat.lt_succ_self _) h) ⟨rfl, rfl, rfl, trivial⟩ (by kernel_rfl)
  · skip
    replace h := bf c1 h
    have q2 := ltb_false.1 c1
    refine cw_exit ?_
    refine ex_then_exit ?_
    refine ex_then_exit ?_
    obtain rfl := Option.some.inj h
    have h := go_brk hk4
    refine ex_block_exit ?_
    refine ex_seq ?_
    refine cw_seq ?_
    refine cw_region ?_
    refine wl_u rfl (ow_y (yh_move rfl rfl) rfl rfl (kk_wl ?_))
    refine wl_u rfl (ow_y (yh_assign rfl rfl) rfl rfl (kk_wl ?_))
    refine wl_nil ?_
    refine ex_seq ?_
    refine cw_ret ?_
    obtain rfl := Option.some.inj h
    exact ex_r1 Tb rfl (.tmp rfl) (fun wq hq => ⟨_, rfl, hq.ext, ⟨Fs0, rfl, NewM.sel [0] hq rfl⟩⟩)

def m_laws_markStepS_L4 (N : Nat) (a : List Step) : Nat → (List Step) → Int → Nat → Option (Ex (List Step × Int × Nat) ((Int) × (List Step)))
  | 0, _, _, _ => none
  | n + 1, s0, s1, s5 => (bif ltb ((s5 : Nat) : Int) ((a.length : Nat) : Int) then (m_laws_markText N s1).bind fun x15 => (s0[s5]?).bind fun y16 => ((s0.set s5 (Step.mk x15 y16.after y16.undo))[s5]?).bind fun y22 => (m_laws_markStringS N y22.after (w64 (s1 + 1))).bind fun x26 => (((s0.set s5 (Step.mk x15 y16.after y16.undo)).set s5 (Step.mk y22.name x26.2 y22.undo))[s5]?).bind fun y32 => m_laws_markStepS_L4 N a n (((s0.set s5 (Step.mk x15 y16.after y16.undo)).set s5 (Step.mk y22.name x26.2 y22.undo)).set s5 (Step.mk y32.name y32.after (eqb (Int.tmod x26.1 3) 0))) (w64 (x26.1 + 1)) (s5 + 1)
 else some (Ex.brk (s0, s1, s5)))

def m_laws_markStepS (N : Nat) (a : List Step) (k : Int) : Option ((Int) × (List Step)) := (m_laws_markStepS_L4 N a N a k 0).bind fun e4 => e4.go (fun r => r) fun b4 => some (b4.2.1, b4.1)

set_option maxHeartbeats 4000000 in
theorem c_laws_markStepS (N : Nat) (a : List Step) (k : Int) (res : (Int) × (List Step)) (h : m_laws_markStepS N a k = some res) (w : World) {a_a : Option Addr} {c_a : Nat} {F_a : List Nat} (hr : (owC stepsL F_a [.slice a_a a.length c_a] a).A w) (hnd : F_a.Nodup) : Ret Try.prog 56 [.slice a_a a.length c_a, .int .i64 k] w F_a fun v w' => ∃ F0, v = .int .i64 res.1 ∧ NewM w w' F_a [owC stepsL F0 [.slice a_a a.length c_a] res.2] := by
  unfold m_laws_markStepS at h
  refine ret_enter Try.func56 rfl Try.ntmps56 rfl (hp_one hr hnd) ?_
  refine cw_seq ?_
  refine cw_region ?_
  refine wl_u rfl (ow_y (yh_assign rfl rfl) rfl rfl (kk_wl ?_))
  refine wl_nil ?_
  refine ex_seq ?_
  refine cw_seq ?_
  refine cw_seq ?_
  refine cw_region ?_
  refine wl_u rfl (ow_y (yh_assign rfl rfl) rfl rfl (kk_wl ?_))
  refine wl_nil ?_
  refine ex_seq ?_
  refine cw_block ?_
  obtain ⟨e4, he4, hk4⟩ := bd h
  clear h
  refine cw_loopG (σ := Nat × (List Step) × Int × Nat × (List Nat)) (fun s => m_laws_markStepS_L4 N a s.1 s.2.1 s.2.2.1 s.2.2.2.1 = some e4) (fun s => [(0, .slice a_a a.length c_a), (1, .int .i64 s.2.2.1), (5, .int .i64 ((s.2.2.2.1 : Nat) : Int))]) (fun s => [owC stepsL s.2.2.2.2 [.slice a_a a.length c_a] s.2.1]) (fun s => s.1) (N, a, k, 0, F_a) [0] he4 ⟨rfl, rfl, rfl, trivial⟩ rfl (fun KL s he4 hn4 => ?_)
  obtain ⟨n4, s0, s1, s5, Fs0⟩ := s
  simp only at he4 hn4 ⊢
  rcases n4 with _ | n4
  · exact nosome he4
  have h := he4; rw [m_laws_markStepS_L4] at h
  refine cw_seq ?_
  refine cw_seq ?_
  refine cw_region ?_
  refine wl_u rfl (ow_y (yh_move rfl rfl) rfl rfl (kk_wl ?_))
  refine wl_u rfl (ow_y (yh_move rfl rfl) rfl rfl (kk_wl ?_))
  refine wl_know (a.length ≤ 9223372036854775807) (fun w hw => own_max 0 rfl hw) (fun mo8 => ?_)
  refine wl_u rfl (ow_y (yh_lenS Tb rfl rfl rfl rfl) rfl rfl (kk_wl ?_))
  refine wl_u rfl (ow_y (yh_cmpI rfl rfl rfl rfl) rfl rfl (kk_wl ?_))
  refine wl_nil ?_
  refine ex_seq ?_
  refine cw_split rfl (fun c1 => ?_) (fun c1 => ?_)
  · skip
    replace h := bt c1 h
    have q1 := ltb_true.1 c1
    refine cw_skip ?_
    refine ex_seq ?_
    refine cw_seq ?_
    refine cw_block ?_
    refine cw_seq ?_
    refine cw_region ?_
    refine wl_u rfl (ow_y (yh_move rfl rfl) rfl rfl (kk_wl ?_))
    refine wl_u rfl (ow_y (yh_move rfl rfl) rfl rfl (kk_wl ?_))
    refine wl_u rfl (ow_y (yh_move rfl rfl) rfl rfl (kk_wl ?_))
    obtain ⟨x15, hx15, h⟩ := bd h
    refine wl_u rfl (ow_cV rfl hb57 rfl (fun w hw => c_laws_markText N _ _ hx15 w) rfl rfl (kk_wl ?_))
    obtain ⟨y16, hy16, h⟩ := bd h
    refine wl_ex (fun g => a_a = some ⟨g, 0, none⟩) (fun w hw => by exact own_addrK 0 rfl hy16 hw) (fun g16 hg16 => ?_)
    subst hg16
    refine wl_know (a.length = s0.length) (fun w hw => own_lenK 0 rfl hw) (fun hn16 => ?_)
    refine wl_u rfl (ow_y (yh_idx Tb (k := s5) rfl rfl rfl rfl (Nat.lt_of_lt_of_eq (get_lt hy16) hn16.symm) rfl rfl) rfl rfl (kk_wl ?_))
    refine wl_u rfl (ow_y (yh_field Tb rfl rfl rfl) rfl rfl (kk_wl ?_))
    refine wl_u rfl (ow_setFP Tb 0 0 (Step.mk x15 y16.after y16.undo) (fun w F cs h => by obtain ⟨a, c, rfl, h2⟩ := stepL_ow h; exact stepL_mk (Step.mk x15 y16.after y16.undo) h2) rfl rfl rfl rfl rfl rfl rfl hy16 rfl (kk_wl ?_))
    refine wl_nil ?_
    refine ex_seq ?_
    refine cw_seq ?_
    refine cw_region ?_
    refine wl_u rfl (ow_y (yh_move rfl rfl) rfl rfl (kk_wl ?_))
    refine wl_u rfl (ow_y (yh_arW rfl rfl rfl rfl) rfl rfl (kk_wl ?_))
    refine wl_u rfl (ow_y (yh_assign rfl rfl) rfl rfl (kk_wl ?_))
    refine wl_nil ?_
    refine ex_seq ?_
    refine cw_seq ?_
    refine cw_region ?_
    refine wl_u rfl (ow_y (yh_move rfl rfl) rfl rfl (kk_wl ?_))
    refine wl_u rfl (ow_y (yh_move rfl rfl) rfl rfl (kk_wl ?_))
    obtain ⟨y22, hy22, h⟩ := bd h
    refine wl_know (a.length = (s0.set s5 (Step.mk x15 y16.after y16.undo)).length) (fun w hw => own_lenK 0 rfl hw) (fun hn22 => ?_)
    refine wl_u rfl (ow_y (yh_idx Tb (k := s5) rfl rfl rfl rfl (Nat.lt_of_lt_of_eq (get_lt hy22) hn22.symm) rfl rfl) rfl rfl (kk_wl ?_))
    refine wl_u rfl (ow_y (yh_field Tb rfl rfl rfl) rfl rfl (kk_wl ?_))
    refine wl_u rfl (ow_loadH Tb 0 1 (step_nest y22) rfl rfl rfl rfl hy22 rfl rfl (fun a24 c24 G24 F24 => kk_wl ?_))
    refine wl_u rfl (ow_y (yh_move rfl rfl) rfl rfl (kk_wl ?_))
    obtain ⟨x26, hx26, h⟩ := bd h
    refine wl_u rfl (ow_cF1 0 rfl hb58 rfl rfl (fun w hw => c_laws_markStringS N _ _ _ hx26 w (hw.at (i := 0) rfl) (hw.ndAt (i := 0) rfl)) rfl rfl (fun F26 => kk_join (l2 := ((s0.set s5 (Step.mk x15 y16.after y16.undo)).set s5 (Step.mk y22.name x26.2 y22.undo))) 0 0 rfl rfl rfl (fun G26 => kk_wl ?_)))
    refine wl_u rfl (ow_y (yh_assign rfl rfl) rfl rfl (kk_wl ?_))
    refine wl_nil ?_
    refine ex_seq ?_
    refine cw_seq ?_
    refine cw_region ?_
    refine wl_u rfl (ow_y (yh_move rfl rfl) rfl rfl (kk_wl ?_))
    refine wl_u rfl (ow_y (yh_move rfl rfl) rfl rfl (kk_wl ?_))
    refine wl_u rfl (ow_y (yh_move rfl rfl) rfl rfl (kk_wl ?_))
    refine wl_u rfl (ow_y (yh_remT rfl rfl rfl (by decide)) rfl rfl (kk_wl ?_))
    refine wl_u rfl (ow_y (yh_cmpI rfl rfl rfl rfl) rfl rfl (kk_wl ?_))
    obtain ⟨y32, hy32, h⟩ := bd h
    refine wl_know (a.length = ((s0.set s5 (Step.mk x15 y16.after y16.undo)).set s5 (Step.mk y22.name x26.2 y22.undo)).length) (fun w hw => own_lenK 0 rfl hw) (fun hn32 => ?_)
    refine wl_u rfl (ow_y (yh_idx Tb (k := s5) rfl rfl rfl rfl (Nat.lt_of_lt_of_eq (get_lt hy32) hn32.symm) rfl rfl) rfl rfl (kk_wl ?_))
    refine wl_u rfl (ow_y (yh_field Tb rfl rfl rfl) rfl rfl (kk_wl ?_))
    refine wl_u rfl (ow_setFP Tb 0 2 (Step.mk y32.name y32.after (eqb (Int.tmod x26.1 3) 0)) (fun w F cs h => by obtain ⟨a, c, rfl, h2⟩ := stepL_ow h; exact stepL_mk (Step.mk y32.name y32.after (eqb (Int.tmod x26.1 3) 0)) h2) rfl rfl rfl rfl rfl rfl rfl hy32 rfl (kk_wl ?_))
    refine wl_nil ?_
    refine ex_seq ?_
    refine cw_region ?_
    refine wl_u rfl (ow_y (yh_move rfl rfl) rfl rfl (kk_wl ?_))
    refine wl_u rfl (ow_y (yh_arW rfl rfl rfl rfl) rfl rfl (kk_wl ?_))
    refine wl_u rfl (ow_y (yh_assign rfl rfl) rfl rfl (kk_wl ?_))
    refine wl_nil ?_
    refine ex_block_normal ?_
    refine ex_seq ?_
    refine cw_region ?_
    refine wl_u rfl (ow_y (yh_move rfl rfl) rfl rfl (kk_wl ?_))
    refine wl_u rfl (ow_y (yh_arI rfl rfl rfl rfl (by omega)) rfl rfl (kk_wl ?_))
    refine wl_u rfl (ow_y (yh_assign rfl rfl) rfl rfl (kk_wl ?_))
    refine wl_nil ?_
    exact ex_next [0] (hn4 (n4, (((s0.set s5 (Step.mk x15 y16.after y16.undo)).set s5 (Step.mk y22.name x26.2 y22.undo)).set s5 (Step.mk y32.name y32.after (eqb (Int.tmod x26.1 3) 0))), w64 (x26.1 + 1), s5 + 1, G26) (Nat.lt_succ_self _) h) ⟨rfl, rfl, rfl, trivial⟩ (by kernel_rfl)
  · skip
    replace h := bf c1 h
    have q2 := ltb_false.1 c1
    refine cw_exit ?_
    refine ex_then_exit ?_
    refine ex_then_exit ?_
    obtain rfl := Option.some.inj h
    have h := go_brk hk4
    refine ex_block_exit ?_
    refine ex_seq ?_
    refine cw_seq ?_
    refine cw_region ?_
    refine wl_u rfl (ow_y (yh_move rfl rfl) rfl rfl (kk_wl ?_))
    refine wl_u rfl (ow_y (yh_assign rfl rfl) rfl rfl (kk_wl ?_))
    refine wl_nil ?_
    refine ex_seq ?_
    refine cw_ret ?_
    obtain rfl := Option.some.inj h
    exact ex_r1 Tb rfl (.tmp rfl) (fun wq hq => ⟨_, rfl, hq.ext, ⟨Fs0, rfl, NewM.sel [0] hq rfl⟩⟩)

end Go.Proofs.Ythmifmpllgofkaa
