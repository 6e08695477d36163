/- Mirrors and contracts, printed by a program: what each function computes as a plain term, and that it does. -/
import Derived.Test.YtmnhnldnnniglaaGreatR
import Derived.Test.YtmnhnldnnniglaaGreatK
set_option linter.all false
set_option maxRecDepth 100000
namespace Go.Proofs.YtmnhnldnnniglaaGreat
open Go.RowKit

def m_laws_szStringS_L8 (N : Nat) (a : List Str) : Nat → Int → Nat → Option (Ex (Int × Nat) (Int))
  | 0, _, _ => none
  | n + 1, s1, s5 => (bif ltb ((s5 : Nat) : Int) ((a.length : Nat) : Int) then (a[s5]?).bind fun y21 => (ssz y21).bind fun z23 => (bif ltb (w64 (s1 - ((y21.size : Nat) : Int))) 0 then some (Ex.ret (-1))
 else m_laws_szStringS_L8 N a n (w64 (s1 - ((y21.size : Nat) : Int))) (s5 + 1))
 else some (Ex.brk (s1, s5)))

def m_laws_szStringS (N : Nat) (a : List Str) (left : Int) : Option (Int) := (bif ltb (w64 (left - ((a.length : Nat) : Int))) 0 then some (-1)
 else (m_laws_szStringS_L8 N a N (w64 (left - ((a.length : Nat) : Int))) 0).bind fun e8 => e8.go (fun r => r) fun b8 => some b8.1)

set_option maxHeartbeats 4000000 in
theorem c_laws_szStringS (N : Nat) (a : List Str) (left : Int) (res : Int) (h : m_laws_szStringS N a left = some res) (w : World) {a_a : Option Addr} {c_a : Nat} (h_a : strsL.rd w [] [.slice a_a a.length c_a] a) : Ret Tryz.prog 115 [.slice a_a a.length c_a, .int .i64 left] w [] fun v w' => v = .int .i64 res := by
  have mh_a := rd_max h_a
  unfold m_laws_szStringS at h
  refine ret_enter Tryz.func115 rfl Tryz.ntmps115 rfl (Hp.refl w _) ?_
  refine cw_seq ?_
  refine cw_region ?_
  refine wl_u rfl (ow_y (yh_assign rfl rfl) rfl rfl (kk_wl ?_))
  refine wl_nil ?_
  refine ex_seq ?_
  refine cw_seq ?_
  refine cw_region ?_
  refine wl_u rfl (ow_y (yh_move rfl rfl) rfl rfl (kk_wl ?_))
  refine wl_u rfl (ow_y (yh_move rfl rfl) rfl rfl (kk_wl ?_))
  refine wl_u rfl (ow_y (yh_lenS Tb rfl rfl rfl rfl) rfl rfl (kk_wl ?_))
  refine wl_u rfl (ow_y (yh_arW rfl rfl rfl rfl) rfl rfl (kk_wl ?_))
  refine wl_u rfl (ow_y (yh_assign rfl rfl) rfl rfl (kk_wl ?_))
  refine wl_nil ?_
  refine ex_seq ?_
  refine cw_seq ?_
  refine cw_seq ?_
  refine cw_region ?_
  refine wl_u rfl (ow_y (yh_move rfl rfl) rfl rfl (kk_wl ?_))
  refine wl_u rfl (ow_y (yh_cmpI rfl rfl rfl rfl) rfl rfl (kk_wl ?_))
  refine wl_nil ?_
  refine ex_seq ?_
  refine cw_split rfl (fun cc1 => ?_) (fun cc1 => ?_)
  · skip
    replace h := bt cc1 h
    have q1 := ltb_true.1 cc1
    refine cw_seq ?_
    refine cw_region ?_
    refine wl_u rfl (ow_y (yh_assign rfl rfl) rfl rfl (kk_wl ?_))
    refine wl_nil ?_
    refine ex_seq ?_
    refine cw_ret ?_
    refine ex_then_ret ?_
    obtain rfl := Option.some.inj h
    exact ex_r1 Tb rfl (.tmp rfl) (fun wq hq => ⟨_, rfl, hq.ext, rfl⟩)
  · skip
    replace h := bf cc1 h
    have q2 := ltb_false.1 cc1
    refine cw_skip ?_
    refine ex_seq ?_
    refine cw_seq ?_
    refine cw_seq ?_
    refine cw_region ?_
    refine wl_u rfl (ow_y (yh_assign rfl rfl) rfl rfl (kk_wl ?_))
    refine wl_nil ?_
    refine ex_seq ?_
    refine cw_block ?_
    obtain ⟨e8, he8, hk8⟩ := bd h
    clear h
    refine cw_loopG (σ := Nat × Int × Nat) (fun s => m_laws_szStringS_L8 N a s.1 s.2.1 s.2.2 = some e8) (fun s => [(0, .slice a_a a.length c_a), (1, .int .i64 s.2.1), (5, .int .i64 ((s.2.2 : Nat) : Int))]) (fun s => []) (fun s => s.1) (N, w64 (left - ((a.length : Nat) : Int)), 0) [] he8 ⟨rfl, rfl, rfl, trivial⟩ rfl (fun KL s he8 hn8 => ?_)
    obtain ⟨n8, s1, s5⟩ := s
    simp only at he8 hn8 ⊢
    rcases n8 with _ | n8
    · exact nosome he8
    have h := he8; rw [m_laws_szStringS_L8] at h
    refine cw_seq ?_
    refine cw_seq ?_
    refine cw_region ?_
    refine wl_u rfl (ow_y (yh_move rfl rfl) rfl rfl (kk_wl ?_))
    refine wl_u rfl (ow_y (yh_move rfl rfl) rfl rfl (kk_wl ?_))
    refine wl_u rfl (ow_y (yh_lenS Tb rfl rfl rfl rfl) rfl rfl (kk_wl ?_))
    refine wl_u rfl (ow_y (yh_cmpI rfl rfl rfl rfl) rfl rfl (kk_wl ?_))
    refine wl_nil ?_
    refine ex_seq ?_
    refine cw_split rfl (fun cc2 => ?_) (fun cc2 => ?_)
    · skip
      replace h := bt cc2 h
      have q3 := ltb_true.1 cc2
      refine cw_skip ?_
      refine ex_seq ?_
      refine cw_seq ?_
      refine cw_block ?_
      refine cw_seq ?_
      refine cw_region ?_
      refine wl_u rfl (ow_y (yh_move rfl rfl) rfl rfl (kk_wl ?_))
      refine wl_u rfl (ow_y (yh_move rfl rfl) rfl rfl (kk_wl ?_))
      refine wl_u rfl (ow_y (yh_move rfl rfl) rfl rfl (kk_wl ?_))
      obtain ⟨y21, hy21, h⟩ := bd h
      obtain ⟨b21, o21, ha21⟩ := sl_addr h_a hy21
      subst ha21
      have hc21 := get_str h_a hy21
      refine wl_u rfl (ow_y (yh_idx Tb (k := s5) rfl rfl rfl rfl (get_lt hy21) rfl rfl) rfl rfl (kk_wl ?_))
      refine wl_u rfl (ow_y (yh_loadA0 Tb rfl rfl rfl hc21 rfl) rfl rfl (kk_wl ?_))
      obtain ⟨z23, hz23, h⟩ := bd h
      have mz23 := ssz_some hz23
      refine wl_u rfl (ow_y (yh_lenT Tb rfl rfl rfl rfl) rfl rfl (kk_wl ?_))
      refine wl_u rfl (ow_y (yh_arW rfl rfl rfl rfl) rfl rfl (kk_wl ?_))
      refine wl_u rfl (ow_y (yh_assign rfl rfl) rfl rfl (kk_wl ?_))
      refine wl_nil ?_
      refine ex_seq ?_
      refine cw_seq ?_
      refine cw_region ?_
      refine wl_u rfl (ow_y (yh_move rfl rfl) rfl rfl (kk_wl ?_))
      refine wl_u rfl (ow_y (yh_cmpI rfl rfl rfl rfl) rfl rfl (kk_wl ?_))
      refine wl_nil ?_
      refine ex_seq ?_
      refine cw_split rfl (fun cc3 => ?_) (fun cc3 => ?_)
      · skip
        replace h := bt cc3 h
        have q4 := ltb_true.1 cc3
        refine cw_seq ?_
        refine cw_region ?_
        refine wl_u rfl (ow_y (yh_assign rfl rfl) rfl rfl (kk_wl ?_))
        refine wl_nil ?_
        refine ex_seq ?_
        refine cw_ret ?_
        refine ex_block_ret ?_
        refine ex_then_ret ?_
        refine ex_then_ret ?_
        refine ex_block_ret ?_
        refine ex_then_ret ?_
        obtain rfl := Option.some.inj h
        obtain rfl := go_ret hk8
        exact ex_r1 Tb rfl (.tmp rfl) (fun wq hq => ⟨_, rfl, hq.ext, rfl⟩)
      · skip
        replace h := bf cc3 h
        have q5 := ltb_false.1 cc3
        refine cw_skip ?_
        refine ex_block_normal ?_
        refine ex_seq ?_
        refine cw_region ?_
        refine wl_u rfl (ow_y (yh_move rfl rfl) rfl rfl (kk_wl ?_))
        refine wl_u rfl (ow_y (yh_arI rfl rfl rfl rfl (by omega)) rfl rfl (kk_wl ?_))
        refine wl_u rfl (ow_y (yh_assign rfl rfl) rfl rfl (kk_wl ?_))
        refine wl_nil ?_
        exact ex_next [] (hn8 (n8, w64 (s1 - ((y21.size : Nat) : Int)), s5 + 1) (Nat.lt_succ_self _) h) ⟨rfl, rfl, rfl, trivial⟩ (by kernel_rfl)
    · skip
      replace h := bf cc2 h
      have q6 := ltb_false.1 cc2
      refine cw_exit ?_
      refine ex_then_exit ?_
      refine ex_then_exit ?_
      obtain rfl := Option.some.inj h
      have h := go_brk hk8
      refine ex_block_exit ?_
      refine ex_seq ?_
      refine cw_seq ?_
      refine cw_region ?_
      refine wl_u rfl (ow_y (yh_move rfl rfl) rfl rfl (kk_wl ?_))
      refine wl_u rfl (ow_y (yh_assign rfl rfl) rfl rfl (kk_wl ?_))
      refine wl_nil ?_
      refine ex_seq ?_
      refine cw_ret ?_
      obtain rfl := Option.some.inj h
      exact ex_r1 Tb rfl (.tmp rfl) (fun wq hq => ⟨_, rfl, hq.ext, rfl⟩)

def m_laws_szStep (N : Nat) (a : Step) (left : Int) : Option (Int) := (ssz a.name).bind fun z8 => (bif ltb (w64 (left - ((a.name.size : Nat) : Int))) 0 then some (-1)
 else (m_laws_szStringS N a.after (w64 (left - ((a.name.size : Nat) : Int)))).bind fun x15 => (bif ltb x15 0 then some (-1)
 else some x15))

set_option maxHeartbeats 4000000 in
theorem c_laws_szStep (N : Nat) (a : Step) (left : Int) (res : Int) (h : m_laws_szStep N a left = some res) (w : World) {a_a_after : Option Addr} {c_a_after : Nat} (h_a_after : strsL.rd w [] [.slice a_a_after a.after.length c_a_after] a.after) : Ret Tryz.prog 90 [.agg #[.string a.name, .slice a_a_after a.after.length c_a_after, .bool a.undo], .int .i64 left] w [] fun v w' => v = .int .i64 res := by
  have mh_a_after := rd_max h_a_after
  unfold m_laws_szStep at h
  refine ret_enter Tryz.func90 rfl Tryz.ntmps90 rfl (Hp.refl w _) ?_
  refine cw_seq ?_
  refine cw_region ?_
  refine wl_u rfl (ow_boxA rfl rfl rfl rfl (fun g2 => kk_wl ?_))
  refine wl_u rfl (ow_y (yh_assign rfl rfl) rfl rfl (kk_wl ?_))
  refine wl_nil ?_
  refine ex_seq ?_
  refine cw_seq ?_
  refine cw_region ?_
  refine wl_u rfl (ow_y (yh_move rfl rfl) rfl rfl (kk_wl ?_))
  refine wl_u rfl (ow_y (yh_field Tb rfl rfl rfl) rfl rfl (kk_wl ?_))
  refine wl_u rfl (ow_y (yh_loadB Tb (k := 0) rfl rfl rfl rfl rfl) rfl rfl (kk_wl ?_))
  obtain ⟨z8, hz8, h⟩ := bd h
  have mz8 := ssz_some hz8
  refine wl_u rfl (ow_y (yh_lenT Tb rfl rfl rfl rfl) rfl rfl (kk_wl ?_))
  refine wl_u rfl (ow_y (yh_arW rfl rfl rfl rfl) rfl rfl (kk_wl ?_))
  refine wl_u rfl (ow_y (yh_assign rfl rfl) rfl rfl (kk_wl ?_))
  refine wl_nil ?_
  refine ex_seq ?_
  refine cw_seq ?_
  refine cw_seq ?_
  refine cw_region ?_
  refine wl_u rfl (ow_y (yh_move rfl rfl) rfl rfl (kk_wl ?_))
  refine wl_u rfl (ow_y (yh_cmpI rfl rfl rfl rfl) rfl rfl (kk_wl ?_))
  refine wl_nil ?_
  refine ex_seq ?_
  refine cw_split rfl (fun cc1 => ?_) (fun cc1 => ?_)
  · skip
    replace h := bt cc1 h
    have q1 := ltb_true.1 cc1
    refine cw_seq ?_
    refine cw_region ?_
    refine wl_u rfl (ow_y (yh_assign rfl rfl) rfl rfl (kk_wl ?_))
    refine wl_nil ?_
    refine ex_seq ?_
    refine cw_ret ?_
    refine ex_then_ret ?_
    obtain rfl := Option.some.inj h
    exact ex_r1 Tb rfl (.tmp rfl) (fun wq hq => ⟨_, rfl, hq.ext, rfl⟩)
  · skip
    replace h := bf cc1 h
    have q2 := ltb_false.1 cc1
    refine cw_skip ?_
    refine ex_seq ?_
    refine cw_seq ?_
    refine cw_region ?_
    refine wl_u rfl (ow_y (yh_field Tb rfl rfl rfl) rfl rfl (kk_wl ?_))
    refine wl_u rfl (ow_y (yh_loadB Tb (k := 0) rfl rfl rfl rfl rfl) rfl rfl (kk_wl ?_))
    refine wl_u rfl (ow_y (yh_move rfl rfl) rfl rfl (kk_wl ?_))
    obtain ⟨x15, hx15, h⟩ := bd h
    refine wl_u rfl (ow_cV rfl hb115 rfl (fun w hw => c_laws_szStringS N _ _ _ hx15 w (Lay.at_ h_a_after hw)) rfl rfl (kk_wl ?_))
    refine wl_u rfl (ow_y (yh_assign rfl rfl) rfl rfl (kk_wl ?_))
    refine wl_nil ?_
    refine ex_seq ?_
    refine cw_seq ?_
    refine cw_seq ?_
    refine cw_region ?_
    refine wl_u rfl (ow_y (yh_move rfl rfl) rfl rfl (kk_wl ?_))
    refine wl_u rfl (ow_y (yh_cmpI rfl rfl rfl rfl) rfl rfl (kk_wl ?_))
    refine wl_nil ?_
    refine ex_seq ?_
    refine cw_split rfl (fun cc2 => ?_) (fun cc2 => ?_)
    · skip
      replace h := bt cc2 h
      have q3 := ltb_true.1 cc2
      refine cw_seq ?_
      refine cw_region ?_
      refine wl_u rfl (ow_y (yh_assign rfl rfl) rfl rfl (kk_wl ?_))
      refine wl_nil ?_
      refine ex_seq ?_
      refine cw_ret ?_
      refine ex_then_ret ?_
      obtain rfl := Option.some.inj h
      exact ex_r1 Tb rfl (.tmp rfl) (fun wq hq => ⟨_, rfl, hq.ext, rfl⟩)
    · skip
      replace h := bf cc2 h
      have q4 := ltb_false.1 cc2
      refine cw_skip ?_
      refine ex_seq ?_
      refine cw_seq ?_
      refine cw_region ?_
      refine wl_u rfl (ow_y (yh_move rfl rfl) rfl rfl (kk_wl ?_))
      refine wl_u rfl (ow_y (yh_assign rfl rfl) rfl rfl (kk_wl ?_))
      refine wl_nil ?_
      refine ex_seq ?_
      refine cw_ret ?_
      obtain rfl := Option.some.inj h
      exact ex_r1 Tb rfl (.tmp rfl) (fun wq hq => ⟨_, rfl, hq.ext, rfl⟩)

def m_laws_szStepS_L8 (N : Nat) (a : List Step) : Nat → Int → Nat → Option (Ex (Int × Nat) (Int))
  | 0, _, _ => none
  | n + 1, s1, s5 => (bif ltb ((s5 : Nat) : Int) ((a.length : Nat) : Int) then (a[s5]?).bind fun y20 => (m_laws_szStep N y20 s1).bind fun x23 => (bif ltb x23 0 then some (Ex.ret (-1))
 else m_laws_szStepS_L8 N a n x23 (s5 + 1))
 else some (Ex.brk (s1, s5)))

def m_laws_szStepS (N : Nat) (a : List Step) (left : Int) : Option (Int) := (bif ltb (w64 (left - ((a.length : Nat) : Int))) 0 then some (-1)
 else (m_laws_szStepS_L8 N a N (w64 (left - ((a.length : Nat) : Int))) 0).bind fun e8 => e8.go (fun r => r) fun b8 => some b8.1)

set_option maxHeartbeats 4000000 in
theorem c_laws_szStepS (N : Nat) (a : List Step) (left : Int) (res : Int) (h : m_laws_szStepS N a left = some res) (w : World) {a_a : Option Addr} {c_a : Nat} (h_a : stepsL.rd w [] [.slice a_a a.length c_a] a) : Ret Tryz.prog 51 [.slice a_a a.length c_a, .int .i64 left] w [] fun v w' => v = .int .i64 res := by
  have mh_a := rd_max h_a
  unfold m_laws_szStepS at h
  refine ret_enter Tryz.func51 rfl Tryz.ntmps51 rfl (Hp.refl w _) ?_
  refine cw_seq ?_
  refine cw_region ?_
  refine wl_u rfl (ow_y (yh_assign rfl rfl) rfl rfl (kk_wl ?_))
  refine wl_nil ?_
  refine ex_seq ?_
  refine cw_seq ?_
  refine cw_region ?_
  refine wl_u rfl (ow_y (yh_move rfl rfl) rfl rfl (kk_wl ?_))
  refine wl_u rfl (ow_y (yh_move rfl rfl) rfl rfl (kk_wl ?_))
  refine wl_u rfl (ow_y (yh_lenS Tb rfl rfl rfl rfl) rfl rfl (kk_wl ?_))
  refine wl_u rfl (ow_y (yh_arW rfl rfl rfl rfl) rfl rfl (kk_wl ?_))
  refine wl_u rfl (ow_y (yh_assign rfl rfl) rfl rfl (kk_wl ?_))
  refine wl_nil ?_
  refine ex_seq ?_
  refine cw_seq ?_
  refine cw_seq ?_
  refine cw_region ?_
  refine wl_u rfl (ow_y (yh_move rfl rfl) rfl rfl (kk_wl ?_))
  refine wl_u rfl (ow_y (yh_cmpI rfl rfl rfl rfl) rfl rfl (kk_wl ?_))
  refine wl_nil ?_
  refine ex_seq ?_
  refine cw_split rfl (fun cc1 => ?_) (fun cc1 => ?_)
  · skip
    replace h := bt cc1 h
    have q1 := ltb_true.1 cc1
    refine cw_seq ?_
    refine cw_region ?_
    refine wl_u rfl (ow_y (yh_assign rfl rfl) rfl rfl (kk_wl ?_))
    refine wl_nil ?_
    refine ex_seq ?_
    refine cw_ret ?_
    refine ex_then_ret ?_
    obtain rfl := Option.some.inj h
    exact ex_r1 Tb rfl (.tmp rfl) (fun wq hq => ⟨_, rfl, hq.ext, rfl⟩)
  · skip
    replace h := bf cc1 h
    have q2 := ltb_false.1 cc1
    refine cw_skip ?_
    refine ex_seq ?_
    refine cw_seq ?_
    refine cw_seq ?_
    refine cw_region ?_
    refine wl_u rfl (ow_y (yh_assign rfl rfl) rfl rfl (kk_wl ?_))
    refine wl_nil ?_
    refine ex_seq ?_
    refine cw_block ?_
    obtain ⟨e8, he8, hk8⟩ := bd h
    clear h
    refine cw_loopG (σ := Nat × Int × Nat) (fun s => m_laws_szStepS_L8 N a s.1 s.2.1 s.2.2 = some e8) (fun s => [(0, .slice a_a a.length c_a), (1, .int .i64 s.2.1), (5, .int .i64 ((s.2.2 : Nat) : Int))]) (fun s => []) (fun s => s.1) (N, w64 (left - ((a.length : Nat) : Int)), 0) [] he8 ⟨rfl, rfl, rfl, trivial⟩ rfl (fun KL s he8 hn8 => ?_)
    obtain ⟨n8, s1, s5⟩ := s
    simp only at he8 hn8 ⊢
    rcases n8 with _ | n8
    · exact nosome he8
    have h := he8; rw [m_laws_szStepS_L8] at h
    refine cw_seq ?_
    refine cw_seq ?_
    refine cw_region ?_
    refine wl_u rfl (ow_y (yh_move rfl rfl) rfl rfl (kk_wl ?_))
    refine wl_u rfl (ow_y (yh_move rfl rfl) rfl rfl (kk_wl ?_))
    refine wl_u rfl (ow_y (yh_lenS Tb rfl rfl rfl rfl) rfl rfl (kk_wl ?_))
    refine wl_u rfl (ow_y (yh_cmpI rfl rfl rfl rfl) rfl rfl (kk_wl ?_))
    refine wl_nil ?_
    refine ex_seq ?_
    refine cw_split rfl (fun cc2 => ?_) (fun cc2 => ?_)
    · skip
      replace h := bt cc2 h
      have q3 := ltb_true.1 cc2
      refine cw_skip ?_
      refine ex_seq ?_
      refine cw_seq ?_
      refine cw_block ?_
      refine cw_seq ?_
      refine cw_region ?_
      refine wl_u rfl (ow_y (yh_move rfl rfl) rfl rfl (kk_wl ?_))
      refine wl_u rfl (ow_y (yh_move rfl rfl) rfl rfl (kk_wl ?_))
      obtain ⟨y20, hy20, h⟩ := bd h
      obtain ⟨b20, o20, ha20⟩ := sl_addr h_a hy20
      subst ha20
      obtain ⟨a20, e20, hc20, hf20⟩ := get_step h_a hy20
      have mx20 := rd_max hf20
      refine wl_u rfl (ow_y (yh_idx Tb (k := s5) rfl rfl rfl rfl (get_lt hy20) rfl rfl) rfl rfl (kk_wl ?_))
      refine wl_u rfl (ow_y (yh_loadAN Tb rfl rfl rfl rfl hc20 rfl) rfl rfl (kk_wl ?_))
      refine wl_u rfl (ow_y (yh_move rfl rfl) rfl rfl (kk_wl ?_))
      obtain ⟨x23, hx23, h⟩ := bd h
      refine wl_u rfl (ow_cV rfl hb90 rfl (fun w hw => c_laws_szStep N _ _ _ hx23 w (Lay.at_ hf20 hw)) rfl rfl (kk_wl ?_))
      refine wl_u rfl (ow_y (yh_assign rfl rfl) rfl rfl (kk_wl ?_))
      refine wl_nil ?_
      refine ex_seq ?_
      refine cw_seq ?_
      refine cw_region ?_
      refine wl_u rfl (ow_y (yh_move rfl rfl) rfl rfl (kk_wl ?_))
      refine wl_u rfl (ow_y (yh_cmpI rfl rfl rfl rfl) rfl rfl (kk_wl ?_))
      refine wl_nil ?_
      refine ex_seq ?_
      refine cw_split rfl (fun cc3 => ?_) (fun cc3 => ?_)
      · skip
        replace h := bt cc3 h
        have q4 := ltb_true.1 cc3
        refine cw_seq ?_
        refine cw_region ?_
        refine wl_u rfl (ow_y (yh_assign rfl rfl) rfl rfl (kk_wl ?_))
        refine wl_nil ?_
        refine ex_seq ?_
        refine cw_ret ?_
        refine ex_block_ret ?_
        refine ex_then_ret ?_
        refine ex_then_ret ?_
        refine ex_block_ret ?_
        refine ex_then_ret ?_
        obtain rfl := Option.some.inj h
        obtain rfl := go_ret hk8
        exact ex_r1 Tb rfl (.tmp rfl) (fun wq hq => ⟨_, rfl, hq.ext, rfl⟩)
      · skip
        replace h := bf cc3 h
        have q5 := ltb_false.1 cc3
        refine cw_skip ?_
        refine ex_block_normal ?_
        refine ex_seq ?_
        refine cw_region ?_
        refine wl_u rfl (ow_y (yh_move rfl rfl) rfl rfl (kk_wl ?_))
        refine wl_u rfl (ow_y (yh_arI rfl rfl rfl rfl (by omega)) rfl rfl (kk_wl ?_))
        refine wl_u rfl (ow_y (yh_assign rfl rfl) rfl rfl (kk_wl ?_))
        refine wl_nil ?_
        exact ex_next [] (hn8 (n8, x23, s5 + 1) (Nat.lt_succ_self _) h) ⟨rfl, rfl, rfl, trivial⟩ (by kernel_rfl)
    · skip
      replace h := bf cc2 h
      have q6 := ltb_false.1 cc2
      refine cw_exit ?_
      refine ex_then_exit ?_
      refine ex_then_exit ?_
      obtain rfl := Option.some.inj h
      have h := go_brk hk8
      refine ex_block_exit ?_
      refine ex_seq ?_
      refine cw_seq ?_
      refine cw_region ?_
      refine wl_u rfl (ow_y (yh_move rfl rfl) rfl rfl (kk_wl ?_))
      refine wl_u rfl (ow_y (yh_assign rfl rfl) rfl rfl (kk_wl ?_))
      refine wl_nil ?_
      refine ex_seq ?_
      refine cw_ret ?_
      obtain rfl := Option.some.inj h
      exact ex_r1 Tb rfl (.tmp rfl) (fun wq hq => ⟨_, rfl, hq.ext, rfl⟩)

def m_laws_szFlow (N : Nat) (a : Flow) (left : Int) : Option (Int) := (m_laws_szStepS N a.steps left).bind fun x8 => (bif ltb x8 0 then some (-1)
 else some x8)

set_option maxHeartbeats 4000000 in
theorem c_laws_szFlow (N : Nat) (a : Flow) (left : Int) (res : Int) (h : m_laws_szFlow N a left = some res) (w : World) {a_a_steps : Option Addr} {c_a_steps : Nat} (h_a_steps : stepsL.rd w [] [.slice a_a_steps a.steps.length c_a_steps] a.steps) : Ret Tryz.prog 13 [.agg #[.int .i64 a.ver, .slice a_a_steps a.steps.length c_a_steps], .int .i64 left] w [] fun v w' => v = .int .i64 res := by
  have mh_a_steps := rd_max h_a_steps
  unfold m_laws_szFlow at h
  refine ret_enter Tryz.func13 rfl Tryz.ntmps13 rfl (Hp.refl w _) ?_
  refine cw_seq ?_
  refine cw_region ?_
  refine wl_u rfl (ow_boxA rfl rfl rfl rfl (fun g2 => kk_wl ?_))
  refine wl_u rfl (ow_y (yh_assign rfl rfl) rfl rfl (kk_wl ?_))
  refine wl_nil ?_
  refine ex_seq ?_
  refine cw_seq ?_
  refine cw_region ?_
  refine wl_u rfl (ow_y (yh_field Tb rfl rfl rfl) rfl rfl (kk_wl ?_))
  refine wl_u rfl (ow_y (yh_loadB Tb (k := 0) rfl rfl rfl rfl rfl) rfl rfl (kk_wl ?_))
  refine wl_u rfl (ow_y (yh_move rfl rfl) rfl rfl (kk_wl ?_))
  obtain ⟨x8, hx8, h⟩ := bd h
  refine wl_u rfl (ow_cV rfl hb51 rfl (fun w hw => c_laws_szStepS N _ _ _ hx8 w (Lay.at_ h_a_steps hw)) rfl rfl (kk_wl ?_))
  refine wl_u rfl (ow_y (yh_assign rfl rfl) rfl rfl (kk_wl ?_))
  refine wl_nil ?_
  refine ex_seq ?_
  refine cw_seq ?_
  refine cw_seq ?_
  refine cw_region ?_
  refine wl_u rfl (ow_y (yh_move rfl rfl) rfl rfl (kk_wl ?_))
  refine wl_u rfl (ow_y (yh_cmpI rfl rfl rfl rfl) rfl rfl (kk_wl ?_))
  refine wl_nil ?_
  refine ex_seq ?_
  refine cw_split rfl (fun cc1 => ?_) (fun cc1 => ?_)
  · skip
    replace h := bt cc1 h
    have q1 := ltb_true.1 cc1
    refine cw_seq ?_
    refine cw_region ?_
    refine wl_u rfl (ow_y (yh_assign rfl rfl) rfl rfl (kk_wl ?_))
    refine wl_nil ?_
    refine ex_seq ?_
    refine cw_ret ?_
    refine ex_then_ret ?_
    obtain rfl := Option.some.inj h
    exact ex_r1 Tb rfl (.tmp rfl) (fun wq hq => ⟨_, rfl, hq.ext, rfl⟩)
  · skip
    replace h := bf cc1 h
    have q2 := ltb_false.1 cc1
    refine cw_skip ?_
    refine ex_seq ?_
    refine cw_seq ?_
    refine cw_region ?_
    refine wl_u rfl (ow_y (yh_move rfl rfl) rfl rfl (kk_wl ?_))
    refine wl_u rfl (ow_y (yh_assign rfl rfl) rfl rfl (kk_wl ?_))
    refine wl_nil ?_
    refine ex_seq ?_
    refine cw_ret ?_
    obtain rfl := Option.some.inj h
    exact ex_r1 Tb rfl (.tmp rfl) (fun wq hq => ⟨_, rfl, hq.ext, rfl⟩)

def m_laws_szChange (N : Nat) (a : Change) (left : Int) : Option (Int) := (m_laws_szStep N a.step left).bind fun x8 => (bif ltb x8 0 then some (-1)
 else some x8)

set_option maxHeartbeats 4000000 in
theorem c_laws_szChange (N : Nat) (a : Change) (left : Int) (res : Int) (h : m_laws_szChange N a left = some res) (w : World) {a_a_step_after : Option Addr} {c_a_step_after : Nat} (h_a_step_after : strsL.rd w [] [.slice a_a_step_after a.step.after.length c_a_step_after] a.step.after) : Ret Tryz.prog 52 [.agg #[.int .i64 a.kind, .string a.step.name, .slice a_a_step_after a.step.after.length c_a_step_after, .bool a.step.undo], .int .i64 left] w [] fun v w' => v = .int .i64 res := by
  have mh_a_step_after := rd_max h_a_step_after
  unfold m_laws_szChange at h
  refine ret_enter Tryz.func52 rfl Tryz.ntmps52 rfl (Hp.refl w _) ?_
  refine cw_seq ?_
  refine cw_region ?_
  refine wl_u rfl (ow_boxA rfl rfl rfl rfl (fun g2 => kk_wl ?_))
  refine wl_u rfl (ow_y (yh_assign rfl rfl) rfl rfl (kk_wl ?_))
  refine wl_nil ?_
  refine ex_seq ?_
  refine cw_seq ?_
  refine cw_region ?_
  refine wl_u rfl (ow_y (yh_field Tb rfl rfl rfl) rfl rfl (kk_wl ?_))
  refine wl_u rfl (ow_y (yh_loadBN Tb (k := 0) rfl rfl rfl rfl rfl rfl rfl) rfl rfl (kk_wl ?_))
  refine wl_u rfl (ow_y (yh_move rfl rfl) rfl rfl (kk_wl ?_))
  obtain ⟨x8, hx8, h⟩ := bd h
  refine wl_u rfl (ow_cV rfl hb90 rfl (fun w hw => c_laws_szStep N _ _ _ hx8 w (Lay.at_ h_a_step_after hw)) rfl rfl (kk_wl ?_))
  refine wl_u rfl (ow_y (yh_assign rfl rfl) rfl rfl (kk_wl ?_))
  refine wl_nil ?_
  refine ex_seq ?_
  refine cw_seq ?_
  refine cw_seq ?_
  refine cw_region ?_
  refine wl_u rfl (ow_y (yh_move rfl rfl) rfl rfl (kk_wl ?_))
  refine wl_u rfl (ow_y (yh_cmpI rfl rfl rfl rfl) rfl rfl (kk_wl ?_))
  refine wl_nil ?_
  refine ex_seq ?_
  refine cw_split rfl (fun cc1 => ?_) (fun cc1 => ?_)
  · skip
    replace h := bt cc1 h
    have q1 := ltb_true.1 cc1
    refine cw_seq ?_
    refine cw_region ?_
    refine wl_u rfl (ow_y (yh_assign rfl rfl) rfl rfl (kk_wl ?_))
    refine wl_nil ?_
    refine ex_seq ?_
    refine cw_ret ?_
    refine ex_then_ret ?_
    obtain rfl := Option.some.inj h
    exact ex_r1 Tb rfl (.tmp rfl) (fun wq hq => ⟨_, rfl, hq.ext, rfl⟩)
  · skip
    replace h := bf cc1 h
    have q2 := ltb_false.1 cc1
    refine cw_skip ?_
    refine ex_seq ?_
    refine cw_seq ?_
    refine cw_region ?_
    refine wl_u rfl (ow_y (yh_move rfl rfl) rfl rfl (kk_wl ?_))
    refine wl_u rfl (ow_y (yh_assign rfl rfl) rfl rfl (kk_wl ?_))
    refine wl_nil ?_
    refine ex_seq ?_
    refine cw_ret ?_
    obtain rfl := Option.some.inj h
    exact ex_r1 Tb rfl (.tmp rfl) (fun wq hq => ⟨_, rfl, hq.ext, rfl⟩)

def m_laws_szChangeS_L8 (N : Nat) (a : List Change) : Nat → Int → Nat → Option (Ex (Int × Nat) (Int))
  | 0, _, _ => none
  | n + 1, s1, s5 => (bif ltb ((s5 : Nat) : Int) ((a.length : Nat) : Int) then (a[s5]?).bind fun y20 => (m_laws_szChange N y20 s1).bind fun x23 => (bif ltb x23 0 then some (Ex.ret (-1))
 else m_laws_szChangeS_L8 N a n x23 (s5 + 1))
 else some (Ex.brk (s1, s5)))

def m_laws_szChangeS (N : Nat) (a : List Change) (left : Int) : Option (Int) := (bif ltb (w64 (left - ((a.length : Nat) : Int))) 0 then some (-1)
 else (m_laws_szChangeS_L8 N a N (w64 (left - ((a.length : Nat) : Int))) 0).bind fun e8 => e8.go (fun r => r) fun b8 => some b8.1)

set_option maxHeartbeats 4000000 in
theorem c_laws_szChangeS (N : Nat) (a : List Change) (left : Int) (res : Int) (h : m_laws_szChangeS N a left = some res) (w : World) {a_a : Option Addr} {c_a : Nat} (h_a : changesL.rd w [] [.slice a_a a.length c_a] a) : Ret Tryz.prog 14 [.slice a_a a.length c_a, .int .i64 left] w [] fun v w' => v = .int .i64 res := by
  have mh_a := rd_max h_a
  unfold m_laws_szChangeS at h
  refine ret_enter Tryz.func14 rfl Tryz.ntmps14 rfl (Hp.refl w _) ?_
  refine cw_seq ?_
  refine cw_region ?_
  refine wl_u rfl (ow_y (yh_assign rfl rfl) rfl rfl (kk_wl ?_))
  refine wl_nil ?_
  refine ex_seq ?_
  refine cw_seq ?_
  refine cw_region ?_
  refine wl_u rfl (ow_y (yh_move rfl rfl) rfl rfl (kk_wl ?_))
  refine wl_u rfl (ow_y (yh_move rfl rfl) rfl rfl (kk_wl ?_))
  refine wl_u rfl (ow_y (yh_lenS Tb rfl rfl rfl rfl) rfl rfl (kk_wl ?_))
  refine wl_u rfl (ow_y (yh_arW rfl rfl rfl rfl) rfl rfl (kk_wl ?_))
  refine wl_u rfl (ow_y (yh_assign rfl rfl) rfl rfl (kk_wl ?_))
  refine wl_nil ?_
  refine ex_seq ?_
  refine cw_seq ?_
  refine cw_seq ?_
  refine cw_region ?_
  refine wl_u rfl (ow_y (yh_move rfl rfl) rfl rfl (kk_wl ?_))
  refine wl_u rfl (ow_y (yh_cmpI rfl rfl rfl rfl) rfl rfl (kk_wl ?_))
  refine wl_nil ?_
  refine ex_seq ?_
  refine cw_split rfl (fun cc1 => ?_) (fun cc1 => ?_)
  · skip
    replace h := bt cc1 h
    have q1 := ltb_true.1 cc1
    refine cw_seq ?_
    refine cw_region ?_
    refine wl_u rfl (ow_y (yh_assign rfl rfl) rfl rfl (kk_wl ?_))
    refine wl_nil ?_
    refine ex_seq ?_
    refine cw_ret ?_
    refine ex_then_ret ?_
    obtain rfl := Option.some.inj h
    exact ex_r1 Tb rfl (.tmp rfl) (fun wq hq => ⟨_, rfl, hq.ext, rfl⟩)
  · skip
    replace h := bf cc1 h
    have q2 := ltb_false.1 cc1
    refine cw_skip ?_
    refine ex_seq ?_
    refine cw_seq ?_
    refine cw_seq ?_
    refine cw_region ?_
    refine wl_u rfl (ow_y (yh_assign rfl rfl) rfl rfl (kk_wl ?_))
    refine wl_nil ?_
    refine ex_seq ?_
    refine cw_block ?_
    obtain ⟨e8, he8, hk8⟩ := bd h
    clear h
    refine cw_loopG (σ := Nat × Int × Nat) (fun s => m_laws_szChangeS_L8 N a s.1 s.2.1 s.2.2 = some e8) (fun s => [(0, .slice a_a a.length c_a), (1, .int .i64 s.2.1), (5, .int .i64 ((s.2.2 : Nat) : Int))]) (fun s => []) (fun s => s.1) (N, w64 (left - ((a.length : Nat) : Int)), 0) [] he8 ⟨rfl, rfl, rfl, trivial⟩ rfl (fun KL s he8 hn8 => ?_)
    obtain ⟨n8, s1, s5⟩ := s
    simp only at he8 hn8 ⊢
    rcases n8 with _ | n8
    · exact nosome he8
    have h := he8; rw [m_laws_szChangeS_L8] at h
    refine cw_seq ?_
    refine cw_seq ?_
    refine cw_region ?_
    refine wl_u rfl (ow_y (yh_move rfl rfl) rfl rfl (kk_wl ?_))
    refine wl_u rfl (ow_y (yh_move rfl rfl) rfl rfl (kk_wl ?_))
    refine wl_u rfl (ow_y (yh_lenS Tb rfl rfl rfl rfl) rfl rfl (kk_wl ?_))
    refine wl_u rfl (ow_y (yh_cmpI rfl rfl rfl rfl) rfl rfl (kk_wl ?_))
    refine wl_nil ?_
    refine ex_seq ?_
    refine cw_split rfl (fun cc2 => ?_) (fun cc2 => ?_)
    · skip
      replace h := bt cc2 h
      have q3 := ltb_true.1 cc2
      refine cw_skip ?_
      refine ex_seq ?_
      refine cw_seq ?_
      refine cw_block ?_
      refine cw_seq ?_
      refine cw_region ?_
      refine wl_u rfl (ow_y (yh_move rfl rfl) rfl rfl (kk_wl ?_))
      refine wl_u rfl (ow_y (yh_move rfl rfl) rfl rfl (kk_wl ?_))
      obtain ⟨y20, hy20, h⟩ := bd h
      obtain ⟨b20, o20, ha20⟩ := sl_addr h_a hy20
      subst ha20
      obtain ⟨a20, e20, hc20, hf20⟩ := get_change h_a hy20
      have mx20 := rd_max hf20
      refine wl_u rfl (ow_y (yh_idx Tb (k := s5) rfl rfl rfl rfl (get_lt hy20) rfl rfl) rfl rfl (kk_wl ?_))
      refine wl_u rfl (ow_y (yh_loadAN Tb rfl rfl rfl rfl hc20 rfl) rfl rfl (kk_wl ?_))
      refine wl_u rfl (ow_y (yh_move rfl rfl) rfl rfl (kk_wl ?_))
      obtain ⟨x23, hx23, h⟩ := bd h
      refine wl_u rfl (ow_cV rfl hb52 rfl (fun w hw => c_laws_szChange N _ _ _ hx23 w (Lay.at_ hf20 hw)) rfl rfl (kk_wl ?_))
      refine wl_u rfl (ow_y (yh_assign rfl rfl) rfl rfl (kk_wl ?_))
      refine wl_nil ?_
      refine ex_seq ?_
      refine cw_seq ?_
      refine cw_region ?_
      refine wl_u rfl (ow_y (yh_move rfl rfl) rfl rfl (kk_wl ?_))
      refine wl_u rfl (ow_y (yh_cmpI rfl rfl rfl rfl) rfl rfl (kk_wl ?_))
      refine wl_nil ?_
      refine ex_seq ?_
      refine cw_split rfl (fun cc3 => ?_) (fun cc3 => ?_)
      · skip
        replace h := bt cc3 h
        have q4 := ltb_true.1 cc3
        refine cw_seq ?_
        refine cw_region ?_
        refine wl_u rfl (ow_y (yh_assign rfl rfl) rfl rfl (kk_wl ?_))
        refine wl_nil ?_
        refine ex_seq ?_
        refine cw_ret ?_
        refine ex_block_ret ?_
        refine ex_then_ret ?_
        refine ex_then_ret ?_
        refine ex_block_ret ?_
        refine ex_then_ret ?_
        obtain rfl := Option.some.inj h
        obtain rfl := go_ret hk8
        exact ex_r1 Tb rfl (.tmp rfl) (fun wq hq => ⟨_, rfl, hq.ext, rfl⟩)
      · skip
        replace h := bf cc3 h
        have q5 := ltb_false.1 cc3
        refine cw_skip ?_
        refine ex_block_normal ?_
        refine ex_seq ?_
        refine cw_region ?_
        refine wl_u rfl (ow_y (yh_move rfl rfl) rfl rfl (kk_wl ?_))
        refine wl_u rfl (ow_y (yh_arI rfl rfl rfl rfl (by omega)) rfl rfl (kk_wl ?_))
        refine wl_u rfl (ow_y (yh_assign rfl rfl) rfl rfl (kk_wl ?_))
        refine wl_nil ?_
        exact ex_next [] (hn8 (n8, x23, s5 + 1) (Nat.lt_succ_self _) h) ⟨rfl, rfl, rfl, trivial⟩ (by kernel_rfl)
    · skip
      replace h := bf cc2 h
      have q6 := ltb_false.1 cc2
      refine cw_exit ?_
      refine ex_then_exit ?_
      refine ex_then_exit ?_
      obtain rfl := Option.some.inj h
      have h := go_brk hk8
      refine ex_block_exit ?_
      refine ex_seq ?_
      refine cw_seq ?_
      refine cw_region ?_
      refine wl_u rfl (ow_y (yh_move rfl rfl) rfl rfl (kk_wl ?_))
      refine wl_u rfl (ow_y (yh_assign rfl rfl) rfl rfl (kk_wl ?_))
      refine wl_nil ?_
      refine ex_seq ?_
      refine cw_ret ?_
      obtain rfl := Option.some.inj h
      exact ex_r1 Tb rfl (.tmp rfl) (fun wq hq => ⟨_, rfl, hq.ext, rfl⟩)

def m_laws_toStringS_L5 (N : Nat) (a : List Str) : Nat → (List Str) → Nat → Option (Ex (List Str × Nat) (List Str))
  | 0, _, _ => none
  | n + 1, s3, s4 => (bif ltb ((s4 : Nat) : Int) ((a.length : Nat) : Int) then (a[s4]?).bind fun y18 => (s3[s4]?).bind fun y20 => m_laws_toStringS_L5 N a n (s3.set s4 y18) (s4 + 1)
 else some (Ex.brk (s3, s4)))

def m_laws_toStringS (N : Nat) (a : List Str) : Option (List Str) := (mkl a.length (⟨#[]⟩ : Str)).bind fun l7 => (m_laws_toStringS_L5 N a N (List.replicate a.length (⟨#[]⟩ : Str)) 0).bind fun e5 => e5.go (fun r => r) fun b5 => some b5.1

set_option maxHeartbeats 4000000 in
theorem c_laws_toStringS (N : Nat) (a : List Str) (res : List Str) (h : m_laws_toStringS N a = some res) (w : World) {a_a : Option Addr} {c_a : Nat} (h_a : strsL.rd w [] [.slice a_a a.length c_a] a) : Ret Tryz.prog 118 [.slice a_a a.length c_a] w [] fun v w' => ∃ a1 c1 F1, v = .slice a1 res.length c1 ∧ NewC w w' [owC strsL F1 [.slice a1 res.length c1] res] := by
  have mh_a := rd_max h_a
  unfold m_laws_toStringS at h
  refine ret_enter Tryz.func118 rfl Tryz.ntmps118 rfl (Hp.refl w _) ?_
  refine cw_seq ?_
  refine cw_region ?_
  refine wl_u rfl (ow_y (yh_assign rfl rfl) rfl rfl (kk_wl ?_))
  refine wl_nil ?_
  refine ex_seq ?_
  refine cw_seq ?_
  refine cw_region ?_
  refine wl_u rfl (ow_y (yh_move rfl rfl) rfl rfl (kk_wl ?_))
  refine wl_u rfl (ow_y (yh_lenS Tb rfl rfl rfl rfl) rfl rfl (kk_wl ?_))
  obtain ⟨hll7, h⟩ := bd_mkl h
  refine wl_u rfl (ow_makeK Tb (A := layS) (n := a.length) (z0 := (⟨#[]⟩ : Str)) rfl rfl rfl rfl rfl rfl rfl rfl rfl (fun w => ⟨rfl, rfl⟩) hll7 rfl rfl rfl (fun g7 => kk_wl ?_))
  refine wl_u rfl (ow_y (yh_assign rfl rfl) rfl rfl (kk_wl ?_))
  refine wl_nil ?_
  refine ex_seq ?_
  refine cw_seq ?_
  refine cw_seq ?_
  refine cw_region ?_
  refine wl_u rfl (ow_y (yh_assign rfl rfl) rfl rfl (kk_wl ?_))
  refine wl_nil ?_
  refine ex_seq ?_
  refine cw_block ?_
  obtain ⟨e5, he5, hk5⟩ := bd h
  clear h
  refine cw_loopG (σ := Nat × (List Str) × Nat × (List Nat)) (fun s => m_laws_toStringS_L5 N a s.1 s.2.1 s.2.2.1 = some e5) (fun s => [(0, .slice a_a a.length c_a), (3, .slice (some ⟨g7, 0, none⟩) a.length a.length), (4, .int .i64 ((s.2.2.1 : Nat) : Int))]) (fun s => [owC strsL s.2.2.2 [.slice (some ⟨g7, 0, none⟩) a.length a.length] s.2.1]) (fun s => s.1) (N, (List.replicate a.length (⟨#[]⟩ : Str)), 0, [g7]) [0] he5 ⟨rfl, rfl, rfl, trivial⟩ rfl (fun KL s he5 hn5 => ?_)
  obtain ⟨n5, s3, s4, Fs3⟩ := s
  simp only at he5 hn5 ⊢
  rcases n5 with _ | n5
  · exact nosome he5
  have h := he5; rw [m_laws_toStringS_L5] at h
  refine cw_seq ?_
  refine cw_seq ?_
  refine cw_region ?_
  refine wl_u rfl (ow_y (yh_move rfl rfl) rfl rfl (kk_wl ?_))
  refine wl_u rfl (ow_y (yh_move rfl rfl) rfl rfl (kk_wl ?_))
  refine wl_u rfl (ow_y (yh_lenS Tb rfl rfl rfl rfl) rfl rfl (kk_wl ?_))
  refine wl_u rfl (ow_y (yh_cmpI rfl rfl rfl rfl) rfl rfl (kk_wl ?_))
  refine wl_nil ?_
  refine ex_seq ?_
  refine cw_split rfl (fun cc1 => ?_) (fun cc1 => ?_)
  · skip
    replace h := bt cc1 h
    have q1 := ltb_true.1 cc1
    refine cw_skip ?_
    refine ex_seq ?_
    refine cw_seq ?_
    refine cw_block ?_
    refine cw_region ?_
    refine wl_u rfl (ow_y (yh_move rfl rfl) rfl rfl (kk_wl ?_))
    refine wl_u rfl (ow_y (yh_move rfl rfl) rfl rfl (kk_wl ?_))
    refine wl_u rfl (ow_y (yh_move rfl rfl) rfl rfl (kk_wl ?_))
    refine wl_u rfl (ow_y (yh_move rfl rfl) rfl rfl (kk_wl ?_))
    obtain ⟨y18, hy18, h⟩ := bd h
    obtain ⟨b18, o18, ha18⟩ := sl_addr h_a hy18
    subst ha18
    have hc18 := get_str h_a hy18
    refine wl_u rfl (ow_y (yh_idx Tb (k := s4) rfl rfl rfl rfl (get_lt hy18) rfl rfl) rfl rfl (kk_wl ?_))
    refine wl_u rfl (ow_y (yh_loadA0 Tb rfl rfl rfl hc18 rfl) rfl rfl (kk_wl ?_))
    obtain ⟨y20, hy20, h⟩ := bd h
    refine wl_know (a.length = s3.length) (fun w hw => own_lenK 0 rfl hw) (fun hn20 => ?_)
    refine wl_u rfl (ow_y (yh_idx Tb (k := s4) rfl rfl rfl rfl (Nat.lt_of_lt_of_eq (get_lt hy20) hn20.symm) rfl rfl) rfl rfl (kk_wl ?_))
    refine wl_u rfl (ow_setP Tb (u := y18) 0 rfl rfl rfl rfl rfl (get_lt hy20) rfl rfl (fun Fs14 => kk_wl ?_))
    refine wl_nil ?_
    refine ex_block_normal ?_
    refine ex_seq ?_
    refine cw_region ?_
    refine wl_u rfl (ow_y (yh_move rfl rfl) rfl rfl (kk_wl ?_))
    refine wl_u rfl (ow_y (yh_arI rfl rfl rfl rfl (by omega)) rfl rfl (kk_wl ?_))
    refine wl_u rfl (ow_y (yh_assign rfl rfl) rfl rfl (kk_wl ?_))
    refine wl_nil ?_
    exact ex_next [0] (hn5 (n5, (s3.set s4 y18), s4 + 1, Fs14) (Nat.lt_succ_self _) h) ⟨rfl, rfl, rfl, trivial⟩ (by kernel_rfl)
  · skip
    replace h := bf cc1 h
    have q2 := ltb_false.1 cc1
    refine cw_exit ?_
    refine ex_then_exit ?_
    refine ex_then_exit ?_
    obtain rfl := Option.some.inj h
    have h := go_brk hk5
    refine ex_block_exit ?_
    refine ex_seq ?_
    refine cw_seq ?_
    refine cw_region ?_
    refine wl_u rfl (ow_y (yh_move rfl rfl) rfl rfl (kk_wl ?_))
    refine wl_u rfl (ow_y (yh_assign rfl rfl) rfl rfl (kk_wl ?_))
    refine wl_nil ?_
    refine ex_seq ?_
    refine cw_ret ?_
    refine ex_know (a.length = s3.length) (fun w hw => own_lenK 0 rfl hw) (fun hn0_ => ?_)
    obtain rfl := Option.some.inj h
    exact ex_r1 Tb rfl (.tmp rfl) (fun wq hq => ⟨_, rfl, hq.ext, ⟨(some ⟨g7, 0, none⟩), a.length, Fs3, (by simp only [hn0_]), (by simp only [← hn0_]; exact NewC.sel [0] hq rfl)⟩⟩)

def m_laws_toStep (N : Nat) (a : Step) : Option (Step) := (m_laws_toStringS N a.after).bind fun x9 => some (Step.mk a.name x9 a.undo)

set_option maxHeartbeats 4000000 in
theorem c_laws_toStep (N : Nat) (a : Step) (res : Step) (h : m_laws_toStep N a = some res) (w : World) {a_a_after : Option Addr} {c_a_after : Nat} (h_a_after : strsL.rd w [] [.slice a_a_after a.after.length c_a_after] a.after) : Ret Tryz.prog 92 [.agg #[.string a.name, .slice a_a_after a.after.length c_a_after, .bool a.undo]] w [] fun v w' => ∃ a1 c1 F1, v = .agg #[.string res.name, .slice a1 res.after.length c1, .bool res.undo] ∧ NewC w w' [owC strsL F1 [.slice a1 res.after.length c1] res.after] := by
  have mh_a_after := rd_max h_a_after
  unfold m_laws_toStep at h
  refine ret_enter Tryz.func92 rfl Tryz.ntmps92 rfl (Hp.refl w _) ?_
  refine cw_seq ?_
  refine cw_region ?_
  refine wl_u rfl (ow_boxA rfl rfl rfl rfl (fun g1 => kk_wl ?_))
  refine wl_u rfl (ow_allocA Tb rfl rfl rfl rfl (fun g2 => kk_wl ?_))
  refine wl_nil ?_
  refine ex_seq ?_
  refine cw_seq ?_
  refine cw_region ?_
  refine wl_u rfl (ow_allocA Tb rfl rfl rfl rfl (fun g3 => kk_wl ?_))
  refine wl_nil ?_
  refine ex_seq ?_
  refine cw_seq ?_
  refine cw_region ?_
  refine wl_u rfl (ow_y (yh_field Tb rfl rfl rfl) rfl rfl (kk_wl ?_))
  refine wl_u rfl (ow_y (yh_loadB Tb (k := 2) rfl rfl rfl rfl rfl) rfl rfl (kk_wl ?_))
  refine wl_u rfl (ow_y (yh_field Tb rfl rfl rfl) rfl rfl (kk_wl ?_))
  refine wl_u rfl (ow_store1 Tb (k := 0) rfl rfl rfl rfl rfl rfl rfl rfl rfl (kk_wl ?_))
  refine wl_nil ?_
  refine ex_seq ?_
  refine cw_seq ?_
  refine cw_region ?_
  refine wl_u rfl (ow_y (yh_field Tb rfl rfl rfl) rfl rfl (kk_wl ?_))
  refine wl_u rfl (ow_y (yh_loadB Tb (k := 2) rfl rfl rfl rfl rfl) rfl rfl (kk_wl ?_))
  obtain ⟨x9, hx9, h⟩ := bd h
  refine wl_u rfl (ow_cN1 rfl hb118 rfl (fun w hw => c_laws_toStringS N _ _ hx9 w (Lay.at_ h_a_after hw)) rfl rfl (fun a9 c9 F9 => kk_wl ?_))
  refine wl_u rfl (ow_y (yh_field Tb rfl rfl rfl) rfl rfl (kk_wl ?_))
  refine wl_u rfl (ow_store1 Tb (k := 1) rfl rfl rfl rfl rfl rfl rfl rfl rfl (kk_wl ?_))
  refine wl_nil ?_
  refine ex_seq ?_
  refine cw_seq ?_
  refine cw_region ?_
  refine wl_u rfl (ow_y (yh_field Tb rfl rfl rfl) rfl rfl (kk_wl ?_))
  refine wl_u rfl (ow_y (yh_loadB Tb (k := 3) rfl rfl rfl rfl rfl) rfl rfl (kk_wl ?_))
  refine wl_u rfl (ow_y (yh_field Tb rfl rfl rfl) rfl rfl (kk_wl ?_))
  refine wl_u rfl (ow_store1 Tb (k := 0) rfl rfl rfl rfl rfl rfl rfl rfl rfl (kk_wl ?_))
  refine wl_nil ?_
  refine ex_seq ?_
  refine cw_seq ?_
  refine cw_region ?_
  refine wl_u rfl (ow_y (yh_loadBA Tb (k := 0) rfl rfl rfl rfl rfl rfl) rfl rfl (kk_wl ?_))
  refine wl_u rfl (ow_storeA Tb (k := 2) rfl rfl rfl rfl rfl rfl rfl rfl rfl (kk_wl ?_))
  refine wl_nil ?_
  refine ex_seq ?_
  refine cw_ret ?_
  obtain rfl := Option.some.inj h
  exact ex_r1 Tb rfl (.cellA 0 rfl rfl rfl rfl rfl) (fun wq hq => ⟨_, rfl, hq.ext, ⟨a9, c9, F9, rfl, NewC.sel [2] hq rfl⟩⟩)

def m_laws_toStepS_L5 (N : Nat) (a : List Step) : Nat → (List Step) → Nat → Option (Ex (List Step × Nat) (List Step))
  | 0, _, _ => none
  | n + 1, s3, s4 => (bif ltb ((s4 : Nat) : Int) ((a.length : Nat) : Int) then (a[s4]?).bind fun y18 => (m_laws_toStep N y18).bind fun x20 => (s3[s4]?).bind fun y21 => m_laws_toStepS_L5 N a n (s3.set s4 x20) (s4 + 1)
 else some (Ex.brk (s3, s4)))

def m_laws_toStepS (N : Nat) (a : List Step) : Option (List Step) := (mkl a.length (Step.mk (⟨#[]⟩ : Str) ([] : List Str) false)).bind fun l7 => (m_laws_toStepS_L5 N a N (List.replicate a.length (Step.mk (⟨#[]⟩ : Str) ([] : List Str) false)) 0).bind fun e5 => e5.go (fun r => r) fun b5 => some b5.1

set_option maxHeartbeats 4000000 in
theorem c_laws_toStepS (N : Nat) (a : List Step) (res : List Step) (h : m_laws_toStepS N a = some res) (w : World) {a_a : Option Addr} {c_a : Nat} (h_a : stepsL.rd w [] [.slice a_a a.length c_a] a) : Ret Tryz.prog 55 [.slice a_a a.length c_a] w [] fun v w' => ∃ a1 c1 F1, v = .slice a1 res.length c1 ∧ NewC w w' [owC stepsL F1 [.slice a1 res.length c1] res] := by
  have mh_a := rd_max h_a
  unfold m_laws_toStepS at h
  refine ret_enter Tryz.func55 rfl Tryz.ntmps55 rfl (Hp.refl w _) ?_
  refine cw_seq ?_
  refine cw_region ?_
  refine wl_u rfl (ow_y (yh_assign rfl rfl) rfl rfl (kk_wl ?_))
  refine wl_nil ?_
  refine ex_seq ?_
  refine cw_seq ?_
  refine cw_region ?_
  refine wl_u rfl (ow_y (yh_move rfl rfl) rfl rfl (kk_wl ?_))
  refine wl_u rfl (ow_y (yh_lenS Tb rfl rfl rfl rfl) rfl rfl (kk_wl ?_))
  obtain ⟨hll7, h⟩ := bd_mkl h
  refine wl_u rfl (ow_makeK Tb (A := stepL) (n := a.length) (z0 := (Step.mk (⟨#[]⟩ : Str) ([] : List Str) false)) rfl rfl rfl rfl rfl rfl rfl rfl rfl (fun w => z_step w) hll7 rfl rfl rfl (fun g7 => kk_wl ?_))
  refine wl_u rfl (ow_y (yh_assign rfl rfl) rfl rfl (kk_wl ?_))
  refine wl_nil ?_
  refine ex_seq ?_
  refine cw_seq ?_
  refine cw_seq ?_
  refine cw_region ?_
  refine wl_u rfl (ow_y (yh_assign rfl rfl) rfl rfl (kk_wl ?_))
  refine wl_nil ?_
  refine ex_seq ?_
  refine cw_block ?_
  obtain ⟨e5, he5, hk5⟩ := bd h
  clear h
  refine cw_loopG (σ := Nat × (List Step) × Nat × (List Nat)) (fun s => m_laws_toStepS_L5 N a s.1 s.2.1 s.2.2.1 = some e5) (fun s => [(0, .slice a_a a.length c_a), (3, .slice (some ⟨g7, 0, none⟩) a.length a.length), (4, .int .i64 ((s.2.2.1 : Nat) : Int))]) (fun s => [owC stepsL s.2.2.2 [.slice (some ⟨g7, 0, none⟩) a.length a.length] s.2.1]) (fun s => s.1) (N, (List.replicate a.length (Step.mk (⟨#[]⟩ : Str) ([] : List Str) false)), 0, [g7]) [0] he5 ⟨rfl, rfl, rfl, trivial⟩ rfl (fun KL s he5 hn5 => ?_)
  obtain ⟨n5, s3, s4, Fs3⟩ := s
  simp only at he5 hn5 ⊢
  rcases n5 with _ | n5
  · exact nosome he5
  have h := he5; rw [m_laws_toStepS_L5] at h
  refine cw_seq ?_
  refine cw_seq ?_
  refine cw_region ?_
  refine wl_u rfl (ow_y (yh_move rfl rfl) rfl rfl (kk_wl ?_))
  refine wl_u rfl (ow_y (yh_move rfl rfl) rfl rfl (kk_wl ?_))
  refine wl_u rfl (ow_y (yh_lenS Tb rfl rfl rfl rfl) rfl rfl (kk_wl ?_))
  refine wl_u rfl (ow_y (yh_cmpI rfl rfl rfl rfl) rfl rfl (kk_wl ?_))
  refine wl_nil ?_
  refine ex_seq ?_
  refine cw_split rfl (fun cc1 => ?_) (fun cc1 => ?_)
  · skip
    replace h := bt cc1 h
    have q1 := ltb_true.1 cc1
    refine cw_skip ?_
    refine ex_seq ?_
    refine cw_seq ?_
    refine cw_block ?_
    refine cw_region ?_
    refine wl_u rfl (ow_y (yh_move rfl rfl) rfl rfl (kk_wl ?_))
    refine wl_u rfl (ow_y (yh_move rfl rfl) rfl rfl (kk_wl ?_))
    refine wl_u rfl (ow_y (yh_move rfl rfl) rfl rfl (kk_wl ?_))
    refine wl_u rfl (ow_y (yh_move rfl rfl) rfl rfl (kk_wl ?_))
    obtain ⟨y18, hy18, h⟩ := bd h
    obtain ⟨b18, o18, ha18⟩ := sl_addr h_a hy18
    subst ha18
    obtain ⟨a18, e18, hc18, hf18⟩ := get_step h_a hy18
    have mx18 := rd_max hf18
    refine wl_u rfl (ow_y (yh_idx Tb (k := s4) rfl rfl rfl rfl (get_lt hy18) rfl rfl) rfl rfl (kk_wl ?_))
    refine wl_u rfl (ow_y (yh_loadAN Tb rfl rfl rfl rfl hc18 rfl) rfl rfl (kk_wl ?_))
    obtain ⟨x20, hx20, h⟩ := bd h
    refine wl_u rfl (ow_cN1 rfl hb92 rfl (fun w hw => c_laws_toStep N _ _ hx20 w (Lay.at_ hf18 hw)) rfl rfl (fun a20 c20 F20 => kk_wl ?_))
    obtain ⟨y21, hy21, h⟩ := bd h
    refine wl_know (a.length = s3.length) (fun w hw => own_lenK 1 rfl hw) (fun hn21 => ?_)
    refine wl_u rfl (ow_y (yh_idx Tb (k := s4) rfl rfl rfl rfl (Nat.lt_of_lt_of_eq (get_lt hy21) hn21.symm) rfl rfl) rfl rfl (kk_wl ?_))
    refine wl_u rfl (ow_setN Tb (u := x20) 1 0 rfl rfl rfl rfl rfl rfl (get_lt hy21) (fun w hA => stepL_mk x20 hA) rfl (fun Fs18 => kk_wl ?_))
    refine wl_nil ?_
    refine ex_block_normal ?_
    refine ex_seq ?_
    refine cw_region ?_
    refine wl_u rfl (ow_y (yh_move rfl rfl) rfl rfl (kk_wl ?_))
    refine wl_u rfl (ow_y (yh_arI rfl rfl rfl rfl (by omega)) rfl rfl (kk_wl ?_))
    refine wl_u rfl (ow_y (yh_assign rfl rfl) rfl rfl (kk_wl ?_))
    refine wl_nil ?_
    exact ex_next [0] (hn5 (n5, (s3.set s4 x20), s4 + 1, Fs18) (Nat.lt_succ_self _) h) ⟨rfl, rfl, rfl, trivial⟩ (by kernel_rfl)
  · skip
    replace h := bf cc1 h
    have q2 := ltb_false.1 cc1
    refine cw_exit ?_
    refine ex_then_exit ?_
    refine ex_then_exit ?_
    obtain rfl := Option.some.inj h
    have h := go_brk hk5
    refine ex_block_exit ?_
    refine ex_seq ?_
    refine cw_seq ?_
    refine cw_region ?_
    refine wl_u rfl (ow_y (yh_move rfl rfl) rfl rfl (kk_wl ?_))
    refine wl_u rfl (ow_y (yh_assign rfl rfl) rfl rfl (kk_wl ?_))
    refine wl_nil ?_
    refine ex_seq ?_
    refine cw_ret ?_
    refine ex_know (a.length = s3.length) (fun w hw => own_lenK 0 rfl hw) (fun hn0_ => ?_)
    obtain rfl := Option.some.inj h
    exact ex_r1 Tb rfl (.tmp rfl) (fun wq hq => ⟨_, rfl, hq.ext, ⟨(some ⟨g7, 0, none⟩), a.length, Fs3, (by simp only [hn0_]), (by simp only [← hn0_]; exact NewC.sel [0] hq rfl)⟩⟩)

def m_laws_toFlow (N : Nat) (a : Flow) : Option (Flow) := (m_laws_toStepS N a.steps).bind fun x9 => some (Flow.mk a.ver x9)

set_option maxHeartbeats 4000000 in
theorem c_laws_toFlow (N : Nat) (a : Flow) (res : Flow) (h : m_laws_toFlow N a = some res) (w : World) {a_a_steps : Option Addr} {c_a_steps : Nat} (h_a_steps : stepsL.rd w [] [.slice a_a_steps a.steps.length c_a_steps] a.steps) : Ret Tryz.prog 16 [.agg #[.int .i64 a.ver, .slice a_a_steps a.steps.length c_a_steps]] w [] fun v w' => ∃ a1 c1 F1, v = .agg #[.int .i64 res.ver, .slice a1 res.steps.length c1] ∧ NewC w w' [owC stepsL F1 [.slice a1 res.steps.length c1] res.steps] := by
  have mh_a_steps := rd_max h_a_steps
  unfold m_laws_toFlow at h
  refine ret_enter Tryz.func16 rfl Tryz.ntmps16 rfl (Hp.refl w _) ?_
  refine cw_seq ?_
  refine cw_region ?_
  refine wl_u rfl (ow_boxA rfl rfl rfl rfl (fun g1 => kk_wl ?_))
  refine wl_u rfl (ow_allocA Tb rfl rfl rfl rfl (fun g2 => kk_wl ?_))
  refine wl_nil ?_
  refine ex_seq ?_
  refine cw_seq ?_
  refine cw_region ?_
  refine wl_u rfl (ow_allocA Tb rfl rfl rfl rfl (fun g3 => kk_wl ?_))
  refine wl_nil ?_
  refine ex_seq ?_
  refine cw_seq ?_
  refine cw_region ?_
  refine wl_u rfl (ow_y (yh_field Tb rfl rfl rfl) rfl rfl (kk_wl ?_))
  refine wl_u rfl (ow_y (yh_loadB Tb (k := 2) rfl rfl rfl rfl rfl) rfl rfl (kk_wl ?_))
  refine wl_u rfl (ow_y (yh_field Tb rfl rfl rfl) rfl rfl (kk_wl ?_))
  refine wl_u rfl (ow_store1 Tb (k := 0) rfl rfl rfl rfl rfl rfl rfl rfl rfl (kk_wl ?_))
  refine wl_nil ?_
  refine ex_seq ?_
  refine cw_seq ?_
  refine cw_region ?_
  refine wl_u rfl (ow_y (yh_field Tb rfl rfl rfl) rfl rfl (kk_wl ?_))
  refine wl_u rfl (ow_y (yh_loadB Tb (k := 2) rfl rfl rfl rfl rfl) rfl rfl (kk_wl ?_))
  obtain ⟨x9, hx9, h⟩ := bd h
  refine wl_u rfl (ow_cN1 rfl hb55 rfl (fun w hw => c_laws_toStepS N _ _ hx9 w (Lay.at_ h_a_steps hw)) rfl rfl (fun a9 c9 F9 => kk_wl ?_))
  refine wl_u rfl (ow_y (yh_field Tb rfl rfl rfl) rfl rfl (kk_wl ?_))
  refine wl_u rfl (ow_store1 Tb (k := 1) rfl rfl rfl rfl rfl rfl rfl rfl rfl (kk_wl ?_))
  refine wl_nil ?_
  refine ex_seq ?_
  refine cw_seq ?_
  refine cw_region ?_
  refine wl_u rfl (ow_y (yh_loadBA Tb (k := 0) rfl rfl rfl rfl rfl rfl) rfl rfl (kk_wl ?_))
  refine wl_u rfl (ow_storeA Tb (k := 2) rfl rfl rfl rfl rfl rfl rfl rfl rfl (kk_wl ?_))
  refine wl_nil ?_
  refine ex_seq ?_
  refine cw_ret ?_
  obtain rfl := Option.some.inj h
  exact ex_r1 Tb rfl (.cellA 0 rfl rfl rfl rfl rfl) (fun wq hq => ⟨_, rfl, hq.ext, ⟨a9, c9, F9, rfl, NewC.sel [2] hq rfl⟩⟩)

def m_laws_toChange (N : Nat) (a : Change) : Option (Change) := (m_laws_toStep N a.step).bind fun x9 => some (Change.mk a.kind x9)

set_option maxHeartbeats 4000000 in
theorem c_laws_toChange (N : Nat) (a : Change) (res : Change) (h : m_laws_toChange N a = some res) (w : World) {a_a_step_after : Option Addr} {c_a_step_after : Nat} (h_a_step_after : strsL.rd w [] [.slice a_a_step_after a.step.after.length c_a_step_after] a.step.after) : Ret Tryz.prog 56 [.agg #[.int .i64 a.kind, .string a.step.name, .slice a_a_step_after a.step.after.length c_a_step_after, .bool a.step.undo]] w [] fun v w' => ∃ a1 c1 F1, v = .agg #[.int .i64 res.kind, .string res.step.name, .slice a1 res.step.after.length c1, .bool res.step.undo] ∧ NewC w w' [owC strsL F1 [.slice a1 res.step.after.length c1] res.step.after] := by
  have mh_a_step_after := rd_max h_a_step_after
  unfold m_laws_toChange at h
  refine ret_enter Tryz.func56 rfl Tryz.ntmps56 rfl (Hp.refl w _) ?_
  refine cw_seq ?_
  refine cw_region ?_
  refine wl_u rfl (ow_boxA rfl rfl rfl rfl (fun g1 => kk_wl ?_))
  refine wl_u rfl (ow_allocA Tb rfl rfl rfl rfl (fun g2 => kk_wl ?_))
  refine wl_nil ?_
  refine ex_seq ?_
  refine cw_seq ?_
  refine cw_region ?_
  refine wl_u rfl (ow_allocA Tb rfl rfl rfl rfl (fun g3 => kk_wl ?_))
  refine wl_nil ?_
  refine ex_seq ?_
  refine cw_seq ?_
  refine cw_region ?_
  refine wl_u rfl (ow_y (yh_field Tb rfl rfl rfl) rfl rfl (kk_wl ?_))
  refine wl_u rfl (ow_y (yh_loadB Tb (k := 2) rfl rfl rfl rfl rfl) rfl rfl (kk_wl ?_))
  refine wl_u rfl (ow_y (yh_field Tb rfl rfl rfl) rfl rfl (kk_wl ?_))
  refine wl_u rfl (ow_store1 Tb (k := 0) rfl rfl rfl rfl rfl rfl rfl rfl rfl (kk_wl ?_))
  refine wl_nil ?_
  refine ex_seq ?_
  refine cw_seq ?_
  refine cw_region ?_
  refine wl_u rfl (ow_y (yh_field Tb rfl rfl rfl) rfl rfl (kk_wl ?_))
  refine wl_u rfl (ow_y (yh_loadBN Tb (k := 2) rfl rfl rfl rfl rfl rfl rfl) rfl rfl (kk_wl ?_))
  obtain ⟨x9, hx9, h⟩ := bd h
  refine wl_u rfl (ow_cN1 rfl hb92 rfl (fun w hw => c_laws_toStep N _ _ hx9 w (Lay.at_ h_a_step_after hw)) rfl rfl (fun a9 c9 F9 => kk_wl ?_))
  refine wl_u rfl (ow_y (yh_field Tb rfl rfl rfl) rfl rfl (kk_wl ?_))
  refine wl_u rfl (ow_store Tb (k := 1) rfl rfl rfl rfl rfl rfl (Nat.le_of_ble_eq_true rfl) rfl rfl rfl (kk_wl ?_))
  refine wl_nil ?_
  refine ex_seq ?_
  refine cw_seq ?_
  refine cw_region ?_
  refine wl_u rfl (ow_y (yh_loadBA Tb (k := 0) rfl rfl rfl rfl rfl rfl) rfl rfl (kk_wl ?_))
  refine wl_u rfl (ow_storeA Tb (k := 2) rfl rfl rfl rfl rfl rfl rfl rfl rfl (kk_wl ?_))
  refine wl_nil ?_
  refine ex_seq ?_
  refine cw_ret ?_
  obtain rfl := Option.some.inj h
  exact ex_r1 Tb rfl (.cellA 0 rfl rfl rfl rfl rfl) (fun wq hq => ⟨_, rfl, hq.ext, ⟨a9, c9, F9, rfl, NewC.sel [2] hq rfl⟩⟩)

def m_laws_toChangeS_L5 (N : Nat) (a : List Change) : Nat → (List Change) → Nat → Option (Ex (List Change × Nat) (List Change))
  | 0, _, _ => none
  | n + 1, s3, s4 => (bif ltb ((s4 : Nat) : Int) ((a.length : Nat) : Int) then (a[s4]?).bind fun y18 => (m_laws_toChange N y18).bind fun x20 => (s3[s4]?).bind fun y21 => m_laws_toChangeS_L5 N a n (s3.set s4 x20) (s4 + 1)
 else some (Ex.brk (s3, s4)))

def m_laws_toChangeS (N : Nat) (a : List Change) : Option (List Change) := (mkl a.length (Change.mk 0 (Step.mk (⟨#[]⟩ : Str) ([] : List Str) false))).bind fun l7 => (m_laws_toChangeS_L5 N a N (List.replicate a.length (Change.mk 0 (Step.mk (⟨#[]⟩ : Str) ([] : List Str) false))) 0).bind fun e5 => e5.go (fun r => r) fun b5 => some b5.1

set_option maxHeartbeats 4000000 in
theorem c_laws_toChangeS (N : Nat) (a : List Change) (res : List Change) (h : m_laws_toChangeS N a = some res) (w : World) {a_a : Option Addr} {c_a : Nat} (h_a : changesL.rd w [] [.slice a_a a.length c_a] a) : Ret Tryz.prog 17 [.slice a_a a.length c_a] w [] fun v w' => ∃ a1 c1 F1, v = .slice a1 res.length c1 ∧ NewC w w' [owC changesL F1 [.slice a1 res.length c1] res] := by
  have mh_a := rd_max h_a
  unfold m_laws_toChangeS at h
  refine ret_enter Tryz.func17 rfl Tryz.ntmps17 rfl (Hp.refl w _) ?_
  refine cw_seq ?_
  refine cw_region ?_
  refine wl_u rfl (ow_y (yh_assign rfl rfl) rfl rfl (kk_wl ?_))
  refine wl_nil ?_
  refine ex_seq ?_
  refine cw_seq ?_
  refine cw_region ?_
  refine wl_u rfl (ow_y (yh_move rfl rfl) rfl rfl (kk_wl ?_))
  refine wl_u rfl (ow_y (yh_lenS Tb rfl rfl rfl rfl) rfl rfl (kk_wl ?_))
  obtain ⟨hll7, h⟩ := bd_mkl h
  refine wl_u rfl (ow_makeK Tb (A := changeL) (n := a.length) (z0 := (Change.mk 0 (Step.mk (⟨#[]⟩ : Str) ([] : List Str) false))) rfl rfl rfl rfl rfl rfl rfl rfl rfl (fun w => z_change w) hll7 rfl rfl rfl (fun g7 => kk_wl ?_))
  refine wl_u rfl (ow_y (yh_assign rfl rfl) rfl rfl (kk_wl ?_))
  refine wl_nil ?_
  refine ex_seq ?_
  refine cw_seq ?_
  refine cw_seq ?_
  refine cw_region ?_
  refine wl_u rfl (ow_y (yh_assign rfl rfl) rfl rfl (kk_wl ?_))
  refine wl_nil ?_
  refine ex_seq ?_
  refine cw_block ?_
  obtain ⟨e5, he5, hk5⟩ := bd h
  clear h
  refine cw_loopG (σ := Nat × (List Change) × Nat × (List Nat)) (fun s => m_laws_toChangeS_L5 N a s.1 s.2.1 s.2.2.1 = some e5) (fun s => [(0, .slice a_a a.length c_a), (3, .slice (some ⟨g7, 0, none⟩) a.length a.length), (4, .int .i64 ((s.2.2.1 : Nat) : Int))]) (fun s => [owC changesL s.2.2.2 [.slice (some ⟨g7, 0, none⟩) a.length a.length] s.2.1]) (fun s => s.1) (N, (List.replicate a.length (Change.mk 0 (Step.mk (⟨#[]⟩ : Str) ([] : List Str) false))), 0, [g7]) [0] he5 ⟨rfl, rfl, rfl, trivial⟩ rfl (fun KL s he5 hn5 => ?_)
  obtain ⟨n5, s3, s4, Fs3⟩ := s
  simp only at he5 hn5 ⊢
  rcases n5 with _ | n5
  · exact nosome he5
  have h := he5; rw [m_laws_toChangeS_L5] at h
  refine cw_seq ?_
  refine cw_seq ?_
  refine cw_region ?_
  refine wl_u rfl (ow_y (yh_move rfl rfl) rfl rfl (kk_wl ?_))
  refine wl_u rfl (ow_y (yh_move rfl rfl) rfl rfl (kk_wl ?_))
  refine wl_u rfl (ow_y (yh_lenS Tb rfl rfl rfl rfl) rfl rfl (kk_wl ?_))
  refine wl_u rfl (ow_y (yh_cmpI rfl rfl rfl rfl) rfl rfl (kk_wl ?_))
  refine wl_nil ?_
  refine ex_seq ?_
  refine cw_split rfl (fun cc1 => ?_) (fun cc1 => ?_)
  · skip
    replace h := bt cc1 h
    have q1 := ltb_true.1 cc1
    refine cw_skip ?_
    refine ex_seq ?_
    refine cw_seq ?_
    refine cw_block ?_
    refine cw_region ?_
    refine wl_u rfl (ow_y (yh_move rfl rfl) rfl rfl (kk_wl ?_))
    refine wl_u rfl (ow_y (yh_move rfl rfl) rfl rfl (kk_wl ?_))
    refine wl_u rfl (ow_y (yh_move rfl rfl) rfl rfl (kk_wl ?_))
    refine wl_u rfl (ow_y (yh_move rfl rfl) rfl rfl (kk_wl ?_))
    obtain ⟨y18, hy18, h⟩ := bd h
    obtain ⟨b18, o18, ha18⟩ := sl_addr h_a hy18
    subst ha18
    obtain ⟨a18, e18, hc18, hf18⟩ := get_change h_a hy18
    have mx18 := rd_max hf18
    refine wl_u rfl (ow_y (yh_idx Tb (k := s4) rfl rfl rfl rfl (get_lt hy18) rfl rfl) rfl rfl (kk_wl ?_))
    refine wl_u rfl (ow_y (yh_loadAN Tb rfl rfl rfl rfl hc18 rfl) rfl rfl (kk_wl ?_))
    obtain ⟨x20, hx20, h⟩ := bd h
    refine wl_u rfl (ow_cN1 rfl hb56 rfl (fun w hw => c_laws_toChange N _ _ hx20 w (Lay.at_ hf18 hw)) rfl rfl (fun a20 c20 F20 => kk_wl ?_))
    obtain ⟨y21, hy21, h⟩ := bd h
    refine wl_know (a.length = s3.length) (fun w hw => own_lenK 1 rfl hw) (fun hn21 => ?_)
    refine wl_u rfl (ow_y (yh_idx Tb (k := s4) rfl rfl rfl rfl (Nat.lt_of_lt_of_eq (get_lt hy21) hn21.symm) rfl rfl) rfl rfl (kk_wl ?_))
    refine wl_u rfl (ow_setN Tb (u := x20) 1 0 rfl rfl rfl rfl rfl rfl (get_lt hy21) (fun w hA => changeL_mk x20 hA) rfl (fun Fs18 => kk_wl ?_))
    refine wl_nil ?_
    refine ex_block_normal ?_
    refine ex_seq ?_
    refine cw_region ?_
    refine wl_u rfl (ow_y (yh_move rfl rfl) rfl rfl (kk_wl ?_))
    refine wl_u rfl (ow_y (yh_arI rfl rfl rfl rfl (by omega)) rfl rfl (kk_wl ?_))
    refine wl_u rfl (ow_y (yh_assign rfl rfl) rfl rfl (kk_wl ?_))
    refine wl_nil ?_
    exact ex_next [0] (hn5 (n5, (s3.set s4 x20), s4 + 1, Fs18) (Nat.lt_succ_self _) h) ⟨rfl, rfl, rfl, trivial⟩ (by kernel_rfl)
  · skip
    replace h := bf cc1 h
    have q2 := ltb_false.1 cc1
    refine cw_exit ?_
    refine ex_then_exit ?_
    refine ex_then_exit ?_
    obtain rfl := Option.some.inj h
    have h := go_brk hk5
    refine ex_block_exit ?_
    refine ex_seq ?_
    refine cw_seq ?_
    refine cw_region ?_
    refine wl_u rfl (ow_y (yh_move rfl rfl) rfl rfl (kk_wl ?_))
    refine wl_u rfl (ow_y (yh_assign rfl rfl) rfl rfl (kk_wl ?_))
    refine wl_nil ?_
    refine ex_seq ?_
    refine cw_ret ?_
    refine ex_know (a.length = s3.length) (fun w hw => own_lenK 0 rfl hw) (fun hn0_ => ?_)
    obtain rfl := Option.some.inj h
    exact ex_r1 Tb rfl (.tmp rfl) (fun wq hq => ⟨_, rfl, hq.ext, ⟨(some ⟨g7, 0, none⟩), a.length, Fs3, (by simp only [hn0_]), (by simp only [← hn0_]; exact NewC.sel [0] hq rfl)⟩⟩)

def m_spec_l6In (N : Nat) (n_ : Int) (low : Int) (high : Int) : Option (Bool) := (bif leb low n_ then some (leb n_ high)
 else some false)

set_option maxHeartbeats 4000000 in
theorem c_spec_l6In (N : Nat) (n_ : Int) (low : Int) (high : Int) (res : Bool) (h : m_spec_l6In N n_ low high = some res) (w : World) : Ret Tryz.prog 85 [.int .i64 n_, .int .i64 low, .int .i64 high] w [] fun v w' => v = .bool res := by
  unfold m_spec_l6In at h
  refine ret_enter Tryz.func85 rfl Tryz.ntmps85 rfl (Hp.refl w _) ?_
  refine cw_seq ?_
  refine cw_region ?_
  refine wl_u rfl (ow_y (yh_assign rfl rfl) rfl rfl (kk_wl ?_))
  refine wl_nil ?_
  refine ex_seq ?_
  refine cw_seq ?_
  refine cw_region ?_
  refine wl_u rfl (ow_y (yh_move rfl rfl) rfl rfl (kk_wl ?_))
  refine wl_u rfl (ow_y (yh_move rfl rfl) rfl rfl (kk_wl ?_))
  refine wl_u rfl (ow_y (yh_cmpI rfl rfl rfl rfl) rfl rfl (kk_wl ?_))
  refine wl_u rfl (ow_y (yh_move rfl rfl) rfl rfl (kk_wl ?_))
  refine wl_s rfl rfl (fun cc1 => ?_) (fun cc1 => ?_)
  · skip
    replace h := bt cc1 h
    have q1 := leb_true.1 cc1
    refine wl_g rfl rfl (ow_y (yh_move rfl rfl) rfl rfl (kk_wl ?_))
    refine wl_g rfl rfl (ow_y (yh_move rfl rfl) rfl rfl (kk_wl ?_))
    refine wl_g rfl rfl (ow_y (yh_cmpI rfl rfl rfl rfl) rfl rfl (kk_wl ?_))
    refine wl_u rfl (ow_y (yh_pickT rfl rfl rfl) rfl rfl (kk_wl ?_))
    refine wl_u rfl (ow_y (yh_assign rfl rfl) rfl rfl (kk_wl ?_))
    refine wl_nil ?_
    refine ex_seq ?_
    refine cw_ret ?_
    obtain rfl := Option.some.inj h
    exact ex_r1 Tb rfl (.tmp rfl) (fun wq hq => ⟨_, rfl, hq.ext, rfl⟩)
  · skip
    replace h := bf cc1 h
    have q2 := leb_false.1 cc1
    refine wl_n rfl rfl rfl rfl ?_
    refine wl_n rfl rfl rfl rfl ?_
    refine wl_n rfl rfl rfl rfl ?_
    refine wl_u rfl (ow_y (yh_pickF rfl rfl rfl) rfl rfl (kk_wl ?_))
    refine wl_u rfl (ow_y (yh_assign rfl rfl) rfl rfl (kk_wl ?_))
    refine wl_nil ?_
    refine ex_seq ?_
    refine cw_ret ?_
    obtain rfl := Option.some.inj h
    exact ex_r1 Tb rfl (.tmp rfl) (fun wq hq => ⟨_, rfl, hq.ext, rfl⟩)

def m_spec_NameValid_L4 (N : Nat) (s_ : Str) : Nat → Nat → Option (Ex (Nat) (Bool))
  | 0, _ => none
  | n + 1, s3 => (ssz s_).bind fun z6 => (bif ltb ((s3 : Nat) : Int) ((s_.size : Nat) : Int) then (bget s_ s3).bind fun y12 => (bif ltb ((y12 : Nat) : Int) 97 then some (Ex.ret false)
 else (bget s_ s3).bind fun y17 => (bif ltb 122 ((y17 : Nat) : Int) then some (Ex.ret false)
 else m_spec_NameValid_L4 N s_ n (s3 + 1)))
 else some (Ex.brk (s3)))

def m_spec_NameValid (N : Nat) (s_ : Str) : Option (Bool) := (m_spec_NameValid_L4 N s_ N 0).bind fun e4 => e4.go (fun r => r) fun b4 => (m_spec_l6In N ((s_.size : Nat) : Int) 1 5).bind fun x22 => some x22

set_option maxHeartbeats 4000000 in
theorem c_spec_NameValid (N : Nat) (s_ : Str) (res : Bool) (h : m_spec_NameValid N s_ = some res) (w : World) : Ret Tryz.prog 112 [.string s_] w [] fun v w' => v = .bool res := by
  unfold m_spec_NameValid at h
  refine ret_enter Tryz.func112 rfl Tryz.ntmps112 rfl (Hp.refl w _) ?_
  refine cw_seq ?_
  refine cw_region ?_
  refine wl_u rfl (ow_y (yh_assign rfl rfl) rfl rfl (kk_wl ?_))
  refine wl_nil ?_
  refine ex_seq ?_
  refine cw_seq ?_
  refine cw_seq ?_
  refine cw_region ?_
  refine wl_u rfl (ow_y (yh_assign rfl rfl) rfl rfl (kk_wl ?_))
  refine wl_nil ?_
  refine ex_seq ?_
  refine cw_block ?_
  obtain ⟨e4, he4, hk4⟩ := bd h
  clear h
  refine cw_loopG (σ := Nat × Nat) (fun s => m_spec_NameValid_L4 N s_ s.1 s.2 = some e4) (fun s => [(0, .string s_), (3, .int .i64 ((s.2 : Nat) : Int))]) (fun s => []) (fun s => s.1) (N, 0) [] he4 ⟨rfl, rfl, trivial⟩ rfl (fun KL s he4 hn4 => ?_)
  obtain ⟨n4, s3⟩ := s
  simp only at he4 hn4 ⊢
  rcases n4 with _ | n4
  · exact nosome he4
  have h := he4; rw [m_spec_NameValid_L4] at h
  refine cw_seq ?_
  refine cw_seq ?_
  refine cw_region ?_
  refine wl_u rfl (ow_y (yh_move rfl rfl) rfl rfl (kk_wl ?_))
  refine wl_u rfl (ow_y (yh_move rfl rfl) rfl rfl (kk_wl ?_))
  obtain ⟨z6, hz6, h⟩ := bd h
  have mz6 := ssz_some hz6
  refine wl_u rfl (ow_y (yh_lenT Tb rfl rfl rfl rfl) rfl rfl (kk_wl ?_))
  refine wl_u rfl (ow_y (yh_cmpI rfl rfl rfl rfl) rfl rfl (kk_wl ?_))
  refine wl_nil ?_
  refine ex_seq ?_
  refine cw_split rfl (fun cc1 => ?_) (fun cc1 => ?_)
  · skip
    replace h := bt cc1 h
    have q1 := ltb_true.1 cc1
    refine cw_skip ?_
    refine ex_seq ?_
    refine cw_seq ?_
    refine cw_block ?_
    refine cw_seq ?_
    refine cw_region ?_
    refine wl_u rfl (ow_y (yh_move rfl rfl) rfl rfl (kk_wl ?_))
    refine wl_u rfl (ow_y (yh_move rfl rfl) rfl rfl (kk_wl ?_))
    obtain ⟨y12, hy12, h⟩ := bd h
    refine wl_u rfl (ow_y (yh_indexS Tb (k := s3) rfl rfl rfl rfl hy12 rfl) rfl rfl (kk_wl ?_))
    refine wl_u rfl (ow_y (yh_cmpI rfl rfl rfl rfl) rfl rfl (kk_wl ?_))
    refine wl_u rfl (ow_y (yh_move rfl rfl) rfl rfl (kk_wl ?_))
    refine wl_s rfl rfl (fun cc2 => ?_) (fun cc2 => ?_)
    · skip
      replace h := bt cc2 h
      have q2 := ltb_true.1 cc2
      refine wl_n rfl rfl rfl rfl ?_
      refine wl_n rfl rfl rfl rfl ?_
      refine wl_n rfl rfl rfl rfl ?_
      refine wl_n rfl rfl rfl rfl ?_
      refine wl_u rfl (ow_y (yh_pickT rfl rfl rfl) rfl rfl (kk_wl ?_))
      refine wl_nil ?_
      refine ex_seq ?_
      refine cw_true rfl ?_
      refine cw_seq ?_
      refine cw_region ?_
      refine wl_u rfl (ow_y (yh_assign rfl rfl) rfl rfl (kk_wl ?_))
      refine wl_nil ?_
      refine ex_seq ?_
      refine cw_ret ?_
      refine ex_block_ret ?_
      refine ex_then_ret ?_
      refine ex_then_ret ?_
      refine ex_block_ret ?_
      refine ex_then_ret ?_
      obtain rfl := Option.some.inj h
      obtain rfl := go_ret hk4
      exact ex_r1 Tb rfl (.tmp rfl) (fun wq hq => ⟨_, rfl, hq.ext, rfl⟩)
    · skip
      replace h := bf cc2 h
      have q3 := ltb_false.1 cc2
      refine wl_g rfl rfl (ow_y (yh_move rfl rfl) rfl rfl (kk_wl ?_))
      refine wl_g rfl rfl (ow_y (yh_move rfl rfl) rfl rfl (kk_wl ?_))
      obtain ⟨y17, hy17, h⟩ := bd h
      refine wl_g rfl rfl (ow_y (yh_indexS Tb (k := s3) rfl rfl rfl rfl hy17 rfl) rfl rfl (kk_wl ?_))
      refine wl_g rfl rfl (ow_y (yh_cmpI rfl rfl rfl rfl) rfl rfl (kk_wl ?_))
      refine wl_u rfl (ow_y (yh_pickF rfl rfl rfl) rfl rfl (kk_wl ?_))
      refine wl_nil ?_
      refine ex_seq ?_
      refine cw_split rfl (fun cc3 => ?_) (fun cc3 => ?_)
      · skip
        replace h := bt cc3 h
        have q4 := ltb_true.1 cc3
        refine cw_seq ?_
        refine cw_region ?_
        refine wl_u rfl (ow_y (yh_assign rfl rfl) rfl rfl (kk_wl ?_))
        refine wl_nil ?_
        refine ex_seq ?_
        refine cw_ret ?_
        refine ex_block_ret ?_
        refine ex_then_ret ?_
        refine ex_then_ret ?_
        refine ex_block_ret ?_
        refine ex_then_ret ?_
        obtain rfl := Option.some.inj h
        obtain rfl := go_ret hk4
        exact ex_r1 Tb rfl (.tmp rfl) (fun wq hq => ⟨_, rfl, hq.ext, rfl⟩)
      · skip
        replace h := bf cc3 h
        have q5 := ltb_false.1 cc3
        refine cw_skip ?_
        refine ex_block_normal ?_
        refine ex_seq ?_
        refine cw_region ?_
        refine wl_u rfl (ow_y (yh_move rfl rfl) rfl rfl (kk_wl ?_))
        refine wl_u rfl (ow_y (yh_arI rfl rfl rfl rfl (by omega)) rfl rfl (kk_wl ?_))
        refine wl_u rfl (ow_y (yh_assign rfl rfl) rfl rfl (kk_wl ?_))
        refine wl_nil ?_
        exact ex_next [] (hn4 (n4, s3 + 1) (Nat.lt_succ_self _) h) ⟨rfl, rfl, trivial⟩ (by kernel_rfl)
  · skip
    replace h := bf cc1 h
    have q6 := ltb_false.1 cc1
    refine cw_exit ?_
    refine ex_then_exit ?_
    refine ex_then_exit ?_
    obtain rfl := Option.some.inj h
    have h := go_brk hk4
    refine ex_block_exit ?_
    refine ex_seq ?_
    refine cw_seq ?_
    refine cw_region ?_
    refine wl_u rfl (ow_y (yh_move rfl rfl) rfl rfl (kk_wl ?_))
    refine wl_u rfl (ow_y (yh_lenT Tb rfl rfl rfl rfl) rfl rfl (kk_wl ?_))
    obtain ⟨x22, hx22, h⟩ := bd h
    refine wl_u rfl (ow_cV rfl hb85 rfl (fun w hw => c_spec_l6In N _ _ _ _ hx22 w) rfl rfl (kk_wl ?_))
    refine wl_u rfl (ow_y (yh_assign rfl rfl) rfl rfl (kk_wl ?_))
    refine wl_nil ?_
    refine ex_seq ?_
    refine cw_ret ?_
    obtain rfl := Option.some.inj h
    exact ex_r1 Tb rfl (.tmp rfl) (fun wq hq => ⟨_, rfl, hq.ext, rfl⟩)

def m_spec_l1At_L4 (N : Nat) (list_ : List Str) (name : Str) : Nat → Nat → Option (Ex (Nat) (Int))
  | 0, _ => none
  | n + 1, s5 => (bif ltb ((s5 : Nat) : Int) ((list_.length : Nat) : Int) then (list_[s5]?).bind fun y14 => (bif seq y14 name then some (Ex.ret ((s5 : Nat) : Int))
 else m_spec_l1At_L4 N list_ name n (s5 + 1))
 else some (Ex.brk (s5)))

def m_spec_l1At (N : Nat) (list_ : List Str) (name : Str) : Option (Int) := (m_spec_l1At_L4 N list_ name N 0).bind fun e4 => e4.go (fun r => r) fun b4 => some (-1)

set_option maxHeartbeats 4000000 in
theorem c_spec_l1At (N : Nat) (list_ : List Str) (name : Str) (res : Int) (h : m_spec_l1At N list_ name = some res) (w : World) {a_list_ : Option Addr} {c_list_ : Nat} (h_list_ : strsL.rd w [] [.slice a_list_ list_.length c_list_] list_) : Ret Tryz.prog 67 [.slice a_list_ list_.length c_list_, .string name] w [] fun v w' => v = .int .i64 res := by
  have mh_list_ := rd_max h_list_
  unfold m_spec_l1At at h
  refine ret_enter Tryz.func67 rfl Tryz.ntmps67 rfl (Hp.refl w _) ?_
  refine cw_seq ?_
  refine cw_region ?_
  refine wl_u rfl (ow_y (yh_assign rfl rfl) rfl rfl (kk_wl ?_))
  refine wl_nil ?_
  refine ex_seq ?_
  refine cw_seq ?_
  refine cw_seq ?_
  refine cw_region ?_
  refine wl_u rfl (ow_y (yh_assign rfl rfl) rfl rfl (kk_wl ?_))
  refine wl_nil ?_
  refine ex_seq ?_
  refine cw_block ?_
  obtain ⟨e4, he4, hk4⟩ := bd h
  clear h
  refine cw_loopG (σ := Nat × Nat) (fun s => m_spec_l1At_L4 N list_ name s.1 s.2 = some e4) (fun s => [(0, .slice a_list_ list_.length c_list_), (1, .string name), (5, .int .i64 ((s.2 : Nat) : Int))]) (fun s => []) (fun s => s.1) (N, 0) [] he4 ⟨rfl, rfl, rfl, trivial⟩ rfl (fun KL s he4 hn4 => ?_)
  obtain ⟨n4, s5⟩ := s
  simp only at he4 hn4 ⊢
  rcases n4 with _ | n4
  · exact nosome he4
  have h := he4; rw [m_spec_l1At_L4] at h
  refine cw_seq ?_
  refine cw_seq ?_
  refine cw_region ?_
  refine wl_u rfl (ow_y (yh_move rfl rfl) rfl rfl (kk_wl ?_))
  refine wl_u rfl (ow_y (yh_move rfl rfl) rfl rfl (kk_wl ?_))
  refine wl_u rfl (ow_y (yh_lenS Tb rfl rfl rfl rfl) rfl rfl (kk_wl ?_))
  refine wl_u rfl (ow_y (yh_cmpI rfl rfl rfl rfl) rfl rfl (kk_wl ?_))
  refine wl_nil ?_
  refine ex_seq ?_
  refine cw_split rfl (fun cc1 => ?_) (fun cc1 => ?_)
  · skip
    replace h := bt cc1 h
    have q1 := ltb_true.1 cc1
    refine cw_skip ?_
    refine ex_seq ?_
    refine cw_seq ?_
    refine cw_block ?_
    refine cw_seq ?_
    refine cw_region ?_
    refine wl_u rfl (ow_y (yh_move rfl rfl) rfl rfl (kk_wl ?_))
    refine wl_u rfl (ow_y (yh_move rfl rfl) rfl rfl (kk_wl ?_))
    obtain ⟨y14, hy14, h⟩ := bd h
    obtain ⟨b14, o14, ha14⟩ := sl_addr h_list_ hy14
    subst ha14
    have hc14 := get_str h_list_ hy14
    refine wl_u rfl (ow_y (yh_idx Tb (k := s5) rfl rfl rfl rfl (get_lt hy14) rfl rfl) rfl rfl (kk_wl ?_))
    refine wl_u rfl (ow_y (yh_loadA0 Tb rfl rfl rfl hc14 rfl) rfl rfl (kk_wl ?_))
    refine wl_u rfl (ow_y (yh_move rfl rfl) rfl rfl (kk_wl ?_))
    refine wl_u rfl (ow_y (yh_cmpS rfl rfl rfl rfl) rfl rfl (kk_wl ?_))
    refine wl_nil ?_
    refine ex_seq ?_
    refine cw_split rfl (fun cc2 => ?_) (fun cc2 => ?_)
    · skip
      replace h := bt cc2 h
      refine cw_seq ?_
      refine cw_region ?_
      refine wl_u rfl (ow_y (yh_move rfl rfl) rfl rfl (kk_wl ?_))
      refine wl_u rfl (ow_y (yh_assign rfl rfl) rfl rfl (kk_wl ?_))
      refine wl_nil ?_
      refine ex_seq ?_
      refine cw_ret ?_
      refine ex_block_ret ?_
      refine ex_then_ret ?_
      refine ex_then_ret ?_
      refine ex_block_ret ?_
      refine ex_then_ret ?_
      obtain rfl := Option.some.inj h
      obtain rfl := go_ret hk4
      exact ex_r1 Tb rfl (.tmp rfl) (fun wq hq => ⟨_, rfl, hq.ext, rfl⟩)
    · skip
      replace h := bf cc2 h
      refine cw_skip ?_
      refine ex_block_normal ?_
      refine ex_seq ?_
      refine cw_region ?_
      refine wl_u rfl (ow_y (yh_move rfl rfl) rfl rfl (kk_wl ?_))
      refine wl_u rfl (ow_y (yh_arI rfl rfl rfl rfl (by omega)) rfl rfl (kk_wl ?_))
      refine wl_u rfl (ow_y (yh_assign rfl rfl) rfl rfl (kk_wl ?_))
      refine wl_nil ?_
      exact ex_next [] (hn4 (n4, s5 + 1) (Nat.lt_succ_self _) h) ⟨rfl, rfl, rfl, trivial⟩ (by kernel_rfl)
  · skip
    replace h := bf cc1 h
    have q2 := ltb_false.1 cc1
    refine cw_exit ?_
    refine ex_then_exit ?_
    refine ex_then_exit ?_
    obtain rfl := Option.some.inj h
    have h := go_brk hk4
    refine ex_block_exit ?_
    refine ex_seq ?_
    refine cw_seq ?_
    refine cw_region ?_
    refine wl_u rfl (ow_y (yh_assign rfl rfl) rfl rfl (kk_wl ?_))
    refine wl_nil ?_
    refine ex_seq ?_
    refine cw_ret ?_
    obtain rfl := Option.some.inj h
    exact ex_r1 Tb rfl (.tmp rfl) (fun wq hq => ⟨_, rfl, hq.ext, rfl⟩)

def m_spec_StepValid_L5 (N : Nat) (s_ : Step) : Nat → Nat → Option (Ex (Nat) (Bool))
  | 0, _ => none
  | n + 1, s3 => (bif ltb ((s3 : Nat) : Int) ((s_.after.length : Nat) : Int) then (s_.after[s3]?).bind fun y14 => (m_spec_NameValid N y14).bind fun x16 => (bif !x16 then some (Ex.ret false)
 else (bif ltb 0 ((s3 : Nat) : Int) then (geti s_.after (((s3 : Nat) : Int) - 1)).bind fun y26 => (bif !(slt y26 y14) then some (Ex.ret false)
 else m_spec_StepValid_L5 N s_ n (s3 + 1))
 else m_spec_StepValid_L5 N s_ n (s3 + 1)))
 else some (Ex.brk (s3)))

def m_spec_StepValid (N : Nat) (s_ : Step) : Option (Bool) := (m_spec_StepValid_L5 N s_ N 0).bind fun e5 => e5.go (fun r => r) fun b5 => (m_spec_NameValid N s_.name).bind fun x38 => (bif x38 then (m_spec_l1At N s_.after s_.name).bind fun x44 => (bif ltb x44 0 then some (leb ((s_.after.length : Nat) : Int) 4)
 else some false)
 else some false)

set_option maxHeartbeats 4000000 in
theorem c_spec_StepValid (N : Nat) (s_ : Step) (res : Bool) (h : m_spec_StepValid N s_ = some res) (w : World) {a_s__after : Option Addr} {c_s__after : Nat} (h_s__after : strsL.rd w [] [.slice a_s__after s_.after.length c_s__after] s_.after) : Ret Tryz.prog 83 [.agg #[.string s_.name, .slice a_s__after s_.after.length c_s__after, .bool s_.undo]] w [] fun v w' => v = .bool res := by
  have mh_s__after := rd_max h_s__after
  unfold m_spec_StepValid at h
  refine ret_enter Tryz.func83 rfl Tryz.ntmps83 rfl (Hp.refl w _) ?_
  refine cw_seq ?_
  refine cw_region ?_
  refine wl_u rfl (ow_boxA rfl rfl rfl rfl (fun g1 => kk_wl ?_))
  refine wl_u rfl (ow_y (yh_assign rfl rfl) rfl rfl (kk_wl ?_))
  refine wl_nil ?_
  refine ex_seq ?_
  refine cw_seq ?_
  refine cw_seq ?_
  refine cw_region ?_
  refine wl_u rfl (ow_y (yh_assign rfl rfl) rfl rfl (kk_wl ?_))
  refine wl_nil ?_
  refine ex_seq ?_
  refine cw_block ?_
  obtain ⟨e5, he5, hk5⟩ := bd h
  clear h
  refine cw_loopG (σ := Nat × Nat) (fun s => m_spec_StepValid_L5 N s_ s.1 s.2 = some e5) (fun s => [(1, .pointer (some ⟨g1, 0, none⟩)), (3, .int .i64 ((s.2 : Nat) : Int))]) (fun s => [blkC g1 49 [.string s_.name, .slice a_s__after s_.after.length c_s__after, .bool s_.undo]]) (fun s => s.1) (N, 0) [0] he5 ⟨rfl, rfl, trivial⟩ rfl (fun KL s he5 hn5 => ?_)
  obtain ⟨n5, s3⟩ := s
  simp only at he5 hn5 ⊢
  rcases n5 with _ | n5
  · exact nosome he5
  have h := he5; rw [m_spec_StepValid_L5] at h
  refine cw_seq ?_
  refine cw_seq ?_
  refine cw_region ?_
  refine wl_u rfl (ow_y (yh_move rfl rfl) rfl rfl (kk_wl ?_))
  refine wl_u rfl (ow_y (yh_field Tb rfl rfl rfl) rfl rfl (kk_wl ?_))
  refine wl_u rfl (ow_y (yh_loadB Tb (k := 0) rfl rfl rfl rfl rfl) rfl rfl (kk_wl ?_))
  refine wl_u rfl (ow_y (yh_lenS Tb rfl rfl rfl rfl) rfl rfl (kk_wl ?_))
  refine wl_u rfl (ow_y (yh_cmpI rfl rfl rfl rfl) rfl rfl (kk_wl ?_))
  refine wl_nil ?_
  refine ex_seq ?_
  refine cw_split rfl (fun cc1 => ?_) (fun cc1 => ?_)
  · skip
    replace h := bt cc1 h
    have q1 := ltb_true.1 cc1
    refine cw_skip ?_
    refine ex_seq ?_
    refine cw_seq ?_
    refine cw_block ?_
    refine cw_seq ?_
    refine cw_dr [0, 1, 2, 3, 4, 6, 7, 8, 9, 10, 11, 12, 13, 14, 15, 16, 17, 18, 19, 20, 21, 22, 23, 24] [] [blkC g1 49 [.string s_.name, .slice a_s__after s_.after.length c_s__after, .bool s_.undo]] (by kernel_rfl) ?_
    refine wd_take (i := 0) [0] rfl rfl rfl rfl rfl (by kernel_rfl) (by kernel_rfl) (fun _ _ _ _ h => h) (yh_field Tb rfl rfl rfl) ?_
    refine wd_take (i := 1) [0] rfl rfl rfl rfl rfl (by kernel_rfl) (by kernel_rfl) (fun _ _ _ _ h => h) (yh_loadB Tb (k := 0) rfl rfl rfl rfl rfl) ?_
    refine wd_take (i := 2) [0] rfl rfl rfl rfl rfl (by kernel_rfl) (by kernel_rfl) (fun _ _ _ _ h => h) (yh_move rfl rfl) ?_
    obtain ⟨y14, hy14, h⟩ := bd h
    obtain ⟨b14, o14, ha14⟩ := sl_addr h_s__after hy14
    subst ha14
    have hc14 := get_str h_s__after hy14
    refine wd_take (i := 3) [0] rfl rfl rfl rfl rfl (by kernel_rfl) (by kernel_rfl) (fun _ _ _ _ h => h) (yh_idx Tb (k := s3) rfl rfl rfl rfl (get_lt hy14) rfl rfl) ?_
    refine wd_take (i := 4) [0] rfl rfl rfl rfl rfl (by kernel_rfl) (by kernel_rfl) (fun _ _ _ _ h => h) (yh_loadA0 Tb rfl rfl rfl hc14 rfl) ?_
    obtain ⟨x16, hx16, h⟩ := bd h
    refine wd_one 5 rfl rfl (by kernel_rfl) (ow_cV rfl hb112 rfl (fun w hw => c_spec_NameValid N _ _ hx16 w) rfl rfl (kk_wd [0] (by kernel_rfl) ?_))
    refine wd_take (i := 6) [0] rfl rfl rfl rfl rfl (by kernel_rfl) (by kernel_rfl) (fun _ _ _ _ h => h) (yh_not rfl rfl) ?_
    refine wd_take (i := 7) [0] rfl rfl rfl rfl rfl (by kernel_rfl) (by kernel_rfl) (fun _ _ _ _ h => h) (yh_move rfl rfl) ?_
    refine wd_split 8 rfl rfl rfl (fun cc2 => ?_) (fun cc2 => ?_)
    · skip
      replace h := bt cc2 h
      refine wd_skip (i := 8) [0] rfl rfl rfl rfl (by kernel_rfl) (by kernel_rfl) (fun _ _ _ h => h) ?_
      refine wd_skip (i := 9) [0] rfl rfl rfl rfl (by kernel_rfl) (by kernel_rfl) (fun _ _ _ h => h) ?_
      refine wd_skip (i := 10) [0] rfl rfl rfl rfl (by kernel_rfl) (by kernel_rfl) (fun _ _ _ h => h) ?_
      refine wd_skip (i := 11) [0] rfl rfl rfl rfl (by kernel_rfl) (by kernel_rfl) (fun _ _ _ h => h) ?_
      refine wd_skip (i := 12) [0] rfl rfl rfl rfl (by kernel_rfl) (by kernel_rfl) (fun _ _ _ h => h) ?_
      refine wd_skip (i := 13) [0] rfl rfl rfl rfl (by kernel_rfl) (by kernel_rfl) (fun _ _ _ h => h) ?_
      refine wd_skip (i := 14) [0] rfl rfl rfl rfl (by kernel_rfl) (by kernel_rfl) (fun _ _ _ h => h) ?_
      refine wd_skip (i := 15) [0] rfl rfl rfl rfl (by kernel_rfl) (by kernel_rfl) (fun _ _ _ h => h) ?_
      refine wd_skip (i := 16) [0] rfl rfl rfl rfl (by kernel_rfl) (by kernel_rfl) (fun _ _ _ h => h) ?_
      refine wd_skip (i := 17) [0] rfl rfl rfl rfl (by kernel_rfl) (by kernel_rfl) (fun _ _ _ h => h) ?_
      refine wd_skip (i := 18) [0] rfl rfl rfl rfl (by kernel_rfl) (by kernel_rfl) (fun _ _ _ h => h) ?_
      refine wd_skip (i := 19) [0] rfl rfl rfl rfl (by kernel_rfl) (by kernel_rfl) (fun _ _ _ h => h) ?_
      refine wd_skip (i := 20) [0] rfl rfl rfl rfl (by kernel_rfl) (by kernel_rfl) (fun _ _ _ h => h) ?_
      refine wd_skip (i := 21) [0] rfl rfl rfl rfl (by kernel_rfl) (by kernel_rfl) (fun _ _ _ h => h) ?_
      refine wd_skip (i := 22) [0] rfl rfl rfl rfl (by kernel_rfl) (by kernel_rfl) (fun _ _ _ h => h) ?_
      refine wd_skip (i := 23) [0] rfl rfl rfl rfl (by kernel_rfl) (by kernel_rfl) (fun _ _ _ h => h) ?_
      refine wd_take (i := 24) [0] rfl rfl rfl rfl rfl (by kernel_rfl) (by kernel_rfl) (fun _ _ _ _ h => h) (yh_pickT rfl rfl rfl) ?_
      refine wd_done (by kernel_rfl) ?_
      refine ex_seq ?_
      refine cw_true rfl ?_
      refine cw_seq ?_
      refine cw_region ?_
      refine wl_u rfl (ow_y (yh_assign rfl rfl) rfl rfl (kk_wl ?_))
      refine wl_nil ?_
      refine ex_seq ?_
      refine cw_ret ?_
      refine ex_block_ret ?_
      refine ex_then_ret ?_
      refine ex_then_ret ?_
      refine ex_block_ret ?_
      refine ex_then_ret ?_
      obtain rfl := Option.some.inj h
      obtain rfl := go_ret hk5
      exact ex_r1 Tb rfl (.tmp rfl) (fun wq hq => ⟨_, rfl, hq.ext, rfl⟩)
    · skip
      replace h := bf cc2 h
      refine wd_take (i := 8) [0] rfl rfl rfl rfl rfl (by kernel_rfl) (by kernel_rfl) (fun _ _ _ _ h => h) (yh_move rfl rfl) ?_
      refine wd_take (i := 9) [0] rfl rfl rfl rfl rfl (by kernel_rfl) (by kernel_rfl) (fun _ _ _ _ h => h) (yh_cmpI rfl rfl rfl rfl) ?_
      refine wd_take (i := 10) [0] rfl rfl rfl rfl rfl (by kernel_rfl) (by kernel_rfl) (fun _ _ _ _ h => h) (yh_move rfl rfl) ?_
      refine wd_split 11 rfl rfl rfl (fun cc3 => ?_) (fun cc3 => ?_)
      · skip
        replace h := bt cc3 h
        have q2 := ltb_true.1 cc3
        refine wd_take (i := 11) [0] rfl rfl rfl rfl rfl (by kernel_rfl) (by kernel_rfl) (fun _ _ _ _ h => h) (yh_field Tb rfl rfl rfl) ?_
        refine wd_take (i := 12) [0] rfl rfl rfl rfl rfl (by kernel_rfl) (by kernel_rfl) (fun _ _ _ _ h => h) (yh_loadB Tb (k := 0) rfl rfl rfl rfl rfl) ?_
        refine wd_take (i := 13) [0] rfl rfl rfl rfl rfl (by kernel_rfl) (by kernel_rfl) (fun _ _ _ _ h => h) (yh_move rfl rfl) ?_
        refine wd_take (i := 14) [0] rfl rfl rfl rfl rfl (by kernel_rfl) (by kernel_rfl) (fun _ _ _ _ h => h) (yh_arI rfl rfl rfl rfl (by omega)) ?_
        obtain ⟨y26, zy26, h⟩ := bd h
        obtain ⟨iy26, hy26⟩ := geti_some zy26
        have hc26 := get_str h_s__after hy26
        refine wd_take (i := 15) [0] rfl rfl rfl rfl rfl (by kernel_rfl) (by kernel_rfl) (fun _ _ _ _ h => h) (yh_idx Tb (k := (((s3 : Nat) : Int) - 1).toNat) rfl rfl rfl iy26 (get_lt hy26) rfl rfl) ?_
        refine wd_take (i := 16) [0] rfl rfl rfl rfl rfl (by kernel_rfl) (by kernel_rfl) (fun _ _ _ _ h => h) (yh_loadA0 Tb rfl rfl rfl hc26 rfl) ?_
        refine wd_take (i := 17) [0] rfl rfl rfl rfl rfl (by kernel_rfl) (by kernel_rfl) (fun _ _ _ _ h => h) (yh_field Tb rfl rfl rfl) ?_
        refine wd_take (i := 18) [0] rfl rfl rfl rfl rfl (by kernel_rfl) (by kernel_rfl) (fun _ _ _ _ h => h) (yh_loadB Tb (k := 0) rfl rfl rfl rfl rfl) ?_
        refine wd_take (i := 19) [0] rfl rfl rfl rfl rfl (by kernel_rfl) (by kernel_rfl) (fun _ _ _ _ h => h) (yh_move rfl rfl) ?_
        refine wd_take (i := 20) [0] rfl rfl rfl rfl rfl (by kernel_rfl) (by kernel_rfl) (fun _ _ _ _ h => h) (yh_idx Tb (k := s3) rfl rfl rfl rfl (get_lt hy14) rfl rfl) ?_
        refine wd_take (i := 21) [0] rfl rfl rfl rfl rfl (by kernel_rfl) (by kernel_rfl) (fun _ _ _ _ h => h) (yh_loadA0 Tb rfl rfl rfl hc14 rfl) ?_
        refine wd_take (i := 22) [0] rfl rfl rfl rfl rfl (by kernel_rfl) (by kernel_rfl) (fun _ _ _ _ h => h) (yh_cmpS rfl rfl rfl rfl) ?_
        refine wd_take (i := 23) [0] rfl rfl rfl rfl rfl (by kernel_rfl) (by kernel_rfl) (fun _ _ _ _ h => h) (yh_pickT rfl rfl rfl) ?_
        refine wd_take (i := 24) [0] rfl rfl rfl rfl rfl (by kernel_rfl) (by kernel_rfl) (fun _ _ _ _ h => h) (yh_pickF rfl rfl rfl) ?_
        refine wd_done (by kernel_rfl) ?_
        refine ex_seq ?_
        refine cw_split rfl (fun cc4 => ?_) (fun cc4 => ?_)
        · skip
          replace h := bt cc4 h
          refine cw_seq ?_
          refine cw_region ?_
          refine wl_u rfl (ow_y (yh_assign rfl rfl) rfl rfl (kk_wl ?_))
          refine wl_nil ?_
          refine ex_seq ?_
          refine cw_ret ?_
          refine ex_block_ret ?_
          refine ex_then_ret ?_
          refine ex_then_ret ?_
          refine ex_block_ret ?_
          refine ex_then_ret ?_
          obtain rfl := Option.some.inj h
          obtain rfl := go_ret hk5
          exact ex_r1 Tb rfl (.tmp rfl) (fun wq hq => ⟨_, rfl, hq.ext, rfl⟩)
        · skip
          replace h := bf cc4 h
          refine cw_skip ?_
          refine ex_block_normal ?_
          refine ex_seq ?_
          refine cw_region ?_
          refine wl_u rfl (ow_y (yh_move rfl rfl) rfl rfl (kk_wl ?_))
          refine wl_u rfl (ow_y (yh_arI rfl rfl rfl rfl (by omega)) rfl rfl (kk_wl ?_))
          refine wl_u rfl (ow_y (yh_assign rfl rfl) rfl rfl (kk_wl ?_))
          refine wl_nil ?_
          exact ex_next [0] (hn5 (n5, s3 + 1) (Nat.lt_succ_self _) h) ⟨rfl, rfl, trivial⟩ (by kernel_rfl)
      · skip
        replace h := bf cc3 h
        have q3 := ltb_false.1 cc3
        refine wd_skip (i := 11) [0] rfl rfl rfl rfl (by kernel_rfl) (by kernel_rfl) (fun _ _ _ h => h) ?_
        refine wd_skip (i := 12) [0] rfl rfl rfl rfl (by kernel_rfl) (by kernel_rfl) (fun _ _ _ h => h) ?_
        refine wd_skip (i := 13) [0] rfl rfl rfl rfl (by kernel_rfl) (by kernel_rfl) (fun _ _ _ h => h) ?_
        refine wd_skip (i := 14) [0] rfl rfl rfl rfl (by kernel_rfl) (by kernel_rfl) (fun _ _ _ h => h) ?_
        refine wd_skip (i := 15) [0] rfl rfl rfl rfl (by kernel_rfl) (by kernel_rfl) (fun _ _ _ h => h) ?_
        refine wd_skip (i := 16) [0] rfl rfl rfl rfl (by kernel_rfl) (by kernel_rfl) (fun _ _ _ h => h) ?_
        refine wd_skip (i := 17) [0] rfl rfl rfl rfl (by kernel_rfl) (by kernel_rfl) (fun _ _ _ h => h) ?_
        refine wd_skip (i := 18) [0] rfl rfl rfl rfl (by kernel_rfl) (by kernel_rfl) (fun _ _ _ h => h) ?_
        refine wd_skip (i := 19) [0] rfl rfl rfl rfl (by kernel_rfl) (by kernel_rfl) (fun _ _ _ h => h) ?_
        refine wd_skip (i := 20) [0] rfl rfl rfl rfl (by kernel_rfl) (by kernel_rfl) (fun _ _ _ h => h) ?_
        refine wd_skip (i := 21) [0] rfl rfl rfl rfl (by kernel_rfl) (by kernel_rfl) (fun _ _ _ h => h) ?_
        refine wd_skip (i := 22) [0] rfl rfl rfl rfl (by kernel_rfl) (by kernel_rfl) (fun _ _ _ h => h) ?_
        refine wd_take (i := 23) [0] rfl rfl rfl rfl rfl (by kernel_rfl) (by kernel_rfl) (fun _ _ _ _ h => h) (yh_pickF rfl rfl rfl) ?_
        refine wd_take (i := 24) [0] rfl rfl rfl rfl rfl (by kernel_rfl) (by kernel_rfl) (fun _ _ _ _ h => h) (yh_pickF rfl rfl rfl) ?_
        refine wd_done (by kernel_rfl) ?_
        refine ex_seq ?_
        refine cw_false rfl ?_
        refine cw_skip ?_
        refine ex_block_normal ?_
        refine ex_seq ?_
        refine cw_region ?_
        refine wl_u rfl (ow_y (yh_move rfl rfl) rfl rfl (kk_wl ?_))
        refine wl_u rfl (ow_y (yh_arI rfl rfl rfl rfl (by omega)) rfl rfl (kk_wl ?_))
        refine wl_u rfl (ow_y (yh_assign rfl rfl) rfl rfl (kk_wl ?_))
        refine wl_nil ?_
        exact ex_next [0] (hn5 (n5, s3 + 1) (Nat.lt_succ_self _) h) ⟨rfl, rfl, trivial⟩ (by kernel_rfl)
  · skip
    replace h := bf cc1 h
    have q4 := ltb_false.1 cc1
    refine cw_exit ?_
    refine ex_then_exit ?_
    refine ex_then_exit ?_
    obtain rfl := Option.some.inj h
    have h := go_brk hk5
    refine ex_block_exit ?_
    refine ex_seq ?_
    refine cw_seq ?_
    refine cw_region ?_
    refine wl_u rfl (ow_y (yh_field Tb rfl rfl rfl) rfl rfl (kk_wl ?_))
    refine wl_u rfl (ow_y (yh_loadB Tb (k := 0) rfl rfl rfl rfl rfl) rfl rfl (kk_wl ?_))
    obtain ⟨x38, hx38, h⟩ := bd h
    refine wl_u rfl (ow_cV rfl hb112 rfl (fun w hw => c_spec_NameValid N _ _ hx38 w) rfl rfl (kk_wl ?_))
    refine wl_u rfl (ow_y (yh_move rfl rfl) rfl rfl (kk_wl ?_))
    refine wl_s rfl rfl (fun cc5 => ?_) (fun cc5 => ?_)
    · skip
      replace h := bt cc5 h
      refine wl_g rfl rfl (ow_y (yh_field Tb rfl rfl rfl) rfl rfl (kk_wl ?_))
      refine wl_g rfl rfl (ow_y (yh_loadB Tb (k := 0) rfl rfl rfl rfl rfl) rfl rfl (kk_wl ?_))
      refine wl_g rfl rfl (ow_y (yh_field Tb rfl rfl rfl) rfl rfl (kk_wl ?_))
      refine wl_g rfl rfl (ow_y (yh_loadB Tb (k := 0) rfl rfl rfl rfl rfl) rfl rfl (kk_wl ?_))
      obtain ⟨x44, hx44, h⟩ := bd h
      refine wl_g rfl rfl (ow_cV rfl hb67 rfl (fun w hw => c_spec_l1At N _ _ _ hx44 w (Lay.at_ h_s__after hw)) rfl rfl (kk_wl ?_))
      refine wl_g rfl rfl (ow_y (yh_cmpI rfl rfl rfl rfl) rfl rfl (kk_wl ?_))
      refine wl_u rfl (ow_y (yh_pickT rfl rfl rfl) rfl rfl (kk_wl ?_))
      refine wl_u rfl (ow_y (yh_move rfl rfl) rfl rfl (kk_wl ?_))
      refine wl_s rfl rfl (fun cc6 => ?_) (fun cc6 => ?_)
      · skip
        replace h := bt cc6 h
        have q5 := ltb_true.1 cc6
        refine wl_g rfl rfl (ow_y (yh_field Tb rfl rfl rfl) rfl rfl (kk_wl ?_))
        refine wl_g rfl rfl (ow_y (yh_loadB Tb (k := 0) rfl rfl rfl rfl rfl) rfl rfl (kk_wl ?_))
        refine wl_g rfl rfl (ow_y (yh_lenS Tb rfl rfl rfl rfl) rfl rfl (kk_wl ?_))
        refine wl_g rfl rfl (ow_y (yh_cmpI rfl rfl rfl rfl) rfl rfl (kk_wl ?_))
        refine wl_u rfl (ow_y (yh_pickT rfl rfl rfl) rfl rfl (kk_wl ?_))
        refine wl_u rfl (ow_y (yh_assign rfl rfl) rfl rfl (kk_wl ?_))
        refine wl_nil ?_
        refine ex_seq ?_
        refine cw_ret ?_
        obtain rfl := Option.some.inj h
        exact ex_r1 Tb rfl (.tmp rfl) (fun wq hq => ⟨_, rfl, hq.ext, rfl⟩)
      · skip
        replace h := bf cc6 h
        have q6 := ltb_false.1 cc6
        refine wl_n rfl rfl rfl rfl ?_
        refine wl_n rfl rfl rfl rfl ?_
        refine wl_n rfl rfl rfl rfl ?_
        refine wl_n rfl rfl rfl rfl ?_
        refine wl_u rfl (ow_y (yh_pickF rfl rfl rfl) rfl rfl (kk_wl ?_))
        refine wl_u rfl (ow_y (yh_assign rfl rfl) rfl rfl (kk_wl ?_))
        refine wl_nil ?_
        refine ex_seq ?_
        refine cw_ret ?_
        obtain rfl := Option.some.inj h
        exact ex_r1 Tb rfl (.tmp rfl) (fun wq hq => ⟨_, rfl, hq.ext, rfl⟩)
    · skip
      replace h := bf cc5 h
      refine wl_n rfl rfl rfl rfl ?_
      refine wl_n rfl rfl rfl rfl ?_
      refine wl_n rfl rfl rfl rfl ?_
      refine wl_n rfl rfl rfl rfl ?_
      refine wl_n rfl rfl rfl rfl ?_
      refine wl_n rfl rfl rfl rfl ?_
      refine wl_u rfl (ow_y (yh_pickF rfl rfl rfl) rfl rfl (kk_wl ?_))
      refine wl_u rfl (ow_y (yh_move rfl rfl) rfl rfl (kk_wl ?_))
      refine wl_s rfl rfl nofun (fun _ => ?_)
      refine wl_n rfl rfl rfl rfl ?_
      refine wl_n rfl rfl rfl rfl ?_
      refine wl_n rfl rfl rfl rfl ?_
      refine wl_n rfl rfl rfl rfl ?_
      refine wl_u rfl (ow_y (yh_pickF rfl rfl rfl) rfl rfl (kk_wl ?_))
      refine wl_u rfl (ow_y (yh_assign rfl rfl) rfl rfl (kk_wl ?_))
      refine wl_nil ?_
      refine ex_seq ?_
      refine cw_ret ?_
      obtain rfl := Option.some.inj h
      exact ex_r1 Tb rfl (.tmp rfl) (fun wq hq => ⟨_, rfl, hq.ext, rfl⟩)

def m_spec_l2At_L4 (N : Nat) (steps : List Step) (name : Str) : Nat → Nat → Option (Ex (Nat) (Int))
  | 0, _ => none
  | n + 1, s5 => (bif ltb ((s5 : Nat) : Int) ((steps.length : Nat) : Int) then (steps[s5]?).bind fun y14 => (bif seq y14.name name then some (Ex.ret ((s5 : Nat) : Int))
 else m_spec_l2At_L4 N steps name n (s5 + 1))
 else some (Ex.brk (s5)))

def m_spec_l2At (N : Nat) (steps : List Step) (name : Str) : Option (Int) := (m_spec_l2At_L4 N steps name N 0).bind fun e4 => e4.go (fun r => r) fun b4 => some (-1)

set_option maxHeartbeats 4000000 in
theorem c_spec_l2At (N : Nat) (steps : List Step) (name : Str) (res : Int) (h : m_spec_l2At N steps name = some res) (w : World) {a_steps : Option Addr} {c_steps : Nat} (h_steps : stepsL.rd w [] [.slice a_steps steps.length c_steps] steps) : Ret Tryz.prog 84 [.slice a_steps steps.length c_steps, .string name] w [] fun v w' => v = .int .i64 res := by
  have mh_steps := rd_max h_steps
  unfold m_spec_l2At at h
  refine ret_enter Tryz.func84 rfl Tryz.ntmps84 rfl (Hp.refl w _) ?_
  refine cw_seq ?_
  refine cw_region ?_
  refine wl_u rfl (ow_y (yh_assign rfl rfl) rfl rfl (kk_wl ?_))
  refine wl_nil ?_
  refine ex_seq ?_
  refine cw_seq ?_
  refine cw_seq ?_
  refine cw_region ?_
  refine wl_u rfl (ow_y (yh_assign rfl rfl) rfl rfl (kk_wl ?_))
  refine wl_nil ?_
  refine ex_seq ?_
  refine cw_block ?_
  obtain ⟨e4, he4, hk4⟩ := bd h
  clear h
  refine cw_loopG (σ := Nat × Nat) (fun s => m_spec_l2At_L4 N steps name s.1 s.2 = some e4) (fun s => [(0, .slice a_steps steps.length c_steps), (1, .string name), (5, .int .i64 ((s.2 : Nat) : Int))]) (fun s => []) (fun s => s.1) (N, 0) [] he4 ⟨rfl, rfl, rfl, trivial⟩ rfl (fun KL s he4 hn4 => ?_)
  obtain ⟨n4, s5⟩ := s
  simp only at he4 hn4 ⊢
  rcases n4 with _ | n4
  · exact nosome he4
  have h := he4; rw [m_spec_l2At_L4] at h
  refine cw_seq ?_
  refine cw_seq ?_
  refine cw_region ?_
  refine wl_u rfl (ow_y (yh_move rfl rfl) rfl rfl (kk_wl ?_))
  refine wl_u rfl (ow_y (yh_move rfl rfl) rfl rfl (kk_wl ?_))
  refine wl_u rfl (ow_y (yh_lenS Tb rfl rfl rfl rfl) rfl rfl (kk_wl ?_))
  refine wl_u rfl (ow_y (yh_cmpI rfl rfl rfl rfl) rfl rfl (kk_wl ?_))
  refine wl_nil ?_
  refine ex_seq ?_
  refine cw_split rfl (fun cc1 => ?_) (fun cc1 => ?_)
  · skip
    replace h := bt cc1 h
    have q1 := ltb_true.1 cc1
    refine cw_skip ?_
    refine ex_seq ?_
    refine cw_seq ?_
    refine cw_block ?_
    refine cw_seq ?_
    refine cw_region ?_
    refine wl_u rfl (ow_y (yh_move rfl rfl) rfl rfl (kk_wl ?_))
    refine wl_u rfl (ow_y (yh_move rfl rfl) rfl rfl (kk_wl ?_))
    obtain ⟨y14, hy14, h⟩ := bd h
    obtain ⟨b14, o14, ha14⟩ := sl_addr h_steps hy14
    subst ha14
    obtain ⟨a14, e14, hc14, hf14⟩ := get_step h_steps hy14
    have mx14 := rd_max hf14
    refine wl_u rfl (ow_y (yh_idx Tb (k := s5) rfl rfl rfl rfl (get_lt hy14) rfl rfl) rfl rfl (kk_wl ?_))
    refine wl_u rfl (ow_y (yh_field Tb rfl rfl rfl) rfl rfl (kk_wl ?_))
    refine wl_u rfl (ow_y (yh_loadAF Tb (j := 0) rfl rfl rfl hc14 rfl) rfl rfl (kk_wl ?_))
    refine wl_u rfl (ow_y (yh_move rfl rfl) rfl rfl (kk_wl ?_))
    refine wl_u rfl (ow_y (yh_cmpS rfl rfl rfl rfl) rfl rfl (kk_wl ?_))
    refine wl_nil ?_
    refine ex_seq ?_
    refine cw_split rfl (fun cc2 => ?_) (fun cc2 => ?_)
    · skip
      replace h := bt cc2 h
      refine cw_seq ?_
      refine cw_region ?_
      refine wl_u rfl (ow_y (yh_move rfl rfl) rfl rfl (kk_wl ?_))
      refine wl_u rfl (ow_y (yh_assign rfl rfl) rfl rfl (kk_wl ?_))
      refine wl_nil ?_
      refine ex_seq ?_
      refine cw_ret ?_
      refine ex_block_ret ?_
      refine ex_then_ret ?_
      refine ex_then_ret ?_
      refine ex_block_ret ?_
      refine ex_then_ret ?_
      obtain rfl := Option.some.inj h
      obtain rfl := go_ret hk4
      exact ex_r1 Tb rfl (.tmp rfl) (fun wq hq => ⟨_, rfl, hq.ext, rfl⟩)
    · skip
      replace h := bf cc2 h
      refine cw_skip ?_
      refine ex_block_normal ?_
      refine ex_seq ?_
      refine cw_region ?_
      refine wl_u rfl (ow_y (yh_move rfl rfl) rfl rfl (kk_wl ?_))
      refine wl_u rfl (ow_y (yh_arI rfl rfl rfl rfl (by omega)) rfl rfl (kk_wl ?_))
      refine wl_u rfl (ow_y (yh_assign rfl rfl) rfl rfl (kk_wl ?_))
      refine wl_nil ?_
      exact ex_next [] (hn4 (n4, s5 + 1) (Nat.lt_succ_self _) h) ⟨rfl, rfl, rfl, trivial⟩ (by kernel_rfl)
  · skip
    replace h := bf cc1 h
    have q2 := ltb_false.1 cc1
    refine cw_exit ?_
    refine ex_then_exit ?_
    refine ex_then_exit ?_
    obtain rfl := Option.some.inj h
    have h := go_brk hk4
    refine ex_block_exit ?_
    refine ex_seq ?_
    refine cw_seq ?_
    refine cw_region ?_
    refine wl_u rfl (ow_y (yh_assign rfl rfl) rfl rfl (kk_wl ?_))
    refine wl_nil ?_
    refine ex_seq ?_
    refine cw_ret ?_
    obtain rfl := Option.some.inj h
    exact ex_r1 Tb rfl (.tmp rfl) (fun wq hq => ⟨_, rfl, hq.ext, rfl⟩)

def m_spec_l1Have_L4 (N : Nat) (list_ : List Str) (names : List Str) : Nat → Nat → Option (Ex (Nat) (Bool))
  | 0, _ => none
  | n + 1, s5 => (bif ltb ((s5 : Nat) : Int) ((names.length : Nat) : Int) then (names[s5]?).bind fun y15 => (m_spec_l1At N list_ y15).bind fun x17 => (bif ltb x17 0 then some (Ex.ret false)
 else m_spec_l1Have_L4 N list_ names n (s5 + 1))
 else some (Ex.brk (s5)))

def m_spec_l1Have (N : Nat) (list_ : List Str) (names : List Str) : Option (Bool) := (m_spec_l1Have_L4 N list_ names N 0).bind fun e4 => e4.go (fun r => r) fun b4 => some true

set_option maxHeartbeats 4000000 in
theorem c_spec_l1Have (N : Nat) (list_ : List Str) (names : List Str) (res : Bool) (h : m_spec_l1Have N list_ names = some res) (w : World) {a_list_ a_names : Option Addr} {c_list_ c_names : Nat} (h_list_ : strsL.rd w [] [.slice a_list_ list_.length c_list_] list_) (h_names : strsL.rd w [] [.slice a_names names.length c_names] names) : Ret Tryz.prog 102 [.slice a_list_ list_.length c_list_, .slice a_names names.length c_names] w [] fun v w' => v = .bool res := by
  have mh_list_ := rd_max h_list_
  have mh_names := rd_max h_names
  unfold m_spec_l1Have at h
  refine ret_enter Tryz.func102 rfl Tryz.ntmps102 rfl (Hp.refl w _) ?_
  refine cw_seq ?_
  refine cw_region ?_
  refine wl_u rfl (ow_y (yh_assign rfl rfl) rfl rfl (kk_wl ?_))
  refine wl_nil ?_
  refine ex_seq ?_
  refine cw_seq ?_
  refine cw_seq ?_
  refine cw_region ?_
  refine wl_u rfl (ow_y (yh_assign rfl rfl) rfl rfl (kk_wl ?_))
  refine wl_nil ?_
  refine ex_seq ?_
  refine cw_block ?_
  obtain ⟨e4, he4, hk4⟩ := bd h
  clear h
  refine cw_loopG (σ := Nat × Nat) (fun s => m_spec_l1Have_L4 N list_ names s.1 s.2 = some e4) (fun s => [(0, .slice a_list_ list_.length c_list_), (1, .slice a_names names.length c_names), (5, .int .i64 ((s.2 : Nat) : Int))]) (fun s => []) (fun s => s.1) (N, 0) [] he4 ⟨rfl, rfl, rfl, trivial⟩ rfl (fun KL s he4 hn4 => ?_)
  obtain ⟨n4, s5⟩ := s
  simp only at he4 hn4 ⊢
  rcases n4 with _ | n4
  · exact nosome he4
  have h := he4; rw [m_spec_l1Have_L4] at h
  refine cw_seq ?_
  refine cw_seq ?_
  refine cw_region ?_
  refine wl_u rfl (ow_y (yh_move rfl rfl) rfl rfl (kk_wl ?_))
  refine wl_u rfl (ow_y (yh_move rfl rfl) rfl rfl (kk_wl ?_))
  refine wl_u rfl (ow_y (yh_lenS Tb rfl rfl rfl rfl) rfl rfl (kk_wl ?_))
  refine wl_u rfl (ow_y (yh_cmpI rfl rfl rfl rfl) rfl rfl (kk_wl ?_))
  refine wl_nil ?_
  refine ex_seq ?_
  refine cw_split rfl (fun cc1 => ?_) (fun cc1 => ?_)
  · skip
    replace h := bt cc1 h
    have q1 := ltb_true.1 cc1
    refine cw_skip ?_
    refine ex_seq ?_
    refine cw_seq ?_
    refine cw_block ?_
    refine cw_seq ?_
    refine cw_region ?_
    refine wl_u rfl (ow_y (yh_move rfl rfl) rfl rfl (kk_wl ?_))
    refine wl_u rfl (ow_y (yh_move rfl rfl) rfl rfl (kk_wl ?_))
    refine wl_u rfl (ow_y (yh_move rfl rfl) rfl rfl (kk_wl ?_))
    obtain ⟨y15, hy15, h⟩ := bd h
    obtain ⟨b15, o15, ha15⟩ := sl_addr h_names hy15
    subst ha15
    have hc15 := get_str h_names hy15
    refine wl_u rfl (ow_y (yh_idx Tb (k := s5) rfl rfl rfl rfl (get_lt hy15) rfl rfl) rfl rfl (kk_wl ?_))
    refine wl_u rfl (ow_y (yh_loadA0 Tb rfl rfl rfl hc15 rfl) rfl rfl (kk_wl ?_))
    obtain ⟨x17, hx17, h⟩ := bd h
    refine wl_u rfl (ow_cV rfl hb67 rfl (fun w hw => c_spec_l1At N _ _ _ hx17 w (Lay.at_ h_list_ hw)) rfl rfl (kk_wl ?_))
    refine wl_u rfl (ow_y (yh_cmpI rfl rfl rfl rfl) rfl rfl (kk_wl ?_))
    refine wl_nil ?_
    refine ex_seq ?_
    refine cw_split rfl (fun cc2 => ?_) (fun cc2 => ?_)
    · skip
      replace h := bt cc2 h
      have q2 := ltb_true.1 cc2
      refine cw_seq ?_
      refine cw_region ?_
      refine wl_u rfl (ow_y (yh_assign rfl rfl) rfl rfl (kk_wl ?_))
      refine wl_nil ?_
      refine ex_seq ?_
      refine cw_ret ?_
      refine ex_block_ret ?_
      refine ex_then_ret ?_
      refine ex_then_ret ?_
      refine ex_block_ret ?_
      refine ex_then_ret ?_
      obtain rfl := Option.some.inj h
      obtain rfl := go_ret hk4
      exact ex_r1 Tb rfl (.tmp rfl) (fun wq hq => ⟨_, rfl, hq.ext, rfl⟩)
    · skip
      replace h := bf cc2 h
      have q3 := ltb_false.1 cc2
      refine cw_skip ?_
      refine ex_block_normal ?_
      refine ex_seq ?_
      refine cw_region ?_
      refine wl_u rfl (ow_y (yh_move rfl rfl) rfl rfl (kk_wl ?_))
      refine wl_u rfl (ow_y (yh_arI rfl rfl rfl rfl (by omega)) rfl rfl (kk_wl ?_))
      refine wl_u rfl (ow_y (yh_assign rfl rfl) rfl rfl (kk_wl ?_))
      refine wl_nil ?_
      exact ex_next [] (hn4 (n4, s5 + 1) (Nat.lt_succ_self _) h) ⟨rfl, rfl, rfl, trivial⟩ (by kernel_rfl)
  · skip
    replace h := bf cc1 h
    have q4 := ltb_false.1 cc1
    refine cw_exit ?_
    refine ex_then_exit ?_
    refine ex_then_exit ?_
    obtain rfl := Option.some.inj h
    have h := go_brk hk4
    refine ex_block_exit ?_
    refine ex_seq ?_
    refine cw_seq ?_
    refine cw_region ?_
    refine wl_u rfl (ow_y (yh_assign rfl rfl) rfl rfl (kk_wl ?_))
    refine wl_nil ?_
    refine ex_seq ?_
    refine cw_ret ?_
    obtain rfl := Option.some.inj h
    exact ex_r1 Tb rfl (.tmp rfl) (fun wq hq => ⟨_, rfl, hq.ext, rfl⟩)

def m_spec_l2Next_L4 (N : Nat) (steps : List Step) (done : List Str) : Nat → Nat → Option (Ex (Nat) (Str))
  | 0, _ => none
  | n + 1, s5 => (bif ltb ((s5 : Nat) : Int) ((steps.length : Nat) : Int) then (steps[s5]?).bind fun y15 => (m_spec_l1At N done y15.name).bind fun x18 => (bif ltb x18 0 then (m_spec_l1Have N done y15.after).bind fun x27 => (bif x27 then some (Ex.ret y15.name)
 else m_spec_l2Next_L4 N steps done n (s5 + 1))
 else m_spec_l2Next_L4 N steps done n (s5 + 1))
 else some (Ex.brk (s5)))

def m_spec_l2Next (N : Nat) (steps : List Step) (done : List Str) : Option (Str) := (m_spec_l2Next_L4 N steps done N 0).bind fun e4 => e4.go (fun r => r) fun b4 => some (⟨#[]⟩ : Str)

set_option maxHeartbeats 4000000 in
theorem c_spec_l2Next (N : Nat) (steps : List Step) (done : List Str) (res : Str) (h : m_spec_l2Next N steps done = some res) (w : World) {a_done a_steps : Option Addr} {c_done c_steps : Nat} (h_steps : stepsL.rd w [] [.slice a_steps steps.length c_steps] steps) (h_done : strsL.rd w [] [.slice a_done done.length c_done] done) : Ret Tryz.prog 113 [.slice a_steps steps.length c_steps, .slice a_done done.length c_done] w [] fun v w' => v = .string res := by
  have mh_steps := rd_max h_steps
  have mh_done := rd_max h_done
  unfold m_spec_l2Next at h
  refine ret_enter Tryz.func113 rfl Tryz.ntmps113 rfl (Hp.refl w _) ?_
  refine cw_seq ?_
  refine cw_region ?_
  refine wl_u rfl (ow_y (yh_assign rfl rfl) rfl rfl (kk_wl ?_))
  refine wl_nil ?_
  refine ex_seq ?_
  refine cw_seq ?_
  refine cw_seq ?_
  refine cw_region ?_
  refine wl_u rfl (ow_y (yh_assign rfl rfl) rfl rfl (kk_wl ?_))
  refine wl_nil ?_
  refine ex_seq ?_
  refine cw_block ?_
  obtain ⟨e4, he4, hk4⟩ := bd h
  clear h
  refine cw_loopG (σ := Nat × Nat) (fun s => m_spec_l2Next_L4 N steps done s.1 s.2 = some e4) (fun s => [(0, .slice a_steps steps.length c_steps), (1, .slice a_done done.length c_done), (5, .int .i64 ((s.2 : Nat) : Int))]) (fun s => []) (fun s => s.1) (N, 0) [] he4 ⟨rfl, rfl, rfl, trivial⟩ rfl (fun KL s he4 hn4 => ?_)
  obtain ⟨n4, s5⟩ := s
  simp only at he4 hn4 ⊢
  rcases n4 with _ | n4
  · exact nosome he4
  have h := he4; rw [m_spec_l2Next_L4] at h
  refine cw_seq ?_
  refine cw_seq ?_
  refine cw_region ?_
  refine wl_u rfl (ow_y (yh_move rfl rfl) rfl rfl (kk_wl ?_))
  refine wl_u rfl (ow_y (yh_move rfl rfl) rfl rfl (kk_wl ?_))
  refine wl_u rfl (ow_y (yh_lenS Tb rfl rfl rfl rfl) rfl rfl (kk_wl ?_))
  refine wl_u rfl (ow_y (yh_cmpI rfl rfl rfl rfl) rfl rfl (kk_wl ?_))
  refine wl_nil ?_
  refine ex_seq ?_
  refine cw_split rfl (fun cc1 => ?_) (fun cc1 => ?_)
  · skip
    replace h := bt cc1 h
    have q1 := ltb_true.1 cc1
    refine cw_skip ?_
    refine ex_seq ?_
    refine cw_seq ?_
    refine cw_block ?_
    refine cw_seq ?_
    refine cw_region ?_
    refine wl_u rfl (ow_y (yh_move rfl rfl) rfl rfl (kk_wl ?_))
    refine wl_u rfl (ow_y (yh_move rfl rfl) rfl rfl (kk_wl ?_))
    refine wl_u rfl (ow_y (yh_move rfl rfl) rfl rfl (kk_wl ?_))
    obtain ⟨y15, hy15, h⟩ := bd h
    obtain ⟨b15, o15, ha15⟩ := sl_addr h_steps hy15
    subst ha15
    obtain ⟨a15, e15, hc15, hf15⟩ := get_step h_steps hy15
    have mx15 := rd_max hf15
    refine wl_u rfl (ow_y (yh_idx Tb (k := s5) rfl rfl rfl rfl (get_lt hy15) rfl rfl) rfl rfl (kk_wl ?_))
    refine wl_u rfl (ow_y (yh_field Tb rfl rfl rfl) rfl rfl (kk_wl ?_))
    refine wl_u rfl (ow_y (yh_loadAF Tb (j := 0) rfl rfl rfl hc15 rfl) rfl rfl (kk_wl ?_))
    obtain ⟨x18, hx18, h⟩ := bd h
    refine wl_u rfl (ow_cV rfl hb67 rfl (fun w hw => c_spec_l1At N _ _ _ hx18 w (Lay.at_ h_done hw)) rfl rfl (kk_wl ?_))
    refine wl_u rfl (ow_y (yh_cmpI rfl rfl rfl rfl) rfl rfl (kk_wl ?_))
    refine wl_u rfl (ow_y (yh_move rfl rfl) rfl rfl (kk_wl ?_))
    refine wl_s rfl rfl (fun cc2 => ?_) (fun cc2 => ?_)
    · skip
      replace h := bt cc2 h
      have q2 := ltb_true.1 cc2
      refine wl_g rfl rfl (ow_y (yh_move rfl rfl) rfl rfl (kk_wl ?_))
      refine wl_g rfl rfl (ow_y (yh_move rfl rfl) rfl rfl (kk_wl ?_))
      refine wl_g rfl rfl (ow_y (yh_move rfl rfl) rfl rfl (kk_wl ?_))
      refine wl_g rfl rfl (ow_y (yh_idx Tb (k := s5) rfl rfl rfl rfl (get_lt hy15) rfl rfl) rfl rfl (kk_wl ?_))
      refine wl_g rfl rfl (ow_y (yh_field Tb rfl rfl rfl) rfl rfl (kk_wl ?_))
      refine wl_g rfl rfl (ow_y (yh_loadAF Tb (j := 1) rfl rfl rfl hc15 rfl) rfl rfl (kk_wl ?_))
      obtain ⟨x27, hx27, h⟩ := bd h
      refine wl_g rfl rfl (ow_cV rfl hb102 rfl (fun w hw => c_spec_l1Have N _ _ _ hx27 w (Lay.at_ h_done hw) (Lay.at_ hf15 hw)) rfl rfl (kk_wl ?_))
      refine wl_u rfl (ow_y (yh_pickT rfl rfl rfl) rfl rfl (kk_wl ?_))
      refine wl_nil ?_
      refine ex_seq ?_
      refine cw_split rfl (fun cc3 => ?_) (fun cc3 => ?_)
      · skip
        replace h := bt cc3 h
        refine cw_seq ?_
        refine cw_region ?_
        refine wl_u rfl (ow_y (yh_move rfl rfl) rfl rfl (kk_wl ?_))
        refine wl_u rfl (ow_y (yh_move rfl rfl) rfl rfl (kk_wl ?_))
        refine wl_u rfl (ow_y (yh_idx Tb (k := s5) rfl rfl rfl rfl (get_lt hy15) rfl rfl) rfl rfl (kk_wl ?_))
        refine wl_u rfl (ow_y (yh_field Tb rfl rfl rfl) rfl rfl (kk_wl ?_))
        refine wl_u rfl (ow_y (yh_loadAF Tb (j := 0) rfl rfl rfl hc15 rfl) rfl rfl (kk_wl ?_))
        refine wl_u rfl (ow_y (yh_assign rfl rfl) rfl rfl (kk_wl ?_))
        refine wl_nil ?_
        refine ex_seq ?_
        refine cw_ret ?_
        refine ex_block_ret ?_
        refine ex_then_ret ?_
        refine ex_then_ret ?_
        refine ex_block_ret ?_
        refine ex_then_ret ?_
        obtain rfl := Option.some.inj h
        obtain rfl := go_ret hk4
        exact ex_r1 Tb rfl (.tmp rfl) (fun wq hq => ⟨_, rfl, hq.ext, rfl⟩)
      · skip
        replace h := bf cc3 h
        refine cw_skip ?_
        refine ex_block_normal ?_
        refine ex_seq ?_
        refine cw_region ?_
        refine wl_u rfl (ow_y (yh_move rfl rfl) rfl rfl (kk_wl ?_))
        refine wl_u rfl (ow_y (yh_arI rfl rfl rfl rfl (by omega)) rfl rfl (kk_wl ?_))
        refine wl_u rfl (ow_y (yh_assign rfl rfl) rfl rfl (kk_wl ?_))
        refine wl_nil ?_
        exact ex_next [] (hn4 (n4, s5 + 1) (Nat.lt_succ_self _) h) ⟨rfl, rfl, rfl, trivial⟩ (by kernel_rfl)
    · skip
      replace h := bf cc2 h
      have q3 := ltb_false.1 cc2
      refine wl_n rfl rfl rfl rfl ?_
      refine wl_n rfl rfl rfl rfl ?_
      refine wl_n rfl rfl rfl rfl ?_
      refine wl_n rfl rfl rfl rfl ?_
      refine wl_n rfl rfl rfl rfl ?_
      refine wl_n rfl rfl rfl rfl ?_
      refine wl_n rfl rfl rfl rfl ?_
      refine wl_u rfl (ow_y (yh_pickF rfl rfl rfl) rfl rfl (kk_wl ?_))
      refine wl_nil ?_
      refine ex_seq ?_
      refine cw_false rfl ?_
      refine cw_skip ?_
      refine ex_block_normal ?_
      refine ex_seq ?_
      refine cw_region ?_
      refine wl_u rfl (ow_y (yh_move rfl rfl) rfl rfl (kk_wl ?_))
      refine wl_u rfl (ow_y (yh_arI rfl rfl rfl rfl (by omega)) rfl rfl (kk_wl ?_))
      refine wl_u rfl (ow_y (yh_assign rfl rfl) rfl rfl (kk_wl ?_))
      refine wl_nil ?_
      exact ex_next [] (hn4 (n4, s5 + 1) (Nat.lt_succ_self _) h) ⟨rfl, rfl, rfl, trivial⟩ (by kernel_rfl)
  · skip
    replace h := bf cc1 h
    have q4 := ltb_false.1 cc1
    refine cw_exit ?_
    refine ex_then_exit ?_
    refine ex_then_exit ?_
    obtain rfl := Option.some.inj h
    have h := go_brk hk4
    refine ex_block_exit ?_
    refine ex_seq ?_
    refine cw_seq ?_
    refine cw_region ?_
    refine wl_u rfl (ow_y (yh_assign rfl rfl) rfl rfl (kk_wl ?_))
    refine wl_nil ?_
    refine ex_seq ?_
    refine cw_ret ?_
    obtain rfl := Option.some.inj h
    exact ex_r1 Tb rfl (.tmp rfl) (fun wq hq => ⟨_, rfl, hq.ext, rfl⟩)

def m_spec_l2Order_L5 (N : Nat) (steps : List Step) : Nat → (List Str) → Nat → Option (Ex (List Str × Nat) (List Str))
  | 0, _, _ => none
  | n + 1, s3, s4 => (bif ltb ((s4 : Nat) : Int) ((steps.length : Nat) : Int) then (m_spec_l2Next N steps s3).bind fun x15 => (bif !(seq x15 (⟨#[]⟩ : Str)) then (appd s3 ([x15] : List Str)).bind fun l21 => m_spec_l2Order_L5 N steps n (s3 ++ ([x15] : List Str)) (s4 + 1)
 else m_spec_l2Order_L5 N steps n s3 (s4 + 1))
 else some (Ex.brk (s3, s4)))

def m_spec_l2Order (N : Nat) (steps : List Step) : Option (List Str) := (m_spec_l2Order_L5 N steps N ([] : List Str) 0).bind fun e5 => e5.go (fun r => r) fun b5 => some b5.1

set_option maxHeartbeats 4000000 in
theorem c_spec_l2Order (N : Nat) (steps : List Step) (res : List Str) (h : m_spec_l2Order N steps = some res) (w : World) {a_steps : Option Addr} {c_steps : Nat} (h_steps : stepsL.rd w [] [.slice a_steps steps.length c_steps] steps) : Ret Tryz.prog 86 [.slice a_steps steps.length c_steps] w [] fun v w' => ∃ a1 c1 F1, v = .slice a1 res.length c1 ∧ NewC w w' [owC strsL F1 [.slice a1 res.length c1] res] := by
  have mh_steps := rd_max h_steps
  unfold m_spec_l2Order at h
  refine ret_enter Tryz.func86 rfl Tryz.ntmps86 rfl (Hp.refl w _) ?_
  refine cw_seq ?_
  refine cw_region ?_
  refine wl_u rfl (ow_y (yh_assign rfl rfl) rfl rfl (kk_wl ?_))
  refine wl_nil ?_
  refine ex_seq ?_
  refine cw_seq ?_
  refine cw_region ?_
  refine wl_u rfl (ow_lit0 Tb rfl rfl rfl rfl rfl rfl (fun g6 => kk_chg (c' := owC strsL [g6] [.slice (some ⟨g6, 0, none⟩) 0 0] ([] : List Str)) 0 rfl (fun w hA => own_strsL ([] : List Str) hA rfl (by simp [maxLen])) rfl (kk_wl ?_)))
  refine wl_u rfl (ow_y (yh_assign rfl rfl) rfl rfl (kk_wl ?_))
  refine wl_nil ?_
  refine ex_seq ?_
  refine cw_seq ?_
  refine cw_seq ?_
  refine cw_region ?_
  refine wl_u rfl (ow_y (yh_assign rfl rfl) rfl rfl (kk_wl ?_))
  refine wl_nil ?_
  refine ex_seq ?_
  refine cw_block ?_
  obtain ⟨e5, he5, hk5⟩ := bd h
  clear h
  refine cw_loopG (σ := Nat × (List Str) × Nat × (Option Addr) × Nat × (List Nat)) (fun s => m_spec_l2Order_L5 N steps s.1 s.2.1 s.2.2.1 = some e5) (fun s => [(0, .slice a_steps steps.length c_steps), (3, .slice s.2.2.2.1 s.2.1.length s.2.2.2.2.1), (4, .int .i64 ((s.2.2.1 : Nat) : Int))]) (fun s => [owC strsL s.2.2.2.2.2 [.slice s.2.2.2.1 s.2.1.length s.2.2.2.2.1] s.2.1]) (fun s => s.1) (N, ([] : List Str), 0, (some ⟨g6, 0, none⟩), 0, [g6]) [0] he5 ⟨rfl, rfl, rfl, trivial⟩ rfl (fun KL s he5 hn5 => ?_)
  obtain ⟨n5, s3, s4, as3, cs3, Fs3⟩ := s
  simp only at he5 hn5 ⊢
  rcases n5 with _ | n5
  · exact nosome he5
  have h := he5; rw [m_spec_l2Order_L5] at h
  refine cw_seq ?_
  refine cw_seq ?_
  refine cw_region ?_
  refine wl_u rfl (ow_y (yh_move rfl rfl) rfl rfl (kk_wl ?_))
  refine wl_u rfl (ow_y (yh_move rfl rfl) rfl rfl (kk_wl ?_))
  refine wl_u rfl (ow_y (yh_lenS Tb rfl rfl rfl rfl) rfl rfl (kk_wl ?_))
  refine wl_u rfl (ow_y (yh_cmpI rfl rfl rfl rfl) rfl rfl (kk_wl ?_))
  refine wl_nil ?_
  refine ex_seq ?_
  refine cw_split rfl (fun cc1 => ?_) (fun cc1 => ?_)
  · skip
    replace h := bt cc1 h
    have q1 := ltb_true.1 cc1
    refine cw_skip ?_
    refine ex_seq ?_
    refine cw_seq ?_
    refine cw_block ?_
    refine cw_seq ?_
    refine cw_region ?_
    refine wl_u rfl (ow_y (yh_move rfl rfl) rfl rfl (kk_wl ?_))
    refine wl_u rfl (ow_y (yh_move rfl rfl) rfl rfl (kk_wl ?_))
    obtain ⟨x15, hx15, h⟩ := bd h
    refine wl_u rfl (ow_cV rfl hb113 rfl (fun w hw => c_spec_l2Next N _ _ _ hx15 w (Lay.at_ h_steps hw) (rdo (A := strsL) 0 rfl hw)) rfl rfl (kk_wl ?_))
    refine wl_u rfl (ow_y (yh_assign rfl rfl) rfl rfl (kk_wl ?_))
    refine wl_nil ?_
    refine ex_seq ?_
    refine cw_seq ?_
    refine cw_region ?_
    refine wl_u rfl (ow_y (yh_move rfl rfl) rfl rfl (kk_wl ?_))
    refine wl_u rfl (ow_y (yh_cmpS rfl rfl rfl rfl) rfl rfl (kk_wl ?_))
    refine wl_nil ?_
    refine ex_seq ?_
    refine cw_split rfl (fun cc2 => ?_) (fun cc2 => ?_)
    · skip
      replace h := bt cc2 h
      refine cw_region ?_
      refine wl_u rfl (ow_y (yh_move rfl rfl) rfl rfl (kk_wl ?_))
      refine wl_u rfl (ow_y (yh_move rfl rfl) rfl rfl (kk_wl ?_))
      refine wl_u rfl (ow_lit1 Tb rfl rfl rfl rfl rfl rfl rfl rfl rfl rfl (fun g20 => kk_chg (c' := owC strsL [g20] [.slice (some ⟨g20, 0, none⟩) 1 1] ([x15] : List Str)) 0 rfl (fun w hA => own_strsL ([x15] : List Str) hA rfl (by simp [maxLen])) rfl (kk_wl ?_)))
      obtain ⟨hll21, h⟩ := bd_appd h
      refine wl_u rfl (ow_appP Tb (i := 1) rfl rfl rfl rfl rfl (fun w hw => rdo (A := strsL) 0 rfl hw) rfl rfl rfl rfl hll21 (by decide) rfl rfl (fun a21 c21 F21 => kk_wl ?_))
      refine wl_u rfl (ow_y (yh_assign rfl rfl) rfl rfl (kk_wl ?_))
      refine wl_nil ?_
      refine ex_block_normal ?_
      refine ex_seq ?_
      refine cw_region ?_
      refine wl_u rfl (ow_y (yh_move rfl rfl) rfl rfl (kk_wl ?_))
      refine wl_u rfl (ow_y (yh_arI rfl rfl rfl rfl (by omega)) rfl rfl (kk_wl ?_))
      refine wl_u rfl (ow_y (yh_assign rfl rfl) rfl rfl (kk_wl ?_))
      refine wl_nil ?_
      exact ex_next [0] (hn5 (n5, (s3 ++ ([x15] : List Str)), s4 + 1, a21, c21, F21) (Nat.lt_succ_self _) h) ⟨rfl, rfl, rfl, trivial⟩ (by kernel_rfl)
    · skip
      replace h := bf cc2 h
      refine cw_skip ?_
      refine ex_block_normal ?_
      refine ex_seq ?_
      refine cw_region ?_
      refine wl_u rfl (ow_y (yh_move rfl rfl) rfl rfl (kk_wl ?_))
      refine wl_u rfl (ow_y (yh_arI rfl rfl rfl rfl (by omega)) rfl rfl (kk_wl ?_))
      refine wl_u rfl (ow_y (yh_assign rfl rfl) rfl rfl (kk_wl ?_))
      refine wl_nil ?_
      exact ex_next [0] (hn5 (n5, s3, s4 + 1, as3, cs3, Fs3) (Nat.lt_succ_self _) h) ⟨rfl, rfl, rfl, trivial⟩ (by kernel_rfl)
  · skip
    replace h := bf cc1 h
    have q2 := ltb_false.1 cc1
    refine cw_exit ?_
    refine ex_then_exit ?_
    refine ex_then_exit ?_
    obtain rfl := Option.some.inj h
    have h := go_brk hk5
    refine ex_block_exit ?_
    refine ex_seq ?_
    refine cw_seq ?_
    refine cw_region ?_
    refine wl_u rfl (ow_y (yh_move rfl rfl) rfl rfl (kk_wl ?_))
    refine wl_u rfl (ow_y (yh_assign rfl rfl) rfl rfl (kk_wl ?_))
    refine wl_nil ?_
    refine ex_seq ?_
    refine cw_ret ?_
    obtain rfl := Option.some.inj h
    exact ex_r1 Tb rfl (.tmp rfl) (fun wq hq => ⟨_, rfl, hq.ext, ⟨as3, cs3, Fs3, rfl, NewC.sel [0] hq rfl⟩⟩)

def m_spec_FlowValid_L21 (N : Nat) (u0 : Flow) (y16 : Step) : Nat → Nat → Option (Ex (Nat) (Bool))
  | 0, _ => none
  | n + 1, s5 => (bif ltb ((s5 : Nat) : Int) ((y16.after.length : Nat) : Int) then (y16.after[s5]?).bind fun y49 => (m_spec_l2At N u0.steps y49).bind fun x51 => (bif ltb x51 0 then some (Ex.ret false)
 else m_spec_FlowValid_L21 N u0 y16 n (s5 + 1))
 else some (Ex.brk (s5)))

def m_spec_FlowValid_L9 (N : Nat) (u0 : Flow) : Nat → Nat → Option (Ex (Nat) (Bool))
  | 0, _ => none
  | n + 1, s3 => (bif ltb ((s3 : Nat) : Int) ((u0.steps.length : Nat) : Int) then (u0.steps[s3]?).bind fun y16 => ((m_spec_StepValid N y16).bind fun x19 => (bif !x19 then some (Ex.ret false)
 else (bif ltb 0 ((s3 : Nat) : Int) then (geti u0.steps (((s3 : Nat) : Int) - 1)).bind fun y29 => (bif !(slt y29.name y16.name) then some (Ex.ret false)
 else some (Ex.brk ()))
 else some (Ex.brk ()))) : Option (Ex (Unit) (Bool))).bind fun e114 => e114.go Ex.ret fun j114 => (m_spec_FlowValid_L21 N u0 y16 N 0).bind fun e21 => e21.go Ex.ret fun b21 => m_spec_FlowValid_L9 N u0 n (s3 + 1)
 else some (Ex.brk (s3)))

def m_spec_FlowValid (N : Nat) (u0 : Flow) : Option (Bool) := (m_spec_FlowValid_L9 N u0 N 0).bind fun e9 => e9.go (fun r => r) fun b9 => (m_spec_l6In N u0.ver 1 99).bind fun x55 => (bif x55 then (m_spec_l6In N ((u0.steps.length : Nat) : Int) 1 8).bind fun x60 => (bif x60 then (m_spec_l2Order N u0.steps).bind fun x65 => some (eqb ((x65.length : Nat) : Int) ((u0.steps.length : Nat) : Int))
 else some false)
 else some false)

set_option maxHeartbeats 4000000 in
theorem c_spec_FlowValid (N : Nat) (u0 : Flow) (res : Bool) (h : m_spec_FlowValid N u0 = some res) (w : World) {a_u0_steps : Option Addr} {c_u0_steps : Nat} (h_u0_steps : stepsL.rd w [] [.slice a_u0_steps u0.steps.length c_u0_steps] u0.steps) : Ret Tryz.prog 42 [.agg #[.int .i64 u0.ver, .slice a_u0_steps u0.steps.length c_u0_steps]] w [] fun v w' => v = .bool res := by
  have mh_u0_steps := rd_max h_u0_steps
  unfold m_spec_FlowValid at h
  refine ret_enter Tryz.func42 rfl Tryz.ntmps42 rfl (Hp.refl w _) ?_
  refine cw_seq ?_
  refine cw_region ?_
  refine wl_u rfl (ow_boxA rfl rfl rfl rfl (fun g1 => kk_wl ?_))
  refine wl_u rfl (ow_y (yh_assign rfl rfl) rfl rfl (kk_wl ?_))
  refine wl_nil ?_
  refine ex_seq ?_
  refine cw_seq ?_
  refine cw_seq ?_
  refine cw_region ?_
  refine wl_u rfl (ow_y (yh_assign rfl rfl) rfl rfl (kk_wl ?_))
  refine wl_nil ?_
  refine ex_seq ?_
  refine cw_block ?_
  obtain ⟨e9, he9, hk9⟩ := bd h
  clear h
  refine cw_loopG (σ := Nat × Nat) (fun s => m_spec_FlowValid_L9 N u0 s.1 s.2 = some e9) (fun s => [(1, .pointer (some ⟨g1, 0, none⟩)), (3, .int .i64 ((s.2 : Nat) : Int))]) (fun s => [blkC g1 25 [.int .i64 u0.ver, .slice a_u0_steps u0.steps.length c_u0_steps]]) (fun s => s.1) (N, 0) [0] he9 ⟨rfl, rfl, trivial⟩ rfl (fun KL s he9 hn9 => ?_)
  obtain ⟨n9, s3⟩ := s
  simp only at he9 hn9 ⊢
  rcases n9 with _ | n9
  · exact nosome he9
  have h := he9; rw [m_spec_FlowValid_L9] at h
  refine cw_seq ?_
  refine cw_seq ?_
  refine cw_region ?_
  refine wl_u rfl (ow_y (yh_move rfl rfl) rfl rfl (kk_wl ?_))
  refine wl_u rfl (ow_y (yh_field Tb rfl rfl rfl) rfl rfl (kk_wl ?_))
  refine wl_u rfl (ow_y (yh_loadB Tb (k := 0) rfl rfl rfl rfl rfl) rfl rfl (kk_wl ?_))
  refine wl_u rfl (ow_y (yh_lenS Tb rfl rfl rfl rfl) rfl rfl (kk_wl ?_))
  refine wl_u rfl (ow_y (yh_cmpI rfl rfl rfl rfl) rfl rfl (kk_wl ?_))
  refine wl_nil ?_
  refine ex_seq ?_
  refine cw_split rfl (fun cc1 => ?_) (fun cc1 => ?_)
  · skip
    replace h := bt cc1 h
    have q1 := ltb_true.1 cc1
    refine cw_skip ?_
    refine ex_seq ?_
    refine cw_seq ?_
    refine cw_block ?_
    refine cw_seq ?_
    refine cw_region ?_
    refine wl_u rfl (ow_y (yh_field Tb rfl rfl rfl) rfl rfl (kk_wl ?_))
    refine wl_u rfl (ow_y (yh_loadB Tb (k := 0) rfl rfl rfl rfl rfl) rfl rfl (kk_wl ?_))
    refine wl_u rfl (ow_y (yh_move rfl rfl) rfl rfl (kk_wl ?_))
    obtain ⟨y16, hy16, h⟩ := bd h
    obtain ⟨b16, o16, ha16⟩ := sl_addr h_u0_steps hy16
    subst ha16
    obtain ⟨a16, e16, hc16, hf16⟩ := get_step h_u0_steps hy16
    have mx16 := rd_max hf16
    refine wl_u rfl (ow_y (yh_idx Tb (k := s3) rfl rfl rfl rfl (get_lt hy16) rfl rfl) rfl rfl (kk_wl ?_))
    refine wl_u rfl (ow_y (yh_loadAN Tb rfl rfl rfl rfl hc16 rfl) rfl rfl (kk_wl ?_))
    refine wl_u rfl (ow_allocA Tb rfl rfl rfl rfl (fun g4 => kk_wl ?_))
    refine wl_u rfl (ow_storeA Tb (k := 0) rfl rfl rfl rfl rfl rfl rfl rfl rfl (kk_wl ?_))
    refine wl_nil ?_
    refine ex_seq ?_
    obtain ⟨e114, he114, hk114⟩ := bd h
    clear h
    refine cw_cut (σ := Unit × Unit) (fun s => e114 = Ex.brk s.1) (fun s => [(1, .pointer (some ⟨g1, 0, none⟩)), (3, .int .i64 ((s3 : Nat) : Int)), (4, .pointer (some ⟨g4, 0, none⟩))]) (fun s => [blkC g1 25 [.int .i64 u0.ver, .slice (some ⟨b16, o16, none⟩) u0.steps.length c_u0_steps], blkC g4 49 [.string y16.name, .slice a16 y16.after.length e16, .bool y16.undo]]) (fun s hI => ?_) (fun KL hn114 => ?_)
    · skip
      obtain ⟨j114, _⟩ := s
      simp only at hI ⊢
      subst hI
      have h := go_brk hk114
      refine cw_seq ?_
      refine cw_region ?_
      refine wl_u rfl (ow_y (yh_assign rfl rfl) rfl rfl (kk_wl ?_))
      refine wl_nil ?_
      refine ex_seq ?_
      refine cw_block ?_
      obtain ⟨e21, he21, hk21⟩ := bd h
      clear h
      refine cw_loopG (σ := Nat × Nat) (fun s => m_spec_FlowValid_L21 N u0 y16 s.1 s.2 = some e21) (fun s => [(1, .pointer (some ⟨g1, 0, none⟩)), (3, .int .i64 ((s3 : Nat) : Int)), (4, .pointer (some ⟨g4, 0, none⟩)), (5, .int .i64 ((s.2 : Nat) : Int))]) (fun s => [blkC g1 25 [.int .i64 u0.ver, .slice (some ⟨b16, o16, none⟩) u0.steps.length c_u0_steps], blkC g4 49 [.string y16.name, .slice a16 y16.after.length e16, .bool y16.undo]]) (fun s => s.1) (N, 0) [0, 1] he21 ⟨rfl, rfl, rfl, rfl, trivial⟩ rfl (fun KL s he21 hn21 => ?_)
      obtain ⟨n21, s5⟩ := s
      simp only at he21 hn21 ⊢
      rcases n21 with _ | n21
      · exact nosome he21
      have h := he21; rw [m_spec_FlowValid_L21] at h
      refine cw_seq ?_
      refine cw_seq ?_
      refine cw_region ?_
      refine wl_u rfl (ow_y (yh_move rfl rfl) rfl rfl (kk_wl ?_))
      refine wl_u rfl (ow_y (yh_field Tb rfl rfl rfl) rfl rfl (kk_wl ?_))
      refine wl_u rfl (ow_y (yh_loadB Tb (k := 1) rfl rfl rfl rfl rfl) rfl rfl (kk_wl ?_))
      refine wl_u rfl (ow_y (yh_lenS Tb rfl rfl rfl rfl) rfl rfl (kk_wl ?_))
      refine wl_u rfl (ow_y (yh_cmpI rfl rfl rfl rfl) rfl rfl (kk_wl ?_))
      refine wl_nil ?_
      refine ex_seq ?_
      refine cw_split rfl (fun cc2 => ?_) (fun cc2 => ?_)
      · skip
        replace h := bt cc2 h
        have q2 := ltb_true.1 cc2
        refine cw_skip ?_
        refine ex_seq ?_
        refine cw_seq ?_
        refine cw_block ?_
        refine cw_seq ?_
        refine cw_dr [0, 1, 2, 3, 4, 5, 6, 8] [] [blkC g1 25 [.int .i64 u0.ver, .slice (some ⟨b16, o16, none⟩) u0.steps.length c_u0_steps], blkC g4 49 [.string y16.name, .slice a16 y16.after.length e16, .bool y16.undo]] (by kernel_rfl) ?_
        refine wd_take (i := 0) [0, 1] rfl rfl rfl rfl rfl (by kernel_rfl) (by kernel_rfl) (fun _ _ _ _ h => h) (yh_field Tb rfl rfl rfl) ?_
        refine wd_take (i := 1) [0, 1] rfl rfl rfl rfl rfl (by kernel_rfl) (by kernel_rfl) (fun _ _ _ _ h => h) (yh_loadB Tb (k := 0) rfl rfl rfl rfl rfl) ?_
        refine wd_take (i := 2) [0, 1] rfl rfl rfl rfl rfl (by kernel_rfl) (by kernel_rfl) (fun _ _ _ _ h => h) (yh_field Tb rfl rfl rfl) ?_
        refine wd_take (i := 3) [0, 1] rfl rfl rfl rfl rfl (by kernel_rfl) (by kernel_rfl) (fun _ _ _ _ h => h) (yh_loadB Tb (k := 1) rfl rfl rfl rfl rfl) ?_
        refine wd_take (i := 4) [0, 1] rfl rfl rfl rfl rfl (by kernel_rfl) (by kernel_rfl) (fun _ _ _ _ h => h) (yh_move rfl rfl) ?_
        obtain ⟨y49, hy49, h⟩ := bd h
        obtain ⟨b49, o49, ha49⟩ := sl_addr hf16 hy49
        subst ha49
        have hc49 := get_str hf16 hy49
        refine wd_take (i := 5) [0, 1] rfl rfl rfl rfl rfl (by kernel_rfl) (by kernel_rfl) (fun _ _ _ _ h => h) (yh_idx Tb (k := s5) rfl rfl rfl rfl (get_lt hy49) rfl rfl) ?_
        refine wd_take (i := 6) [0, 1] rfl rfl rfl rfl rfl (by kernel_rfl) (by kernel_rfl) (fun _ _ _ _ h => h) (yh_loadA0 Tb rfl rfl rfl hc49 rfl) ?_
        obtain ⟨x51, hx51, h⟩ := bd h
        refine wd_one 7 rfl rfl (by kernel_rfl) (ow_cV rfl hb84 rfl (fun w hw => c_spec_l2At N _ _ _ hx51 w (Lay.at_ h_u0_steps hw)) rfl rfl (kk_wd [0, 1] (by kernel_rfl) ?_))
        refine wd_take (i := 8) [0, 1] rfl rfl rfl rfl rfl (by kernel_rfl) (by kernel_rfl) (fun _ _ _ _ h => h) (yh_cmpI rfl rfl rfl rfl) ?_
        refine wd_done (by kernel_rfl) ?_
        refine ex_seq ?_
        refine cw_split rfl (fun cc3 => ?_) (fun cc3 => ?_)
        · skip
          replace h := bt cc3 h
          have q3 := ltb_true.1 cc3
          refine cw_seq ?_
          refine cw_region ?_
          refine wl_u rfl (ow_y (yh_assign rfl rfl) rfl rfl (kk_wl ?_))
          refine wl_nil ?_
          refine ex_seq ?_
          refine cw_ret ?_
          refine ex_block_ret ?_
          refine ex_then_ret ?_
          refine ex_then_ret ?_
          refine ex_block_ret ?_
          refine ex_block_ret ?_
          refine ex_then_ret ?_
          refine ex_then_ret ?_
          refine ex_block_ret ?_
          refine ex_then_ret ?_
          obtain rfl := Option.some.inj h
          obtain rfl := go_ret hk21
          obtain rfl := go_ret hk9
          exact ex_r1 Tb rfl (.tmp rfl) (fun wq hq => ⟨_, rfl, hq.ext, rfl⟩)
        · skip
          replace h := bf cc3 h
          have q4 := ltb_false.1 cc3
          refine cw_skip ?_
          refine ex_block_normal ?_
          refine ex_seq ?_
          refine cw_region ?_
          refine wl_u rfl (ow_y (yh_move rfl rfl) rfl rfl (kk_wl ?_))
          refine wl_u rfl (ow_y (yh_arI rfl rfl rfl rfl (by omega)) rfl rfl (kk_wl ?_))
          refine wl_u rfl (ow_y (yh_assign rfl rfl) rfl rfl (kk_wl ?_))
          refine wl_nil ?_
          exact ex_next [0, 1] (hn21 (n21, s5 + 1) (Nat.lt_succ_self _) h) ⟨rfl, rfl, rfl, rfl, trivial⟩ (by kernel_rfl)
      · skip
        replace h := bf cc2 h
        have q5 := ltb_false.1 cc2
        refine cw_exit ?_
        refine ex_then_exit ?_
        refine ex_then_exit ?_
        obtain rfl := Option.some.inj h
        have h := go_brk hk21
        refine ex_block_exit ?_
        refine ex_block_normal ?_
        refine ex_seq ?_
        refine cw_region ?_
        refine wl_u rfl (ow_y (yh_move rfl rfl) rfl rfl (kk_wl ?_))
        refine wl_u rfl (ow_y (yh_arI rfl rfl rfl rfl (by omega)) rfl rfl (kk_wl ?_))
        refine wl_u rfl (ow_y (yh_assign rfl rfl) rfl rfl (kk_wl ?_))
        refine wl_nil ?_
        exact ex_next [0] (hn9 (n9, s3 + 1) (Nat.lt_succ_self _) h) ⟨rfl, rfl, trivial⟩ (by kernel_rfl)
    · skip
      have h := he114
      refine cw_seq ?_
      refine cw_dr [0, 2, 3, 4, 5, 6, 7, 8, 9, 10, 11, 12, 13, 14, 15, 16, 17, 18] [] [blkC g4 49 [.string y16.name, .slice a16 y16.after.length e16, .bool y16.undo], blkC g1 25 [.int .i64 u0.ver, .slice (some ⟨b16, o16, none⟩) u0.steps.length c_u0_steps]] (by kernel_rfl) ?_
      refine wd_take (i := 0) [0, 1] rfl rfl rfl rfl rfl (by kernel_rfl) (by kernel_rfl) (fun _ _ _ _ h => h) (yh_loadBA Tb (k := 0) rfl rfl rfl rfl rfl rfl) ?_
      obtain ⟨x19, hx19, h⟩ := bd h
      refine wd_one 1 rfl rfl (by kernel_rfl) (ow_cV rfl hb83 rfl (fun w hw => c_spec_StepValid N _ _ hx19 w (Lay.at_ hf16 hw)) rfl rfl (kk_wd [0, 1] (by kernel_rfl) ?_))
      refine wd_take (i := 2) [0, 1] rfl rfl rfl rfl rfl (by kernel_rfl) (by kernel_rfl) (fun _ _ _ _ h => h) (yh_not rfl rfl) ?_
      refine wd_take (i := 3) [0, 1] rfl rfl rfl rfl rfl (by kernel_rfl) (by kernel_rfl) (fun _ _ _ _ h => h) (yh_move rfl rfl) ?_
      refine wd_split 4 rfl rfl rfl (fun cc4 => ?_) (fun cc4 => ?_)
      · skip
        replace h := bt cc4 h
        refine wd_skip (i := 4) [0, 1] rfl rfl rfl rfl (by kernel_rfl) (by kernel_rfl) (fun _ _ _ h => h) ?_
        refine wd_skip (i := 5) [0, 1] rfl rfl rfl rfl (by kernel_rfl) (by kernel_rfl) (fun _ _ _ h => h) ?_
        refine wd_skip (i := 6) [0, 1] rfl rfl rfl rfl (by kernel_rfl) (by kernel_rfl) (fun _ _ _ h => h) ?_
        refine wd_skip (i := 7) [0, 1] rfl rfl rfl rfl (by kernel_rfl) (by kernel_rfl) (fun _ _ _ h => h) ?_
        refine wd_skip (i := 8) [0, 1] rfl rfl rfl rfl (by kernel_rfl) (by kernel_rfl) (fun _ _ _ h => h) ?_
        refine wd_skip (i := 9) [0, 1] rfl rfl rfl rfl (by kernel_rfl) (by kernel_rfl) (fun _ _ _ h => h) ?_
        refine wd_skip (i := 10) [0, 1] rfl rfl rfl rfl (by kernel_rfl) (by kernel_rfl) (fun _ _ _ h => h) ?_
        refine wd_skip (i := 11) [0, 1] rfl rfl rfl rfl (by kernel_rfl) (by kernel_rfl) (fun _ _ _ h => h) ?_
        refine wd_skip (i := 12) [0, 1] rfl rfl rfl rfl (by kernel_rfl) (by kernel_rfl) (fun _ _ _ h => h) ?_
        refine wd_skip (i := 13) [0, 1] rfl rfl rfl rfl (by kernel_rfl) (by kernel_rfl) (fun _ _ _ h => h) ?_
        refine wd_skip (i := 14) [0, 1] rfl rfl rfl rfl (by kernel_rfl) (by kernel_rfl) (fun _ _ _ h => h) ?_
        refine wd_skip (i := 15) [0, 1] rfl rfl rfl rfl (by kernel_rfl) (by kernel_rfl) (fun _ _ _ h => h) ?_
        refine wd_skip (i := 16) [0, 1] rfl rfl rfl rfl (by kernel_rfl) (by kernel_rfl) (fun _ _ _ h => h) ?_
        refine wd_skip (i := 17) [0, 1] rfl rfl rfl rfl (by kernel_rfl) (by kernel_rfl) (fun _ _ _ h => h) ?_
        refine wd_take (i := 18) [0, 1] rfl rfl rfl rfl rfl (by kernel_rfl) (by kernel_rfl) (fun _ _ _ _ h => h) (yh_pickT rfl rfl rfl) ?_
        refine wd_done (by kernel_rfl) ?_
        refine ex_seq ?_
        refine cw_true rfl ?_
        refine cw_seq ?_
        refine cw_region ?_
        refine wl_u rfl (ow_y (yh_assign rfl rfl) rfl rfl (kk_wl ?_))
        refine wl_nil ?_
        refine ex_seq ?_
        refine cw_ret ?_
        refine ex_then_ret ?_
        refine ex_block_ret ?_
        refine ex_then_ret ?_
        refine ex_then_ret ?_
        refine ex_block_ret ?_
        refine ex_then_ret ?_
        obtain rfl := Option.some.inj h
        obtain rfl := go_ret hk114
        obtain rfl := go_ret hk9
        exact ex_r1 Tb rfl (.tmp rfl) (fun wq hq => ⟨_, rfl, hq.ext, rfl⟩)
      · skip
        replace h := bf cc4 h
        refine wd_take (i := 4) [0, 1] rfl rfl rfl rfl rfl (by kernel_rfl) (by kernel_rfl) (fun _ _ _ _ h => h) (yh_move rfl rfl) ?_
        refine wd_take (i := 5) [0, 1] rfl rfl rfl rfl rfl (by kernel_rfl) (by kernel_rfl) (fun _ _ _ _ h => h) (yh_cmpI rfl rfl rfl rfl) ?_
        refine wd_take (i := 6) [0, 1] rfl rfl rfl rfl rfl (by kernel_rfl) (by kernel_rfl) (fun _ _ _ _ h => h) (yh_move rfl rfl) ?_
        refine wd_split 7 rfl rfl rfl (fun cc5 => ?_) (fun cc5 => ?_)
        · skip
          replace h := bt cc5 h
          have q6 := ltb_true.1 cc5
          refine wd_take (i := 7) [0, 1] rfl rfl rfl rfl rfl (by kernel_rfl) (by kernel_rfl) (fun _ _ _ _ h => h) (yh_field Tb rfl rfl rfl) ?_
          refine wd_take (i := 8) [0, 1] rfl rfl rfl rfl rfl (by kernel_rfl) (by kernel_rfl) (fun _ _ _ _ h => h) (yh_loadB Tb (k := 1) rfl rfl rfl rfl rfl) ?_
          refine wd_take (i := 9) [0, 1] rfl rfl rfl rfl rfl (by kernel_rfl) (by kernel_rfl) (fun _ _ _ _ h => h) (yh_move rfl rfl) ?_
          refine wd_take (i := 10) [0, 1] rfl rfl rfl rfl rfl (by kernel_rfl) (by kernel_rfl) (fun _ _ _ _ h => h) (yh_arI rfl rfl rfl rfl (by omega)) ?_
          obtain ⟨y29, zy29, h⟩ := bd h
          obtain ⟨iy29, hy29⟩ := geti_some zy29
          obtain ⟨a29, e29, hc29, hf29⟩ := get_step h_u0_steps hy29
          have mx29 := rd_max hf29
          refine wd_take (i := 11) [0, 1] rfl rfl rfl rfl rfl (by kernel_rfl) (by kernel_rfl) (fun _ _ _ _ h => h) (yh_idx Tb (k := (((s3 : Nat) : Int) - 1).toNat) rfl rfl rfl iy29 (get_lt hy29) rfl rfl) ?_
          refine wd_take (i := 12) [0, 1] rfl rfl rfl rfl rfl (by kernel_rfl) (by kernel_rfl) (fun _ _ _ _ h => h) (yh_field Tb rfl rfl rfl) ?_
          refine wd_take (i := 13) [0, 1] rfl rfl rfl rfl rfl (by kernel_rfl) (by kernel_rfl) (fun _ _ _ _ h => h) (yh_loadAF Tb (j := 0) rfl rfl rfl hc29 rfl) ?_
          refine wd_take (i := 14) [0, 1] rfl rfl rfl rfl rfl (by kernel_rfl) (by kernel_rfl) (fun _ _ _ _ h => h) (yh_field Tb rfl rfl rfl) ?_
          refine wd_take (i := 15) [0, 1] rfl rfl rfl rfl rfl (by kernel_rfl) (by kernel_rfl) (fun _ _ _ _ h => h) (yh_loadB Tb (k := 0) rfl rfl rfl rfl rfl) ?_
          refine wd_take (i := 16) [0, 1] rfl rfl rfl rfl rfl (by kernel_rfl) (by kernel_rfl) (fun _ _ _ _ h => h) (yh_cmpS rfl rfl rfl rfl) ?_
          refine wd_take (i := 17) [0, 1] rfl rfl rfl rfl rfl (by kernel_rfl) (by kernel_rfl) (fun _ _ _ _ h => h) (yh_pickT rfl rfl rfl) ?_
          refine wd_take (i := 18) [0, 1] rfl rfl rfl rfl rfl (by kernel_rfl) (by kernel_rfl) (fun _ _ _ _ h => h) (yh_pickF rfl rfl rfl) ?_
          refine wd_done (by kernel_rfl) ?_
          refine ex_seq ?_
          refine cw_split rfl (fun cc6 => ?_) (fun cc6 => ?_)
          · skip
            replace h := bt cc6 h
            refine cw_seq ?_
            refine cw_region ?_
            refine wl_u rfl (ow_y (yh_assign rfl rfl) rfl rfl (kk_wl ?_))
            refine wl_nil ?_
            refine ex_seq ?_
            refine cw_ret ?_
            refine ex_then_ret ?_
            refine ex_block_ret ?_
            refine ex_then_ret ?_
            refine ex_then_ret ?_
            refine ex_block_ret ?_
            refine ex_then_ret ?_
            obtain rfl := Option.some.inj h
            obtain rfl := go_ret hk114
            obtain rfl := go_ret hk9
            exact ex_r1 Tb rfl (.tmp rfl) (fun wq hq => ⟨_, rfl, hq.ext, rfl⟩)
          · skip
            replace h := bf cc6 h
            refine cw_skip ?_
            obtain rfl := Option.some.inj h
            exact ex_next [1, 0] (hn114 ((), ()) rfl) ⟨rfl, rfl, rfl, trivial⟩ (by kernel_rfl)
        · skip
          replace h := bf cc5 h
          have q7 := ltb_false.1 cc5
          refine wd_skip (i := 7) [0, 1] rfl rfl rfl rfl (by kernel_rfl) (by kernel_rfl) (fun _ _ _ h => h) ?_
          refine wd_skip (i := 8) [0, 1] rfl rfl rfl rfl (by kernel_rfl) (by kernel_rfl) (fun _ _ _ h => h) ?_
          refine wd_skip (i := 9) [0, 1] rfl rfl rfl rfl (by kernel_rfl) (by kernel_rfl) (fun _ _ _ h => h) ?_
          refine wd_skip (i := 10) [0, 1] rfl rfl rfl rfl (by kernel_rfl) (by kernel_rfl) (fun _ _ _ h => h) ?_
          refine wd_skip (i := 11) [0, 1] rfl rfl rfl rfl (by kernel_rfl) (by kernel_rfl) (fun _ _ _ h => h) ?_
          refine wd_skip (i := 12) [0, 1] rfl rfl rfl rfl (by kernel_rfl) (by kernel_rfl) (fun _ _ _ h => h) ?_
          refine wd_skip (i := 13) [0, 1] rfl rfl rfl rfl (by kernel_rfl) (by kernel_rfl) (fun _ _ _ h => h) ?_
          refine wd_skip (i := 14) [0, 1] rfl rfl rfl rfl (by kernel_rfl) (by kernel_rfl) (fun _ _ _ h => h) ?_
          refine wd_skip (i := 15) [0, 1] rfl rfl rfl rfl (by kernel_rfl) (by kernel_rfl) (fun _ _ _ h => h) ?_
          refine wd_skip (i := 16) [0, 1] rfl rfl rfl rfl (by kernel_rfl) (by kernel_rfl) (fun _ _ _ h => h) ?_
          refine wd_take (i := 17) [0, 1] rfl rfl rfl rfl rfl (by kernel_rfl) (by kernel_rfl) (fun _ _ _ _ h => h) (yh_pickF rfl rfl rfl) ?_
          refine wd_take (i := 18) [0, 1] rfl rfl rfl rfl rfl (by kernel_rfl) (by kernel_rfl) (fun _ _ _ _ h => h) (yh_pickF rfl rfl rfl) ?_
          refine wd_done (by kernel_rfl) ?_
          refine ex_seq ?_
          refine cw_false rfl ?_
          refine cw_skip ?_
          obtain rfl := Option.some.inj h
          exact ex_next [1, 0] (hn114 ((), ()) rfl) ⟨rfl, rfl, rfl, trivial⟩ (by kernel_rfl)
  · skip
    replace h := bf cc1 h
    have q8 := ltb_false.1 cc1
    refine cw_exit ?_
    refine ex_then_exit ?_
    refine ex_then_exit ?_
    obtain rfl := Option.some.inj h
    have h := go_brk hk9
    refine ex_block_exit ?_
    refine ex_seq ?_
    refine cw_seq ?_
    refine cw_dr [0, 1, 3, 4, 5, 6, 8, 9, 10, 11, 13, 14, 15, 16, 17, 18, 19] [] [blkC g1 25 [.int .i64 u0.ver, .slice a_u0_steps u0.steps.length c_u0_steps]] (by kernel_rfl) ?_
    refine wd_take (i := 0) [0] rfl rfl rfl rfl rfl (by kernel_rfl) (by kernel_rfl) (fun _ _ _ _ h => h) (yh_field Tb rfl rfl rfl) ?_
    refine wd_take (i := 1) [0] rfl rfl rfl rfl rfl (by kernel_rfl) (by kernel_rfl) (fun _ _ _ _ h => h) (yh_loadB Tb (k := 0) rfl rfl rfl rfl rfl) ?_
    obtain ⟨x55, hx55, h⟩ := bd h
    refine wd_one 2 rfl rfl (by kernel_rfl) (ow_cV rfl hb85 rfl (fun w hw => c_spec_l6In N _ _ _ _ hx55 w) rfl rfl (kk_wd [0] (by kernel_rfl) ?_))
    refine wd_take (i := 3) [0] rfl rfl rfl rfl rfl (by kernel_rfl) (by kernel_rfl) (fun _ _ _ _ h => h) (yh_move rfl rfl) ?_
    refine wd_split 4 rfl rfl rfl (fun cc7 => ?_) (fun cc7 => ?_)
    · skip
      replace h := bt cc7 h
      refine wd_take (i := 4) [0] rfl rfl rfl rfl rfl (by kernel_rfl) (by kernel_rfl) (fun _ _ _ _ h => h) (yh_field Tb rfl rfl rfl) ?_
      refine wd_take (i := 5) [0] rfl rfl rfl rfl rfl (by kernel_rfl) (by kernel_rfl) (fun _ _ _ _ h => h) (yh_loadB Tb (k := 0) rfl rfl rfl rfl rfl) ?_
      refine wd_take (i := 6) [0] rfl rfl rfl rfl rfl (by kernel_rfl) (by kernel_rfl) (fun _ _ _ _ h => h) (yh_lenS Tb rfl rfl rfl rfl) ?_
      obtain ⟨x60, hx60, h⟩ := bd h
      refine wd_one 7 rfl rfl (by kernel_rfl) (ow_cV rfl hb85 rfl (fun w hw => c_spec_l6In N _ _ _ _ hx60 w) rfl rfl (kk_wd [0] (by kernel_rfl) ?_))
      refine wd_take (i := 8) [0] rfl rfl rfl rfl rfl (by kernel_rfl) (by kernel_rfl) (fun _ _ _ _ h => h) (yh_pickT rfl rfl rfl) ?_
      refine wd_take (i := 9) [0] rfl rfl rfl rfl rfl (by kernel_rfl) (by kernel_rfl) (fun _ _ _ _ h => h) (yh_move rfl rfl) ?_
      refine wd_split 10 rfl rfl rfl (fun cc8 => ?_) (fun cc8 => ?_)
      · skip
        replace h := bt cc8 h
        refine wd_take (i := 10) [0] rfl rfl rfl rfl rfl (by kernel_rfl) (by kernel_rfl) (fun _ _ _ _ h => h) (yh_field Tb rfl rfl rfl) ?_
        refine wd_take (i := 11) [0] rfl rfl rfl rfl rfl (by kernel_rfl) (by kernel_rfl) (fun _ _ _ _ h => h) (yh_loadB Tb (k := 0) rfl rfl rfl rfl rfl) ?_
        refine wd_take (i := 14) [0] rfl rfl rfl rfl rfl (by kernel_rfl) (by kernel_rfl) (fun _ _ _ _ h => h) (yh_field Tb rfl rfl rfl) ?_
        refine wd_take (i := 15) [0] rfl rfl rfl rfl rfl (by kernel_rfl) (by kernel_rfl) (fun _ _ _ _ h => h) (yh_loadB Tb (k := 0) rfl rfl rfl rfl rfl) ?_
        refine wd_take (i := 16) [0] rfl rfl rfl rfl rfl (by kernel_rfl) (by kernel_rfl) (fun _ _ _ _ h => h) (yh_lenS Tb rfl rfl rfl rfl) ?_
        obtain ⟨x65, hx65, h⟩ := bd h
        refine wd_one 12 rfl rfl (by kernel_rfl) (ow_cN1 rfl hb86 rfl (fun w hw => c_spec_l2Order N _ _ hx65 w (Lay.at_ h_u0_steps hw)) rfl rfl (fun a65 c65 F65 => kk_wd [1] (by kernel_rfl) ?_))
        refine wd_know (x65.length ≤ 9223372036854775807) (fun w hw => own_max 0 rfl hw) (fun mo66 => ?_)
        refine wd_take (i := 13) [1] rfl rfl rfl rfl rfl (by kernel_rfl) (by kernel_rfl) (fun _ _ _ _ h => h) (yh_lenS Tb rfl rfl rfl rfl) ?_
        refine wd_take (i := 17) [1] rfl rfl rfl rfl rfl (by kernel_rfl) (by kernel_rfl) (fun _ _ _ _ h => h) (yh_cmpI rfl rfl rfl rfl) ?_
        refine wd_take (i := 18) [1] rfl rfl rfl rfl rfl (by kernel_rfl) (by kernel_rfl) (fun _ _ _ _ h => h) (yh_pickT rfl rfl rfl) ?_
        refine wd_take (i := 19) [1] rfl rfl rfl rfl rfl (by kernel_rfl) (by kernel_rfl) (fun _ _ _ _ h => h) (yh_assign rfl rfl) ?_
        refine wd_done (by kernel_rfl) ?_
        refine ex_seq ?_
        refine cw_ret ?_
        obtain rfl := Option.some.inj h
        exact ex_r1 Tb rfl (.tmp rfl) (fun wq hq => ⟨_, rfl, hq.ext, rfl⟩)
      · skip
        replace h := bf cc8 h
        refine wd_skip (i := 10) [0] rfl rfl rfl rfl (by kernel_rfl) (by kernel_rfl) (fun _ _ _ h => h) ?_
        refine wd_skip (i := 11) [0] rfl rfl rfl rfl (by kernel_rfl) (by kernel_rfl) (fun _ _ _ h => h) ?_
        refine wd_skip (i := 14) [0] rfl rfl rfl rfl (by kernel_rfl) (by kernel_rfl) (fun _ _ _ h => h) ?_
        refine wd_skip (i := 15) [0] rfl rfl rfl rfl (by kernel_rfl) (by kernel_rfl) (fun _ _ _ h => h) ?_
        refine wd_skip (i := 16) [0] rfl rfl rfl rfl (by kernel_rfl) (by kernel_rfl) (fun _ _ _ h => h) ?_
        refine wd_offD 12 rfl rfl rfl rfl (by kernel_rfl) [0] (fun _ => rfl) ?_
        refine wd_skip (i := 13) [0] rfl rfl rfl rfl (by kernel_rfl) (by kernel_rfl) (fun _ _ _ h => h) ?_
        refine wd_skip (i := 17) [0] rfl rfl rfl rfl (by kernel_rfl) (by kernel_rfl) (fun _ _ _ h => h) ?_
        refine wd_take (i := 18) [0] rfl rfl rfl rfl rfl (by kernel_rfl) (by kernel_rfl) (fun _ _ _ _ h => h) (yh_pickF rfl rfl rfl) ?_
        refine wd_take (i := 19) [0] rfl rfl rfl rfl rfl (by kernel_rfl) (by kernel_rfl) (fun _ _ _ _ h => h) (yh_assign rfl rfl) ?_
        refine wd_done (by kernel_rfl) ?_
        refine ex_seq ?_
        refine cw_ret ?_
        obtain rfl := Option.some.inj h
        exact ex_r1 Tb rfl (.tmp rfl) (fun wq hq => ⟨_, rfl, hq.ext, rfl⟩)
    · skip
      replace h := bf cc7 h
      refine wd_skip (i := 4) [0] rfl rfl rfl rfl (by kernel_rfl) (by kernel_rfl) (fun _ _ _ h => h) ?_
      refine wd_skip (i := 5) [0] rfl rfl rfl rfl (by kernel_rfl) (by kernel_rfl) (fun _ _ _ h => h) ?_
      refine wd_skip (i := 6) [0] rfl rfl rfl rfl (by kernel_rfl) (by kernel_rfl) (fun _ _ _ h => h) ?_
      refine wd_offD 7 rfl rfl rfl rfl (by kernel_rfl) [0] (fun _ => rfl) ?_
      refine wd_take (i := 8) [0] rfl rfl rfl rfl rfl (by kernel_rfl) (by kernel_rfl) (fun _ _ _ _ h => h) (yh_pickF rfl rfl rfl) ?_
      refine wd_take (i := 9) [0] rfl rfl rfl rfl rfl (by kernel_rfl) (by kernel_rfl) (fun _ _ _ _ h => h) (yh_move rfl rfl) ?_
      refine wd_split 10 rfl rfl rfl nofun (fun _ => ?_)
      refine wd_skip (i := 10) [0] rfl rfl rfl rfl (by kernel_rfl) (by kernel_rfl) (fun _ _ _ h => h) ?_
      refine wd_skip (i := 11) [0] rfl rfl rfl rfl (by kernel_rfl) (by kernel_rfl) (fun _ _ _ h => h) ?_
      refine wd_skip (i := 14) [0] rfl rfl rfl rfl (by kernel_rfl) (by kernel_rfl) (fun _ _ _ h => h) ?_
      refine wd_skip (i := 15) [0] rfl rfl rfl rfl (by kernel_rfl) (by kernel_rfl) (fun _ _ _ h => h) ?_
      refine wd_skip (i := 16) [0] rfl rfl rfl rfl (by kernel_rfl) (by kernel_rfl) (fun _ _ _ h => h) ?_
      refine wd_offD 12 rfl rfl rfl rfl (by kernel_rfl) [0] (fun _ => rfl) ?_
      refine wd_skip (i := 13) [0] rfl rfl rfl rfl (by kernel_rfl) (by kernel_rfl) (fun _ _ _ h => h) ?_
      refine wd_skip (i := 17) [0] rfl rfl rfl rfl (by kernel_rfl) (by kernel_rfl) (fun _ _ _ h => h) ?_
      refine wd_take (i := 18) [0] rfl rfl rfl rfl rfl (by kernel_rfl) (by kernel_rfl) (fun _ _ _ _ h => h) (yh_pickF rfl rfl rfl) ?_
      refine wd_take (i := 19) [0] rfl rfl rfl rfl rfl (by kernel_rfl) (by kernel_rfl) (fun _ _ _ _ h => h) (yh_assign rfl rfl) ?_
      refine wd_done (by kernel_rfl) ?_
      refine ex_seq ?_
      refine cw_ret ?_
      obtain rfl := Option.some.inj h
      exact ex_r1 Tb rfl (.tmp rfl) (fun wq hq => ⟨_, rfl, hq.ext, rfl⟩)

def m_spec_l2Step (N : Nat) (s_ : Step) : Option (Step) := (appd ([] : List Str) s_.after).bind fun l6 => some (Step.mk s_.name (([] : List Str) ++ s_.after) s_.undo)

set_option maxHeartbeats 4000000 in
theorem c_spec_l2Step (N : Nat) (s_ : Step) (res : Step) (h : m_spec_l2Step N s_ = some res) (w : World) {a_s__after : Option Addr} {c_s__after : Nat} (h_s__after : strsL.rd w [] [.slice a_s__after s_.after.length c_s__after] s_.after) : Ret Tryz.prog 88 [.agg #[.string s_.name, .slice a_s__after s_.after.length c_s__after, .bool s_.undo]] w [] fun v w' => ∃ a1 c1 F1, v = .agg #[.string res.name, .slice a1 res.after.length c1, .bool res.undo] ∧ NewC w w' [owC strsL F1 [.slice a1 res.after.length c1] res.after] := by
  have mh_s__after := rd_max h_s__after
  unfold m_spec_l2Step at h
  refine ret_enter Tryz.func88 rfl Tryz.ntmps88 rfl (Hp.refl w _) ?_
  refine cw_seq ?_
  refine cw_region ?_
  refine wl_u rfl (ow_boxA rfl rfl rfl rfl (fun g1 => kk_wl ?_))
  refine wl_u rfl (ow_allocA Tb rfl rfl rfl rfl (fun g2 => kk_wl ?_))
  refine wl_nil ?_
  refine ex_seq ?_
  refine cw_seq ?_
  refine cw_region ?_
  refine wl_u rfl (ow_lit0 Tb rfl rfl rfl rfl rfl rfl (fun g3 => kk_chg (c' := owC strsL [g3] [.slice (some ⟨g3, 0, none⟩) 0 0] ([] : List Str)) 0 rfl (fun w hA => own_strsL ([] : List Str) hA rfl (by simp [maxLen])) rfl (kk_wl ?_)))
  refine wl_u rfl (ow_y (yh_field Tb rfl rfl rfl) rfl rfl (kk_wl ?_))
  refine wl_u rfl (ow_y (yh_loadB Tb (k := 2) rfl rfl rfl rfl rfl) rfl rfl (kk_wl ?_))
  obtain ⟨hll6, h⟩ := bd_appd h
  refine wl_u rfl (ow_appP Tb (i := 0) rfl rfl rfl rfl rfl (fun w hw => Lay.at_ h_s__after hw) rfl rfl rfl rfl hll6 (by decide) rfl rfl (fun a6 c6 F6 => kk_wl ?_))
  refine wl_u rfl (ow_y (yh_field Tb rfl rfl rfl) rfl rfl (kk_wl ?_))
  refine wl_u rfl (ow_store1 Tb (k := 2) rfl rfl rfl rfl rfl rfl rfl rfl rfl (kk_wl ?_))
  refine wl_nil ?_
  refine ex_seq ?_
  refine cw_seq ?_
  refine cw_region ?_
  refine wl_u rfl (ow_y (yh_loadBA Tb (k := 0) rfl rfl rfl rfl rfl rfl) rfl rfl (kk_wl ?_))
  refine wl_u rfl (ow_storeA Tb (k := 2) rfl rfl rfl rfl rfl rfl rfl rfl rfl (kk_wl ?_))
  refine wl_nil ?_
  refine ex_seq ?_
  refine cw_ret ?_
  obtain rfl := Option.some.inj h
  exact ex_r1 Tb rfl (.cellA 0 rfl rfl rfl rfl rfl) (fun wq hq => ⟨_, rfl, hq.ext, ⟨a6, c6, F6, rfl, NewC.sel [2] hq rfl⟩⟩)

def m_spec_l2Copy_L6 (N : Nat) (f : Flow) : Nat → (List Step) → Nat → Option (Ex (List Step × Nat) (Flow))
  | 0, _, _ => none
  | n + 1, s3_c_1, s4 => (bif ltb ((s4 : Nat) : Int) ((f.steps.length : Nat) : Int) then (f.steps[s4]?).bind fun y21 => (m_spec_l2Step N y21).bind fun x23 => (appd s3_c_1 [x23]).bind fun l25 => m_spec_l2Copy_L6 N f n (s3_c_1 ++ [x23]) (s4 + 1)
 else some (Ex.brk (s3_c_1, s4)))

def m_spec_l2Copy (N : Nat) (f : Flow) : Option (Flow) := (m_spec_l2Copy_L6 N f N ([] : List Step) 0).bind fun e6 => e6.go (fun r => r) fun b6 => some (Flow.mk f.ver b6.1)

set_option maxHeartbeats 4000000 in
theorem c_spec_l2Copy (N : Nat) (f : Flow) (res : Flow) (h : m_spec_l2Copy N f = some res) (w : World) {a_f_steps : Option Addr} {c_f_steps : Nat} (h_f_steps : stepsL.rd w [] [.slice a_f_steps f.steps.length c_f_steps] f.steps) : Ret Tryz.prog 53 [.agg #[.int .i64 f.ver, .slice a_f_steps f.steps.length c_f_steps]] w [] fun v w' => ∃ a1 c1 F1, v = .agg #[.int .i64 res.ver, .slice a1 res.steps.length c1] ∧ NewC w w' [owC stepsL F1 [.slice a1 res.steps.length c1] res.steps] := by
  have mh_f_steps := rd_max h_f_steps
  unfold m_spec_l2Copy at h
  refine ret_enter Tryz.func53 rfl Tryz.ntmps53 rfl (Hp.refl w _) ?_
  refine cw_seq ?_
  refine cw_region ?_
  refine wl_u rfl (ow_boxA rfl rfl rfl rfl (fun g1 => kk_wl ?_))
  refine wl_u rfl (ow_allocA Tb rfl rfl rfl rfl (fun g2 => kk_wl ?_))
  refine wl_nil ?_
  refine ex_seq ?_
  refine cw_seq ?_
  refine cw_region ?_
  refine wl_u rfl (ow_y (yh_field Tb rfl rfl rfl) rfl rfl (kk_wl ?_))
  refine wl_u rfl (ow_y (yh_loadB Tb (k := 1) rfl rfl rfl rfl rfl) rfl rfl (kk_wl ?_))
  refine wl_u rfl (ow_lit0 Tb rfl rfl rfl rfl rfl rfl (fun g7 => kk_chg (c' := owC stepsL [g7] [.slice (some ⟨g7, 0, none⟩) 0 0] ([] : List Step)) 0 rfl (fun w hA => own_stepsL ([] : List Step) hA rfl (by simp [maxLen])) rfl (kk_wl ?_)))
  refine wl_u rfl (ow_y (yh_buildA rfl rfl (by kernel_rfl)) rfl rfl (kk_wl ?_))
  refine wl_u rfl (ow_allocA Tb rfl rfl rfl rfl (fun g3 => kk_wl ?_))
  refine wl_u rfl (ow_storeA Tb (k := 0) rfl rfl rfl rfl rfl rfl rfl rfl rfl (kk_wl ?_))
  refine wl_nil ?_
  refine ex_seq ?_
  refine cw_seq ?_
  refine cw_seq ?_
  refine cw_region ?_
  refine wl_u rfl (ow_y (yh_assign rfl rfl) rfl rfl (kk_wl ?_))
  refine wl_nil ?_
  refine ex_seq ?_
  refine cw_block ?_
  obtain ⟨e6, he6, hk6⟩ := bd h
  clear h
  refine cw_loopG (σ := Nat × (List Step) × Nat × (Option Addr) × Nat × (List Nat)) (fun s => m_spec_l2Copy_L6 N f s.1 s.2.1 s.2.2.1 = some e6) (fun s => [(1, .pointer (some ⟨g1, 0, none⟩)), (2, .pointer (some ⟨g2, 0, none⟩)), (3, .pointer (some ⟨g3, 0, none⟩)), (4, .int .i64 ((s.2.2.1 : Nat) : Int))]) (fun s => [blkC g1 25 [.int .i64 f.ver, .slice a_f_steps f.steps.length c_f_steps], blkC g2 25 [.int .i64 0, .slice none 0 0], blkC g3 25 [.int .i64 f.ver, .slice s.2.2.2.1 s.2.1.length s.2.2.2.2.1], owC stepsL s.2.2.2.2.2 [.slice s.2.2.2.1 s.2.1.length s.2.2.2.2.1] s.2.1]) (fun s => s.1) (N, ([] : List Step), 0, (some ⟨g7, 0, none⟩), 0, [g7]) [3, 2, 0, 1] he6 ⟨rfl, rfl, rfl, rfl, trivial⟩ rfl (fun KL s he6 hn6 => ?_)
  obtain ⟨n6, s3_c_1, s4, as3_c_1, cs3_c_1, Fs3_c_1⟩ := s
  simp only at he6 hn6 ⊢
  rcases n6 with _ | n6
  · exact nosome he6
  have h := he6; rw [m_spec_l2Copy_L6] at h
  refine cw_seq ?_
  refine cw_seq ?_
  refine cw_region ?_
  refine wl_u rfl (ow_y (yh_move rfl rfl) rfl rfl (kk_wl ?_))
  refine wl_u rfl (ow_y (yh_field Tb rfl rfl rfl) rfl rfl (kk_wl ?_))
  refine wl_u rfl (ow_y (yh_loadB Tb (k := 0) rfl rfl rfl rfl rfl) rfl rfl (kk_wl ?_))
  refine wl_u rfl (ow_y (yh_lenS Tb rfl rfl rfl rfl) rfl rfl (kk_wl ?_))
  refine wl_u rfl (ow_y (yh_cmpI rfl rfl rfl rfl) rfl rfl (kk_wl ?_))
  refine wl_nil ?_
  refine ex_seq ?_
  refine cw_split rfl (fun cc1 => ?_) (fun cc1 => ?_)
  · skip
    replace h := bt cc1 h
    have q1 := ltb_true.1 cc1
    refine cw_skip ?_
    refine ex_seq ?_
    refine cw_seq ?_
    refine cw_block ?_
    refine cw_dr [0, 1, 2, 3, 4, 5, 6] [9, 10, 11] [blkC g1 25 [.int .i64 f.ver, .slice a_f_steps f.steps.length c_f_steps], blkC g2 25 [.int .i64 0, .slice none 0 0], blkC g3 25 [.int .i64 f.ver, .slice as3_c_1 s3_c_1.length cs3_c_1], owC stepsL Fs3_c_1 [.slice as3_c_1 s3_c_1.length cs3_c_1] s3_c_1] (by kernel_rfl) ?_
    refine wd_take (i := 0) [0, 1, 2, 3] rfl rfl rfl rfl rfl (by kernel_rfl) (by kernel_rfl) (fun _ _ _ _ h => h) (yh_field Tb rfl rfl rfl) ?_
    refine wd_take (i := 1) [0, 1, 2, 3] rfl rfl rfl rfl rfl (by kernel_rfl) (by kernel_rfl) (fun _ _ _ _ h => h) (yh_loadB Tb (k := 2) rfl rfl rfl rfl rfl) ?_
    refine wd_take (i := 2) [0, 1, 2, 3] rfl rfl rfl rfl rfl (by kernel_rfl) (by kernel_rfl) (fun _ _ _ _ h => h) (yh_field Tb rfl rfl rfl) ?_
    refine wd_take (i := 3) [0, 1, 2, 3] rfl rfl rfl rfl rfl (by kernel_rfl) (by kernel_rfl) (fun _ _ _ _ h => h) (yh_loadB Tb (k := 0) rfl rfl rfl rfl rfl) ?_
    refine wd_take (i := 4) [0, 1, 2, 3] rfl rfl rfl rfl rfl (by kernel_rfl) (by kernel_rfl) (fun _ _ _ _ h => h) (yh_move rfl rfl) ?_
    obtain ⟨y21, hy21, h⟩ := bd h
    obtain ⟨b21, o21, ha21⟩ := sl_addr h_f_steps hy21
    subst ha21
    obtain ⟨a21, e21, hc21, hf21⟩ := get_step h_f_steps hy21
    have mx21 := rd_max hf21
    refine wd_take (i := 5) [0, 1, 2, 3] rfl rfl rfl rfl rfl (by kernel_rfl) (by kernel_rfl) (fun _ _ _ _ h => h) (yh_idx Tb (k := s4) rfl rfl rfl rfl (get_lt hy21) rfl rfl) ?_
    refine wd_take (i := 6) [0, 1, 2, 3] rfl rfl rfl rfl rfl (by kernel_rfl) (by kernel_rfl) (fun _ _ _ _ h => h) (yh_loadAN Tb rfl rfl rfl rfl hc21 rfl) ?_
    obtain ⟨x23, hx23, h⟩ := bd h
    refine wd_one 7 rfl rfl (by kernel_rfl) (ow_cN1 rfl hb88 rfl (fun w hw => c_spec_l2Step N _ _ hx23 w (Lay.at_ hf21 hw)) rfl rfl (fun a23 c23 F23 => kk_wd [1, 2, 3, 4] (by kernel_rfl) ?_))
    refine wd_one 8 rfl rfl (by kernel_rfl) (ow_litA Tb rfl rfl rfl rfl rfl rfl (by decide) rfl rfl (fun g24 => kk_wd [2, 3, 4, 5] (by kernel_rfl) ?_))
    obtain ⟨hll25, h⟩ := bd_appd h
    refine wd_one 9 rfl rfl (by kernel_rfl) (ow_chg (c' := owC stepL F23 [.string x23.name, .slice a23 x23.after.length c23, .bool x23.undo] x23) 1 rfl (fun w hA => stepL_mk x23 hA) rfl (ow_appE Tb (i := 5) (j := 0) (k := 1) rfl rfl rfl rfl rfl rfl rfl rfl rfl rfl rfl (app1 hll25) (by decide) rfl rfl (fun a25 c25 F25 => kk_wdT rfl ?_)))
    refine wd_one 10 rfl rfl (by kernel_rfl) (ow_y (yh_field Tb rfl rfl rfl) rfl rfl (kk_wdT rfl ?_))
    refine wd_one 11 rfl rfl (by kernel_rfl) (ow_store1 Tb (k := 4) rfl rfl rfl rfl rfl rfl rfl rfl rfl (kk_wdT rfl ?_))
    refine wd_done (by kernel_rfl) ?_
    refine ex_block_normal ?_
    refine ex_seq ?_
    refine cw_region ?_
    refine wl_u rfl (ow_y (yh_move rfl rfl) rfl rfl (kk_wl ?_))
    refine wl_u rfl (ow_y (yh_arI rfl rfl rfl rfl (by omega)) rfl rfl (kk_wl ?_))
    refine wl_u rfl (ow_y (yh_assign rfl rfl) rfl rfl (kk_wl ?_))
    refine wl_nil ?_
    exact ex_next [3, 4, 0, 1] (hn6 (n6, (s3_c_1 ++ [x23]), s4 + 1, a25, c25, F25) (Nat.lt_succ_self _) h) ⟨rfl, rfl, rfl, rfl, trivial⟩ (by kernel_rfl)
  · skip
    replace h := bf cc1 h
    have q2 := ltb_false.1 cc1
    refine cw_exit ?_
    refine ex_then_exit ?_
    refine ex_then_exit ?_
    obtain rfl := Option.some.inj h
    have h := go_brk hk6
    refine ex_block_exit ?_
    refine ex_seq ?_
    refine cw_seq ?_
    refine cw_region ?_
    refine wl_u rfl (ow_y (yh_loadBA Tb (k := 2) rfl rfl rfl rfl rfl rfl) rfl rfl (kk_wl ?_))
    refine wl_u rfl (ow_storeA Tb (k := 1) rfl rfl rfl rfl rfl rfl rfl rfl rfl (kk_wl ?_))
    refine wl_nil ?_
    refine ex_seq ?_
    refine cw_ret ?_
    obtain rfl := Option.some.inj h
    exact ex_r1 Tb rfl (.cellA 0 rfl rfl rfl rfl rfl) (fun wq hq => ⟨_, rfl, hq.ext, ⟨as3_c_1, cs3_c_1, Fs3_c_1, rfl, NewC.sel [3] hq rfl⟩⟩)

def m_spec_l12With_L11 (N : Nat) (steps : List Step) (s_ : Step) : Nat → (List Step) → Bool → Nat → Option (Ex (List Step × Bool × Nat) (List Step))
  | 0, _, _, _ => none
  | n + 1, s5, s6, s7 => (bif ltb ((s7 : Nat) : Int) ((steps.length : Nat) : Int) then ((bif !s6 then (steps[s7]?).bind fun y20 => (bif !(slt y20.name s_.name) then (m_spec_l2Step N s_).bind fun x29 => (appd s5 [x29]).bind fun l31 => some ((s5 ++ [x29]), true)
 else some (s5, s6))
 else some (s5, s6)) : Option ((List Step) × Bool)).bind fun j115 => (steps[s7]?).bind fun y34 => (bif !(seq y34.name s_.name) then (m_spec_l2Step N y34).bind fun x45 => (appd j115.1 [x45]).bind fun l47 => m_spec_l12With_L11 N steps s_ n (j115.1 ++ [x45]) j115.2 (s7 + 1)
 else m_spec_l12With_L11 N steps s_ n j115.1 j115.2 (s7 + 1))
 else some (Ex.brk (s5, s6, s7)))

def m_spec_l12With (N : Nat) (steps : List Step) (s_ : Step) : Option (List Step) := (m_spec_l12With_L11 N steps s_ N ([] : List Step) false 0).bind fun e11 => e11.go (fun r => r) fun b11 => (bif !b11.2.1 then (m_spec_l2Step N s_).bind fun x52 => (appd b11.1 [x52]).bind fun l54 => some (b11.1 ++ [x52])
 else some b11.1)

set_option maxHeartbeats 4000000 in
theorem c_spec_l12With (N : Nat) (steps : List Step) (s_ : Step) (res : List Step) (h : m_spec_l12With N steps s_ = some res) (w : World) {a_s__after a_steps : Option Addr} {c_s__after c_steps : Nat} (h_steps : stepsL.rd w [] [.slice a_steps steps.length c_steps] steps) (h_s__after : strsL.rd w [] [.slice a_s__after s_.after.length c_s__after] s_.after) : Ret Tryz.prog 116 [.slice a_steps steps.length c_steps, .agg #[.string s_.name, .slice a_s__after s_.after.length c_s__after, .bool s_.undo]] w [] fun v w' => ∃ a1 c1 F1, v = .slice a1 res.length c1 ∧ NewC w w' [owC stepsL F1 [.slice a1 res.length c1] res] := by
  have mh_steps := rd_max h_steps
  have mh_s__after := rd_max h_s__after
  unfold m_spec_l12With at h
  refine ret_enter Tryz.func116 rfl Tryz.ntmps116 rfl (Hp.refl w _) ?_
  refine cw_seq ?_
  refine cw_region ?_
  refine wl_u rfl (ow_boxA rfl rfl rfl rfl (fun g3 => kk_wl ?_))
  refine wl_u rfl (ow_y (yh_assign rfl rfl) rfl rfl (kk_wl ?_))
  refine wl_nil ?_
  refine ex_seq ?_
  refine cw_seq ?_
  refine cw_region ?_
  refine wl_u rfl (ow_lit0 Tb rfl rfl rfl rfl rfl rfl (fun g8 => kk_chg (c' := owC stepsL [g8] [.slice (some ⟨g8, 0, none⟩) 0 0] ([] : List Step)) 0 rfl (fun w hA => own_stepsL ([] : List Step) hA rfl (by simp [maxLen])) rfl (kk_wl ?_)))
  refine wl_u rfl (ow_y (yh_assign rfl rfl) rfl rfl (kk_wl ?_))
  refine wl_nil ?_
  refine ex_seq ?_
  refine cw_seq ?_
  refine cw_region ?_
  refine wl_u rfl (ow_y (yh_assign rfl rfl) rfl rfl (kk_wl ?_))
  refine wl_nil ?_
  refine ex_seq ?_
  refine cw_seq ?_
  refine cw_seq ?_
  refine cw_region ?_
  refine wl_u rfl (ow_y (yh_assign rfl rfl) rfl rfl (kk_wl ?_))
  refine wl_nil ?_
  refine ex_seq ?_
  refine cw_block ?_
  obtain ⟨e11, he11, hk11⟩ := bd h
  clear h
  refine cw_loopG (σ := Nat × (List Step) × Bool × Nat × (Option Addr) × Nat × (List Nat)) (fun s => m_spec_l12With_L11 N steps s_ s.1 s.2.1 s.2.2.1 s.2.2.2.1 = some e11) (fun s => [(0, .slice a_steps steps.length c_steps), (3, .pointer (some ⟨g3, 0, none⟩)), (5, .slice s.2.2.2.2.1 s.2.1.length s.2.2.2.2.2.1), (6, .bool s.2.2.1), (7, .int .i64 ((s.2.2.2.1 : Nat) : Int))]) (fun s => [blkC g3 49 [.string s_.name, .slice a_s__after s_.after.length c_s__after, .bool s_.undo], owC stepsL s.2.2.2.2.2.2 [.slice s.2.2.2.2.1 s.2.1.length s.2.2.2.2.2.1] s.2.1]) (fun s => s.1) (N, ([] : List Step), false, 0, (some ⟨g8, 0, none⟩), 0, [g8]) [1, 0] he11 ⟨rfl, rfl, rfl, rfl, rfl, trivial⟩ rfl (fun KL s he11 hn11 => ?_)
  obtain ⟨n11, s5, s6, s7, as5, cs5, Fs5⟩ := s
  simp only at he11 hn11 ⊢
  rcases n11 with _ | n11
  · exact nosome he11
  have h := he11; rw [m_spec_l12With_L11] at h
  refine cw_seq ?_
  refine cw_seq ?_
  refine cw_region ?_
  refine wl_u rfl (ow_y (yh_move rfl rfl) rfl rfl (kk_wl ?_))
  refine wl_u rfl (ow_y (yh_move rfl rfl) rfl rfl (kk_wl ?_))
  refine wl_u rfl (ow_y (yh_lenS Tb rfl rfl rfl rfl) rfl rfl (kk_wl ?_))
  refine wl_u rfl (ow_y (yh_cmpI rfl rfl rfl rfl) rfl rfl (kk_wl ?_))
  refine wl_nil ?_
  refine ex_seq ?_
  refine cw_split rfl (fun cc1 => ?_) (fun cc1 => ?_)
  · skip
    replace h := bt cc1 h
    have q1 := ltb_true.1 cc1
    refine cw_skip ?_
    refine ex_seq ?_
    refine cw_seq ?_
    refine cw_block ?_
    obtain ⟨j115, he115, hk115⟩ := bd h
    clear h
    refine cw_cut (σ := (Option Addr) × Nat × (List Nat)) (fun s => True) (fun s => [(0, .slice a_steps steps.length c_steps), (3, .pointer (some ⟨g3, 0, none⟩)), (5, .slice s.1 j115.1.length s.2.1), (6, .bool j115.2), (7, .int .i64 ((s7 : Nat) : Int))]) (fun s => [blkC g3 49 [.string s_.name, .slice a_s__after s_.after.length c_s__after, .bool s_.undo], owC stepsL s.2.2 [.slice s.1 j115.1.length s.2.1] j115.1]) (fun s hI => ?_) (fun KL hn115 => ?_)
    · skip
      obtain ⟨ak115_5, ck115_5, Fk115_5⟩ := s
      simp only at ⊢
      have h := hk115
      refine cw_seq ?_
      refine cw_dr [0, 1, 2, 3, 4, 5, 6, 7] [] [blkC g3 49 [.string s_.name, .slice a_s__after s_.after.length c_s__after, .bool s_.undo], owC stepsL Fk115_5 [.slice ak115_5 j115.1.length ck115_5] j115.1] (by kernel_rfl) ?_
      refine wd_take (i := 0) [0, 1] rfl rfl rfl rfl rfl (by kernel_rfl) (by kernel_rfl) (fun _ _ _ _ h => h) (yh_move rfl rfl) ?_
      refine wd_take (i := 1) [0, 1] rfl rfl rfl rfl rfl (by kernel_rfl) (by kernel_rfl) (fun _ _ _ _ h => h) (yh_move rfl rfl) ?_
      obtain ⟨y34, hy34, h⟩ := bd h
      obtain ⟨b34, o34, ha34⟩ := sl_addr h_steps hy34
      subst ha34
      obtain ⟨a34, e34, hc34, hf34⟩ := get_step h_steps hy34
      have mx34 := rd_max hf34
      refine wd_take (i := 2) [0, 1] rfl rfl rfl rfl rfl (by kernel_rfl) (by kernel_rfl) (fun _ _ _ _ h => h) (yh_idx Tb (k := s7) rfl rfl rfl rfl (get_lt hy34) rfl rfl) ?_
      refine wd_take (i := 3) [0, 1] rfl rfl rfl rfl rfl (by kernel_rfl) (by kernel_rfl) (fun _ _ _ _ h => h) (yh_field Tb rfl rfl rfl) ?_
      refine wd_take (i := 4) [0, 1] rfl rfl rfl rfl rfl (by kernel_rfl) (by kernel_rfl) (fun _ _ _ _ h => h) (yh_loadAF Tb (j := 0) rfl rfl rfl hc34 rfl) ?_
      refine wd_take (i := 5) [0, 1] rfl rfl rfl rfl rfl (by kernel_rfl) (by kernel_rfl) (fun _ _ _ _ h => h) (yh_field Tb rfl rfl rfl) ?_
      refine wd_take (i := 6) [0, 1] rfl rfl rfl rfl rfl (by kernel_rfl) (by kernel_rfl) (fun _ _ _ _ h => h) (yh_loadB Tb (k := 0) rfl rfl rfl rfl rfl) ?_
      refine wd_take (i := 7) [0, 1] rfl rfl rfl rfl rfl (by kernel_rfl) (by kernel_rfl) (fun _ _ _ _ h => h) (yh_cmpS rfl rfl rfl rfl) ?_
      refine wd_done (by kernel_rfl) ?_
      refine ex_seq ?_
      refine cw_split rfl (fun cc2 => ?_) (fun cc2 => ?_)
      · skip
        replace h := bt cc2 h
        refine cw_region ?_
        refine wl_u rfl (ow_y (yh_move rfl rfl) rfl rfl (kk_wl ?_))
        refine wl_u rfl (ow_y (yh_move rfl rfl) rfl rfl (kk_wl ?_))
        refine wl_u rfl (ow_y (yh_move rfl rfl) rfl rfl (kk_wl ?_))
        refine wl_u rfl (ow_y (yh_idx Tb (k := s7) rfl rfl rfl rfl (get_lt hy34) rfl rfl) rfl rfl (kk_wl ?_))
        refine wl_u rfl (ow_y (yh_loadAN Tb rfl rfl rfl rfl hc34 rfl) rfl rfl (kk_wl ?_))
        obtain ⟨x45, hx45, h⟩ := bd h
        refine wl_u rfl (ow_cN1 rfl hb88 rfl (fun w hw => c_spec_l2Step N _ _ hx45 w (Lay.at_ hf34 hw)) rfl rfl (fun a45 c45 F45 => kk_wl ?_))
        refine wl_u rfl (ow_litA Tb rfl rfl rfl rfl rfl rfl (by decide) rfl rfl (fun g46 => kk_wl ?_))
        obtain ⟨hll47, h⟩ := bd_appd h
        refine wl_u rfl (ow_chg (c' := owC stepL F45 [.string x45.name, .slice a45 x45.after.length c45, .bool x45.undo] x45) 1 rfl (fun w hA => stepL_mk x45 hA) rfl (ow_appE Tb (i := 3) (j := 0) (k := 1) rfl rfl rfl rfl rfl rfl rfl rfl rfl rfl rfl (app1 hll47) (by decide) rfl rfl (fun a47 c47 F47 => kk_wl ?_)))
        refine wl_u rfl (ow_y (yh_assign rfl rfl) rfl rfl (kk_wl ?_))
        refine wl_nil ?_
        refine ex_block_normal ?_
        refine ex_seq ?_
        refine cw_region ?_
        refine wl_u rfl (ow_y (yh_move rfl rfl) rfl rfl (kk_wl ?_))
        refine wl_u rfl (ow_y (yh_arI rfl rfl rfl rfl (by omega)) rfl rfl (kk_wl ?_))
        refine wl_u rfl (ow_y (yh_assign rfl rfl) rfl rfl (kk_wl ?_))
        refine wl_nil ?_
        exact ex_next [2, 0] (hn11 (n11, (j115.1 ++ [x45]), j115.2, s7 + 1, a47, c47, F47) (Nat.lt_succ_self _) h) ⟨rfl, rfl, rfl, rfl, rfl, trivial⟩ (by kernel_rfl)
      · skip
        replace h := bf cc2 h
        refine cw_skip ?_
        refine ex_block_normal ?_
        refine ex_seq ?_
        refine cw_region ?_
        refine wl_u rfl (ow_y (yh_move rfl rfl) rfl rfl (kk_wl ?_))
        refine wl_u rfl (ow_y (yh_arI rfl rfl rfl rfl (by omega)) rfl rfl (kk_wl ?_))
        refine wl_u rfl (ow_y (yh_assign rfl rfl) rfl rfl (kk_wl ?_))
        refine wl_nil ?_
        exact ex_next [0, 1] (hn11 (n11, j115.1, j115.2, s7 + 1, ak115_5, ck115_5, Fk115_5) (Nat.lt_succ_self _) h) ⟨rfl, rfl, rfl, rfl, rfl, trivial⟩ (by kernel_rfl)
    · skip
      have h := he115
      refine cw_seq ?_
      refine cw_dr [0, 1, 2, 3, 4, 5, 6, 7, 8, 9, 10, 11] [] [blkC g3 49 [.string s_.name, .slice a_s__after s_.after.length c_s__after, .bool s_.undo], owC stepsL Fs5 [.slice as5 s5.length cs5] s5] (by kernel_rfl) ?_
      refine wd_take (i := 0) [0, 1] rfl rfl rfl rfl rfl (by kernel_rfl) (by kernel_rfl) (fun _ _ _ _ h => h) (yh_move rfl rfl) ?_
      refine wd_take (i := 1) [0, 1] rfl rfl rfl rfl rfl (by kernel_rfl) (by kernel_rfl) (fun _ _ _ _ h => h) (yh_not rfl rfl) ?_
      refine wd_take (i := 2) [0, 1] rfl rfl rfl rfl rfl (by kernel_rfl) (by kernel_rfl) (fun _ _ _ _ h => h) (yh_move rfl rfl) ?_
      refine wd_split 3 rfl rfl rfl (fun cc3 => ?_) (fun cc3 => ?_)
      · skip
        replace h := bt cc3 h
        refine wd_take (i := 3) [0, 1] rfl rfl rfl rfl rfl (by kernel_rfl) (by kernel_rfl) (fun _ _ _ _ h => h) (yh_move rfl rfl) ?_
        refine wd_take (i := 4) [0, 1] rfl rfl rfl rfl rfl (by kernel_rfl) (by kernel_rfl) (fun _ _ _ _ h => h) (yh_move rfl rfl) ?_
        obtain ⟨y20, hy20, h⟩ := bd h
        obtain ⟨b20, o20, ha20⟩ := sl_addr h_steps hy20
        subst ha20
        obtain ⟨a20, e20, hc20, hf20⟩ := get_step h_steps hy20
        have mx20 := rd_max hf20
        refine wd_take (i := 5) [0, 1] rfl rfl rfl rfl rfl (by kernel_rfl) (by kernel_rfl) (fun _ _ _ _ h => h) (yh_idx Tb (k := s7) rfl rfl rfl rfl (get_lt hy20) rfl rfl) ?_
        refine wd_take (i := 6) [0, 1] rfl rfl rfl rfl rfl (by kernel_rfl) (by kernel_rfl) (fun _ _ _ _ h => h) (yh_field Tb rfl rfl rfl) ?_
        refine wd_take (i := 7) [0, 1] rfl rfl rfl rfl rfl (by kernel_rfl) (by kernel_rfl) (fun _ _ _ _ h => h) (yh_loadAF Tb (j := 0) rfl rfl rfl hc20 rfl) ?_
        refine wd_take (i := 8) [0, 1] rfl rfl rfl rfl rfl (by kernel_rfl) (by kernel_rfl) (fun _ _ _ _ h => h) (yh_field Tb rfl rfl rfl) ?_
        refine wd_take (i := 9) [0, 1] rfl rfl rfl rfl rfl (by kernel_rfl) (by kernel_rfl) (fun _ _ _ _ h => h) (yh_loadB Tb (k := 0) rfl rfl rfl rfl rfl) ?_
        refine wd_take (i := 10) [0, 1] rfl rfl rfl rfl rfl (by kernel_rfl) (by kernel_rfl) (fun _ _ _ _ h => h) (yh_cmpS rfl rfl rfl rfl) ?_
        refine wd_take (i := 11) [0, 1] rfl rfl rfl rfl rfl (by kernel_rfl) (by kernel_rfl) (fun _ _ _ _ h => h) (yh_pickT rfl rfl rfl) ?_
        refine wd_done (by kernel_rfl) ?_
        refine ex_seq ?_
        refine cw_split rfl (fun cc4 => ?_) (fun cc4 => ?_)
        · skip
          replace h := bt cc4 h
          refine cw_seq ?_
          refine cw_region ?_
          refine wl_u rfl (ow_y (yh_move rfl rfl) rfl rfl (kk_wl ?_))
          refine wl_u rfl (ow_y (yh_loadBA Tb (k := 0) rfl rfl rfl rfl rfl rfl) rfl rfl (kk_wl ?_))
          obtain ⟨x29, hx29, h⟩ := bd h
          refine wl_u rfl (ow_cN1 rfl hb88 rfl (fun w hw => c_spec_l2Step N _ _ hx29 w (Lay.at_ h_s__after hw)) rfl rfl (fun a29 c29 F29 => kk_wl ?_))
          refine wl_u rfl (ow_litA Tb rfl rfl rfl rfl rfl rfl (by decide) rfl rfl (fun g30 => kk_wl ?_))
          obtain ⟨hll31, h⟩ := bd_appd h
          refine wl_u rfl (ow_chg (c' := owC stepL F29 [.string x29.name, .slice a29 x29.after.length c29, .bool x29.undo] x29) 1 rfl (fun w hA => stepL_mk x29 hA) rfl (ow_appE Tb (i := 3) (j := 0) (k := 1) rfl rfl rfl rfl rfl rfl rfl rfl rfl rfl rfl (app1 hll31) (by decide) rfl rfl (fun a31 c31 F31 => kk_wl ?_)))
          refine wl_u rfl (ow_y (yh_assign rfl rfl) rfl rfl (kk_wl ?_))
          refine wl_nil ?_
          refine ex_seq ?_
          refine cw_region ?_
          refine wl_u rfl (ow_y (yh_assign rfl rfl) rfl rfl (kk_wl ?_))
          refine wl_nil ?_
          obtain rfl := Option.some.inj h
          exact ex_next [2, 0] (hn115 (a31, c31, F31) trivial) ⟨rfl, rfl, rfl, rfl, rfl, trivial⟩ (by kernel_rfl)
        · skip
          replace h := bf cc4 h
          refine cw_skip ?_
          obtain rfl := Option.some.inj h
          exact ex_next [0, 1] (hn115 (as5, cs5, Fs5) trivial) ⟨rfl, rfl, rfl, rfl, rfl, trivial⟩ (by kernel_rfl)
      · skip
        replace h := bf cc3 h
        refine wd_skip (i := 3) [0, 1] rfl rfl rfl rfl (by kernel_rfl) (by kernel_rfl) (fun _ _ _ h => h) ?_
        refine wd_skip (i := 4) [0, 1] rfl rfl rfl rfl (by kernel_rfl) (by kernel_rfl) (fun _ _ _ h => h) ?_
        refine wd_skip (i := 5) [0, 1] rfl rfl rfl rfl (by kernel_rfl) (by kernel_rfl) (fun _ _ _ h => h) ?_
        refine wd_skip (i := 6) [0, 1] rfl rfl rfl rfl (by kernel_rfl) (by kernel_rfl) (fun _ _ _ h => h) ?_
        refine wd_skip (i := 7) [0, 1] rfl rfl rfl rfl (by kernel_rfl) (by kernel_rfl) (fun _ _ _ h => h) ?_
        refine wd_skip (i := 8) [0, 1] rfl rfl rfl rfl (by kernel_rfl) (by kernel_rfl) (fun _ _ _ h => h) ?_
        refine wd_skip (i := 9) [0, 1] rfl rfl rfl rfl (by kernel_rfl) (by kernel_rfl) (fun _ _ _ h => h) ?_
        refine wd_skip (i := 10) [0, 1] rfl rfl rfl rfl (by kernel_rfl) (by kernel_rfl) (fun _ _ _ h => h) ?_
        refine wd_take (i := 11) [0, 1] rfl rfl rfl rfl rfl (by kernel_rfl) (by kernel_rfl) (fun _ _ _ _ h => h) (yh_pickF rfl rfl rfl) ?_
        refine wd_done (by kernel_rfl) ?_
        refine ex_seq ?_
        refine cw_false rfl ?_
        refine cw_skip ?_
        obtain rfl := Option.some.inj h
        exact ex_next [0, 1] (hn115 (as5, cs5, Fs5) trivial) ⟨rfl, rfl, rfl, rfl, rfl, trivial⟩ (by kernel_rfl)
  · skip
    replace h := bf cc1 h
    have q2 := ltb_false.1 cc1
    refine cw_exit ?_
    refine ex_then_exit ?_
    refine ex_then_exit ?_
    obtain rfl := Option.some.inj h
    have h := go_brk hk11
    refine ex_block_exit ?_
    refine ex_seq ?_
    refine cw_seq ?_
    refine cw_seq ?_
    refine cw_region ?_
    refine wl_u rfl (ow_y (yh_move rfl rfl) rfl rfl (kk_wl ?_))
    refine wl_u rfl (ow_y (yh_not rfl rfl) rfl rfl (kk_wl ?_))
    refine wl_nil ?_
    refine ex_seq ?_
    refine cw_split rfl (fun cc5 => ?_) (fun cc5 => ?_)
    · skip
      replace h := bt cc5 h
      refine cw_region ?_
      refine wl_u rfl (ow_y (yh_move rfl rfl) rfl rfl (kk_wl ?_))
      refine wl_u rfl (ow_y (yh_loadBA Tb (k := 0) rfl rfl rfl rfl rfl rfl) rfl rfl (kk_wl ?_))
      obtain ⟨x52, hx52, h⟩ := bd h
      refine wl_u rfl (ow_cN1 rfl hb88 rfl (fun w hw => c_spec_l2Step N _ _ hx52 w (Lay.at_ h_s__after hw)) rfl rfl (fun a52 c52 F52 => kk_wl ?_))
      refine wl_u rfl (ow_litA Tb rfl rfl rfl rfl rfl rfl (by decide) rfl rfl (fun g53 => kk_wl ?_))
      obtain ⟨hll54, h⟩ := bd_appd h
      refine wl_u rfl (ow_chg (c' := owC stepL F52 [.string x52.name, .slice a52 x52.after.length c52, .bool x52.undo] x52) 1 rfl (fun w hA => stepL_mk x52 hA) rfl (ow_appE Tb (i := 3) (j := 0) (k := 1) rfl rfl rfl rfl rfl rfl rfl rfl rfl rfl rfl (app1 hll54) (by decide) rfl rfl (fun a54 c54 F54 => kk_wl ?_)))
      refine wl_u rfl (ow_y (yh_assign rfl rfl) rfl rfl (kk_wl ?_))
      refine wl_nil ?_
      refine ex_seq ?_
      refine cw_seq ?_
      refine cw_region ?_
      refine wl_u rfl (ow_y (yh_move rfl rfl) rfl rfl (kk_wl ?_))
      refine wl_u rfl (ow_y (yh_assign rfl rfl) rfl rfl (kk_wl ?_))
      refine wl_nil ?_
      refine ex_seq ?_
      refine cw_ret ?_
      obtain rfl := Option.some.inj h
      exact ex_r1 Tb rfl (.tmp rfl) (fun wq hq => ⟨_, rfl, hq.ext, ⟨a54, c54, F54, rfl, NewC.sel [0] hq rfl⟩⟩)
    · skip
      replace h := bf cc5 h
      refine cw_skip ?_
      refine ex_seq ?_
      refine cw_seq ?_
      refine cw_region ?_
      refine wl_u rfl (ow_y (yh_move rfl rfl) rfl rfl (kk_wl ?_))
      refine wl_u rfl (ow_y (yh_assign rfl rfl) rfl rfl (kk_wl ?_))
      refine wl_nil ?_
      refine ex_seq ?_
      refine cw_ret ?_
      obtain rfl := Option.some.inj h
      exact ex_r1 Tb rfl (.tmp rfl) (fun wq hq => ⟨_, rfl, hq.ext, ⟨as5, cs5, Fs5, rfl, NewC.sel [1] hq rfl⟩⟩)

def m_spec_l1Put_L6 (N : Nat) (list_ : List Str) (name : Str) : Nat → (List Str) → Bool → Nat → Option (Ex (List Str × Bool × Nat) (List Str))
  | 0, _, _, _ => none
  | n + 1, s5, s6, s7 => (bif ltb ((s7 : Nat) : Int) ((list_.length : Nat) : Int) then ((bif !s6 then (list_[s7]?).bind fun y20 => (bif !(slt y20 name) then (appd s5 ([name] : List Str)).bind fun l28 => some ((s5 ++ ([name] : List Str)), true)
 else some (s5, s6))
 else some (s5, s6)) : Option ((List Str) × Bool)).bind fun j110 => (list_[s7]?).bind fun y31 => (bif !(seq y31 name) then (appd j110.1 ([y31] : List Str)).bind fun l41 => m_spec_l1Put_L6 N list_ name n (j110.1 ++ ([y31] : List Str)) j110.2 (s7 + 1)
 else m_spec_l1Put_L6 N list_ name n j110.1 j110.2 (s7 + 1))
 else some (Ex.brk (s5, s6, s7)))

def m_spec_l1Put (N : Nat) (list_ : List Str) (name : Str) : Option (List Str) := (m_spec_l1Put_L6 N list_ name N ([] : List Str) false 0).bind fun e6 => e6.go (fun r => r) fun b6 => (bif !b6.2.1 then (appd b6.1 ([name] : List Str)).bind fun l47 => some (b6.1 ++ ([name] : List Str))
 else some b6.1)

set_option maxHeartbeats 4000000 in
theorem c_spec_l1Put (N : Nat) (list_ : List Str) (name : Str) (res : List Str) (h : m_spec_l1Put N list_ name = some res) (w : World) {a_list_ : Option Addr} {c_list_ : Nat} (h_list_ : strsL.rd w [] [.slice a_list_ list_.length c_list_] list_) : Ret Tryz.prog 138 [.slice a_list_ list_.length c_list_, .string name] w [] fun v w' => ∃ a1 c1 F1, v = .slice a1 res.length c1 ∧ NewC w w' [owC strsL F1 [.slice a1 res.length c1] res] := by
  have mh_list_ := rd_max h_list_
  unfold m_spec_l1Put at h
  refine ret_enter Tryz.func138 rfl Tryz.ntmps138 rfl (Hp.refl w _) ?_
  refine cw_seq ?_
  refine cw_region ?_
  refine wl_u rfl (ow_y (yh_assign rfl rfl) rfl rfl (kk_wl ?_))
  refine wl_nil ?_
  refine ex_seq ?_
  refine cw_seq ?_
  refine cw_region ?_
  refine wl_u rfl (ow_lit0 Tb rfl rfl rfl rfl rfl rfl (fun g8 => kk_chg (c' := owC strsL [g8] [.slice (some ⟨g8, 0, none⟩) 0 0] ([] : List Str)) 0 rfl (fun w hA => own_strsL ([] : List Str) hA rfl (by simp [maxLen])) rfl (kk_wl ?_)))
  refine wl_u rfl (ow_y (yh_assign rfl rfl) rfl rfl (kk_wl ?_))
  refine wl_nil ?_
  refine ex_seq ?_
  refine cw_seq ?_
  refine cw_region ?_
  refine wl_u rfl (ow_y (yh_assign rfl rfl) rfl rfl (kk_wl ?_))
  refine wl_nil ?_
  refine ex_seq ?_
  refine cw_seq ?_
  refine cw_seq ?_
  refine cw_region ?_
  refine wl_u rfl (ow_y (yh_assign rfl rfl) rfl rfl (kk_wl ?_))
  refine wl_nil ?_
  refine ex_seq ?_
  refine cw_block ?_
  obtain ⟨e6, he6, hk6⟩ := bd h
  clear h
  refine cw_loopG (σ := Nat × (List Str) × Bool × Nat × (Option Addr) × Nat × (List Nat)) (fun s => m_spec_l1Put_L6 N list_ name s.1 s.2.1 s.2.2.1 s.2.2.2.1 = some e6) (fun s => [(0, .slice a_list_ list_.length c_list_), (1, .string name), (5, .slice s.2.2.2.2.1 s.2.1.length s.2.2.2.2.2.1), (6, .bool s.2.2.1), (7, .int .i64 ((s.2.2.2.1 : Nat) : Int))]) (fun s => [owC strsL s.2.2.2.2.2.2 [.slice s.2.2.2.2.1 s.2.1.length s.2.2.2.2.2.1] s.2.1]) (fun s => s.1) (N, ([] : List Str), false, 0, (some ⟨g8, 0, none⟩), 0, [g8]) [0] he6 ⟨rfl, rfl, rfl, rfl, rfl, trivial⟩ rfl (fun KL s he6 hn6 => ?_)
  obtain ⟨n6, s5, s6, s7, as5, cs5, Fs5⟩ := s
  simp only at he6 hn6 ⊢
  rcases n6 with _ | n6
  · exact nosome he6
  have h := he6; rw [m_spec_l1Put_L6] at h
  refine cw_seq ?_
  refine cw_seq ?_
  refine cw_region ?_
  refine wl_u rfl (ow_y (yh_move rfl rfl) rfl rfl (kk_wl ?_))
  refine wl_u rfl (ow_y (yh_move rfl rfl) rfl rfl (kk_wl ?_))
  refine wl_u rfl (ow_y (yh_lenS Tb rfl rfl rfl rfl) rfl rfl (kk_wl ?_))
  refine wl_u rfl (ow_y (yh_cmpI rfl rfl rfl rfl) rfl rfl (kk_wl ?_))
  refine wl_nil ?_
  refine ex_seq ?_
  refine cw_split rfl (fun cc1 => ?_) (fun cc1 => ?_)
  · skip
    replace h := bt cc1 h
    have q1 := ltb_true.1 cc1
    refine cw_skip ?_
    refine ex_seq ?_
    refine cw_seq ?_
    refine cw_block ?_
    obtain ⟨j110, he110, hk110⟩ := bd h
    clear h
    refine cw_cut (σ := (Option Addr) × Nat × (List Nat)) (fun s => True) (fun s => [(0, .slice a_list_ list_.length c_list_), (1, .string name), (5, .slice s.1 j110.1.length s.2.1), (6, .bool j110.2), (7, .int .i64 ((s7 : Nat) : Int))]) (fun s => [owC strsL s.2.2 [.slice s.1 j110.1.length s.2.1] j110.1]) (fun s hI => ?_) (fun KL hn110 => ?_)
    · skip
      obtain ⟨ak110_5, ck110_5, Fk110_5⟩ := s
      simp only at ⊢
      have h := hk110
      refine cw_seq ?_
      refine cw_region ?_
      refine wl_u rfl (ow_y (yh_move rfl rfl) rfl rfl (kk_wl ?_))
      refine wl_u rfl (ow_y (yh_move rfl rfl) rfl rfl (kk_wl ?_))
      obtain ⟨y31, hy31, h⟩ := bd h
      obtain ⟨b31, o31, ha31⟩ := sl_addr h_list_ hy31
      subst ha31
      have hc31 := get_str h_list_ hy31
      refine wl_u rfl (ow_y (yh_idx Tb (k := s7) rfl rfl rfl rfl (get_lt hy31) rfl rfl) rfl rfl (kk_wl ?_))
      refine wl_u rfl (ow_y (yh_loadA0 Tb rfl rfl rfl hc31 rfl) rfl rfl (kk_wl ?_))
      refine wl_u rfl (ow_y (yh_move rfl rfl) rfl rfl (kk_wl ?_))
      refine wl_u rfl (ow_y (yh_cmpS rfl rfl rfl rfl) rfl rfl (kk_wl ?_))
      refine wl_nil ?_
      refine ex_seq ?_
      refine cw_split rfl (fun cc2 => ?_) (fun cc2 => ?_)
      · skip
        replace h := bt cc2 h
        refine cw_region ?_
        refine wl_u rfl (ow_y (yh_move rfl rfl) rfl rfl (kk_wl ?_))
        refine wl_u rfl (ow_y (yh_move rfl rfl) rfl rfl (kk_wl ?_))
        refine wl_u rfl (ow_y (yh_move rfl rfl) rfl rfl (kk_wl ?_))
        refine wl_u rfl (ow_y (yh_idx Tb (k := s7) rfl rfl rfl rfl (get_lt hy31) rfl rfl) rfl rfl (kk_wl ?_))
        refine wl_u rfl (ow_y (yh_loadA0 Tb rfl rfl rfl hc31 rfl) rfl rfl (kk_wl ?_))
        refine wl_u rfl (ow_lit1 Tb rfl rfl rfl rfl rfl rfl rfl rfl rfl rfl (fun g40 => kk_chg (c' := owC strsL [g40] [.slice (some ⟨g40, 0, none⟩) 1 1] ([y31] : List Str)) 0 rfl (fun w hA => own_strsL ([y31] : List Str) hA rfl (by simp [maxLen])) rfl (kk_wl ?_)))
        obtain ⟨hll41, h⟩ := bd_appd h
        refine wl_u rfl (ow_appP Tb (i := 1) rfl rfl rfl rfl rfl (fun w hw => rdo (A := strsL) 0 rfl hw) rfl rfl rfl rfl hll41 (by decide) rfl rfl (fun a41 c41 F41 => kk_wl ?_))
        refine wl_u rfl (ow_y (yh_assign rfl rfl) rfl rfl (kk_wl ?_))
        refine wl_nil ?_
        refine ex_block_normal ?_
        refine ex_seq ?_
        refine cw_region ?_
        refine wl_u rfl (ow_y (yh_move rfl rfl) rfl rfl (kk_wl ?_))
        refine wl_u rfl (ow_y (yh_arI rfl rfl rfl rfl (by omega)) rfl rfl (kk_wl ?_))
        refine wl_u rfl (ow_y (yh_assign rfl rfl) rfl rfl (kk_wl ?_))
        refine wl_nil ?_
        exact ex_next [0] (hn6 (n6, (j110.1 ++ ([y31] : List Str)), j110.2, s7 + 1, a41, c41, F41) (Nat.lt_succ_self _) h) ⟨rfl, rfl, rfl, rfl, rfl, trivial⟩ (by kernel_rfl)
      · skip
        replace h := bf cc2 h
        refine cw_skip ?_
        refine ex_block_normal ?_
        refine ex_seq ?_
        refine cw_region ?_
        refine wl_u rfl (ow_y (yh_move rfl rfl) rfl rfl (kk_wl ?_))
        refine wl_u rfl (ow_y (yh_arI rfl rfl rfl rfl (by omega)) rfl rfl (kk_wl ?_))
        refine wl_u rfl (ow_y (yh_assign rfl rfl) rfl rfl (kk_wl ?_))
        refine wl_nil ?_
        exact ex_next [0] (hn6 (n6, j110.1, j110.2, s7 + 1, ak110_5, ck110_5, Fk110_5) (Nat.lt_succ_self _) h) ⟨rfl, rfl, rfl, rfl, rfl, trivial⟩ (by kernel_rfl)
    · skip
      have h := he110
      refine cw_seq ?_
      refine cw_region ?_
      refine wl_u rfl (ow_y (yh_move rfl rfl) rfl rfl (kk_wl ?_))
      refine wl_u rfl (ow_y (yh_not rfl rfl) rfl rfl (kk_wl ?_))
      refine wl_u rfl (ow_y (yh_move rfl rfl) rfl rfl (kk_wl ?_))
      refine wl_s rfl rfl (fun cc3 => ?_) (fun cc3 => ?_)
      · skip
        replace h := bt cc3 h
        refine wl_g rfl rfl (ow_y (yh_move rfl rfl) rfl rfl (kk_wl ?_))
        refine wl_g rfl rfl (ow_y (yh_move rfl rfl) rfl rfl (kk_wl ?_))
        obtain ⟨y20, hy20, h⟩ := bd h
        obtain ⟨b20, o20, ha20⟩ := sl_addr h_list_ hy20
        subst ha20
        have hc20 := get_str h_list_ hy20
        refine wl_g rfl rfl (ow_y (yh_idx Tb (k := s7) rfl rfl rfl rfl (get_lt hy20) rfl rfl) rfl rfl (kk_wl ?_))
        refine wl_g rfl rfl (ow_y (yh_loadA0 Tb rfl rfl rfl hc20 rfl) rfl rfl (kk_wl ?_))
        refine wl_g rfl rfl (ow_y (yh_move rfl rfl) rfl rfl (kk_wl ?_))
        refine wl_g rfl rfl (ow_y (yh_cmpS rfl rfl rfl rfl) rfl rfl (kk_wl ?_))
        refine wl_u rfl (ow_y (yh_pickT rfl rfl rfl) rfl rfl (kk_wl ?_))
        refine wl_nil ?_
        refine ex_seq ?_
        refine cw_split rfl (fun cc4 => ?_) (fun cc4 => ?_)
        · skip
          replace h := bt cc4 h
          refine cw_seq ?_
          refine cw_region ?_
          refine wl_u rfl (ow_y (yh_move rfl rfl) rfl rfl (kk_wl ?_))
          refine wl_u rfl (ow_y (yh_move rfl rfl) rfl rfl (kk_wl ?_))
          refine wl_u rfl (ow_lit1 Tb rfl rfl rfl rfl rfl rfl rfl rfl rfl rfl (fun g27 => kk_chg (c' := owC strsL [g27] [.slice (some ⟨g27, 0, none⟩) 1 1] ([name] : List Str)) 0 rfl (fun w hA => own_strsL ([name] : List Str) hA rfl (by simp [maxLen])) rfl (kk_wl ?_)))
          obtain ⟨hll28, h⟩ := bd_appd h
          refine wl_u rfl (ow_appP Tb (i := 1) rfl rfl rfl rfl rfl (fun w hw => rdo (A := strsL) 0 rfl hw) rfl rfl rfl rfl hll28 (by decide) rfl rfl (fun a28 c28 F28 => kk_wl ?_))
          refine wl_u rfl (ow_y (yh_assign rfl rfl) rfl rfl (kk_wl ?_))
          refine wl_nil ?_
          refine ex_seq ?_
          refine cw_region ?_
          refine wl_u rfl (ow_y (yh_assign rfl rfl) rfl rfl (kk_wl ?_))
          refine wl_nil ?_
          obtain rfl := Option.some.inj h
          exact ex_next [0] (hn110 (a28, c28, F28) trivial) ⟨rfl, rfl, rfl, rfl, rfl, trivial⟩ (by kernel_rfl)
        · skip
          replace h := bf cc4 h
          refine cw_skip ?_
          obtain rfl := Option.some.inj h
          exact ex_next [0] (hn110 (as5, cs5, Fs5) trivial) ⟨rfl, rfl, rfl, rfl, rfl, trivial⟩ (by kernel_rfl)
      · skip
        replace h := bf cc3 h
        refine wl_n rfl rfl rfl rfl ?_
        refine wl_n rfl rfl rfl rfl ?_
        refine wl_n rfl rfl rfl rfl ?_
        refine wl_n rfl rfl rfl rfl ?_
        refine wl_n rfl rfl rfl rfl ?_
        refine wl_n rfl rfl rfl rfl ?_
        refine wl_u rfl (ow_y (yh_pickF rfl rfl rfl) rfl rfl (kk_wl ?_))
        refine wl_nil ?_
        refine ex_seq ?_
        refine cw_false rfl ?_
        refine cw_skip ?_
        obtain rfl := Option.some.inj h
        exact ex_next [0] (hn110 (as5, cs5, Fs5) trivial) ⟨rfl, rfl, rfl, rfl, rfl, trivial⟩ (by kernel_rfl)
  · skip
    replace h := bf cc1 h
    have q2 := ltb_false.1 cc1
    refine cw_exit ?_
    refine ex_then_exit ?_
    refine ex_then_exit ?_
    obtain rfl := Option.some.inj h
    have h := go_brk hk6
    refine ex_block_exit ?_
    refine ex_seq ?_
    refine cw_seq ?_
    refine cw_seq ?_
    refine cw_region ?_
    refine wl_u rfl (ow_y (yh_move rfl rfl) rfl rfl (kk_wl ?_))
    refine wl_u rfl (ow_y (yh_not rfl rfl) rfl rfl (kk_wl ?_))
    refine wl_nil ?_
    refine ex_seq ?_
    refine cw_split rfl (fun cc5 => ?_) (fun cc5 => ?_)
    · skip
      replace h := bt cc5 h
      refine cw_region ?_
      refine wl_u rfl (ow_y (yh_move rfl rfl) rfl rfl (kk_wl ?_))
      refine wl_u rfl (ow_y (yh_move rfl rfl) rfl rfl (kk_wl ?_))
      refine wl_u rfl (ow_lit1 Tb rfl rfl rfl rfl rfl rfl rfl rfl rfl rfl (fun g46 => kk_chg (c' := owC strsL [g46] [.slice (some ⟨g46, 0, none⟩) 1 1] ([name] : List Str)) 0 rfl (fun w hA => own_strsL ([name] : List Str) hA rfl (by simp [maxLen])) rfl (kk_wl ?_)))
      obtain ⟨hll47, h⟩ := bd_appd h
      refine wl_u rfl (ow_appP Tb (i := 1) rfl rfl rfl rfl rfl (fun w hw => rdo (A := strsL) 0 rfl hw) rfl rfl rfl rfl hll47 (by decide) rfl rfl (fun a47 c47 F47 => kk_wl ?_))
      refine wl_u rfl (ow_y (yh_assign rfl rfl) rfl rfl (kk_wl ?_))
      refine wl_nil ?_
      refine ex_seq ?_
      refine cw_seq ?_
      refine cw_region ?_
      refine wl_u rfl (ow_y (yh_move rfl rfl) rfl rfl (kk_wl ?_))
      refine wl_u rfl (ow_y (yh_assign rfl rfl) rfl rfl (kk_wl ?_))
      refine wl_nil ?_
      refine ex_seq ?_
      refine cw_ret ?_
      obtain rfl := Option.some.inj h
      exact ex_r1 Tb rfl (.tmp rfl) (fun wq hq => ⟨_, rfl, hq.ext, ⟨a47, c47, F47, rfl, NewC.sel [0] hq rfl⟩⟩)
    · skip
      replace h := bf cc5 h
      refine cw_skip ?_
      refine ex_seq ?_
      refine cw_seq ?_
      refine cw_region ?_
      refine wl_u rfl (ow_y (yh_move rfl rfl) rfl rfl (kk_wl ?_))
      refine wl_u rfl (ow_y (yh_assign rfl rfl) rfl rfl (kk_wl ?_))
      refine wl_nil ?_
      refine ex_seq ?_
      refine cw_ret ?_
      obtain rfl := Option.some.inj h
      exact ex_r1 Tb rfl (.tmp rfl) (fun wq hq => ⟨_, rfl, hq.ext, ⟨as5, cs5, Fs5, rfl, NewC.sel [0] hq rfl⟩⟩)

def m_spec_l12Without_L16 (N : Nat) (u1 : Str) (x29 : Step) : Nat → (List Str) → Nat → Option (Ex (List Str × Nat) (List Step))
  | 0, _, _ => none
  | n + 1, s9, s10 => (bif ltb ((s10 : Nat) : Int) ((x29.after.length : Nat) : Int) then (x29.after[s10]?).bind fun y46 => (bif !(seq y46 u1) then (m_spec_l1Put N s9 y46).bind fun x56 => m_spec_l12Without_L16 N u1 x29 n x56 (s10 + 1)
 else m_spec_l12Without_L16 N u1 x29 n s9 (s10 + 1))
 else some (Ex.brk (s9, s10)))

def m_spec_l12Without_L23 (N : Nat) (y17 : Step) : Nat → (List Str) → Nat → Option (Ex (List Str × Nat) (List Step))
  | 0, _, _ => none
  | n + 1, s9, s11 => (bif ltb ((s11 : Nat) : Int) ((y17.after.length : Nat) : Int) then (y17.after[s11]?).bind fun y68 => (m_spec_l1Put N s9 y68).bind fun x70 => m_spec_l12Without_L23 N y17 n x70 (s11 + 1)
 else some (Ex.brk (s9, s11)))

def m_spec_l12Without_L6 (N : Nat) (u0 : List Step) (u1 : Str) (y17 : Step) : Nat → (List Step) → Nat → Option (Ex (List Step × Nat) (List Step))
  | 0, _, _ => none
  | n + 1, s5, s7 => (bif ltb ((s7 : Nat) : Int) ((u0.length : Nat) : Int) then (u0[s7]?).bind fun y27 => (m_spec_l2Step N y27).bind fun x29 => (m_spec_l1At N x29.after u1).bind fun x33 => (bif leb 0 x33 then (m_spec_l12Without_L16 N u1 x29 N ([] : List Str) 0).bind fun e16 => e16.go Ex.ret fun b16 => (m_spec_l12Without_L23 N y17 N b16.1 0).bind fun e23 => e23.go Ex.ret fun b23 => (bif !(seq x29.name u1) then (appd s5 [(Step.mk x29.name b23.1 x29.undo)]).bind fun l80 => m_spec_l12Without_L6 N u0 u1 y17 n (s5 ++ [(Step.mk x29.name b23.1 x29.undo)]) (s7 + 1)
 else m_spec_l12Without_L6 N u0 u1 y17 n s5 (s7 + 1))
 else (bif !(seq x29.name u1) then (appd s5 [x29]).bind fun l80 => m_spec_l12Without_L6 N u0 u1 y17 n (s5 ++ [x29]) (s7 + 1)
 else m_spec_l12Without_L6 N u0 u1 y17 n s5 (s7 + 1)))
 else some (Ex.brk (s5, s7)))

def m_spec_l12Without (N : Nat) (u0 : List Step) (u1 : Str) : Option (List Step) := (m_spec_l2At N u0 u1).bind fun x16 => (geti u0 x16).bind fun y17 => (m_spec_l12Without_L6 N u0 u1 y17 N ([] : List Step) 0).bind fun e6 => e6.go (fun r => r) fun b6 => some b6.1

set_option maxHeartbeats 4000000 in
theorem c_spec_l12Without (N : Nat) (u0 : List Step) (u1 : Str) (res : List Step) (h : m_spec_l12Without N u0 u1 = some res) (w : World) {a_u0 : Option Addr} {c_u0 : Nat} (h_u0 : stepsL.rd w [] [.slice a_u0 u0.length c_u0] u0) : Ret Tryz.prog 117 [.slice a_u0 u0.length c_u0, .string u1] w [] fun v w' => ∃ a1 c1 F1, v = .slice a1 res.length c1 ∧ NewC w w' [owC stepsL F1 [.slice a1 res.length c1] res] := by
  have mh_u0 := rd_max h_u0
  unfold m_spec_l12Without at h
  refine ret_enter Tryz.func117 rfl Tryz.ntmps117 rfl (Hp.refl w _) ?_
  refine cw_seq ?_
  refine cw_region ?_
  refine wl_u rfl (ow_y (yh_assign rfl rfl) rfl rfl (kk_wl ?_))
  refine wl_nil ?_
  refine ex_seq ?_
  refine cw_seq ?_
  refine cw_region ?_
  refine wl_u rfl (ow_lit0 Tb rfl rfl rfl rfl rfl rfl (fun g12 => kk_chg (c' := owC stepsL [g12] [.slice (some ⟨g12, 0, none⟩) 0 0] ([] : List Step)) 0 rfl (fun w hA => own_stepsL ([] : List Step) hA rfl (by simp [maxLen])) rfl (kk_wl ?_)))
  refine wl_u rfl (ow_y (yh_assign rfl rfl) rfl rfl (kk_wl ?_))
  refine wl_nil ?_
  refine ex_seq ?_
  refine cw_seq ?_
  refine cw_region ?_
  refine wl_u rfl (ow_y (yh_move rfl rfl) rfl rfl (kk_wl ?_))
  refine wl_u rfl (ow_y (yh_move rfl rfl) rfl rfl (kk_wl ?_))
  refine wl_u rfl (ow_y (yh_move rfl rfl) rfl rfl (kk_wl ?_))
  obtain ⟨x16, hx16, h⟩ := bd h
  refine wl_u rfl (ow_cV rfl hb84 rfl (fun w hw => c_spec_l2At N _ _ _ hx16 w (Lay.at_ h_u0 hw)) rfl rfl (kk_wl ?_))
  obtain ⟨y17, zy17, h⟩ := bd h
  obtain ⟨iy17, hy17⟩ := geti_some zy17
  obtain ⟨b17, o17, ha17⟩ := sl_addr h_u0 hy17
  subst ha17
  obtain ⟨a17, e17, hc17, hf17⟩ := get_step h_u0 hy17
  have mx17 := rd_max hf17
  refine wl_u rfl (ow_y (yh_idx Tb (k := x16.toNat) rfl rfl rfl iy17 (get_lt hy17) rfl rfl) rfl rfl (kk_wl ?_))
  refine wl_u rfl (ow_y (yh_loadAN Tb rfl rfl rfl rfl hc17 rfl) rfl rfl (kk_wl ?_))
  refine wl_u rfl (ow_allocA Tb rfl rfl rfl rfl (fun g6 => kk_wl ?_))
  refine wl_u rfl (ow_storeA Tb (k := 0) rfl rfl rfl rfl rfl rfl rfl rfl rfl (kk_wl ?_))
  refine wl_nil ?_
  refine ex_seq ?_
  refine cw_seq ?_
  refine cw_seq ?_
  refine cw_region ?_
  refine wl_u rfl (ow_y (yh_assign rfl rfl) rfl rfl (kk_wl ?_))
  refine wl_nil ?_
  refine ex_seq ?_
  refine cw_block ?_
  obtain ⟨e6, he6, hk6⟩ := bd h
  clear h
  refine cw_loopG (σ := Nat × (List Step) × Nat × (Option Addr) × Nat × (List Nat)) (fun s => m_spec_l12Without_L6 N u0 u1 y17 s.1 s.2.1 s.2.2.1 = some e6) (fun s => [(0, .slice (some ⟨b17, o17, none⟩) u0.length c_u0), (1, .string u1), (5, .slice s.2.2.2.1 s.2.1.length s.2.2.2.2.1), (6, .pointer (some ⟨g6, 0, none⟩)), (7, .int .i64 ((s.2.2.1 : Nat) : Int))]) (fun s => [owC stepsL s.2.2.2.2.2 [.slice s.2.2.2.1 s.2.1.length s.2.2.2.2.1] s.2.1, blkC g6 49 [.string y17.name, .slice a17 y17.after.length e17, .bool y17.undo]]) (fun s => s.1) (N, ([] : List Step), 0, (some ⟨g12, 0, none⟩), 0, [g12]) [1, 0] he6 ⟨rfl, rfl, rfl, rfl, rfl, trivial⟩ rfl (fun KL s he6 hn6 => ?_)
  obtain ⟨n6, s5, s7, as5, cs5, Fs5⟩ := s
  simp only at he6 hn6 ⊢
  rcases n6 with _ | n6
  · exact nosome he6
  have h := he6; rw [m_spec_l12Without_L6] at h
  refine cw_seq ?_
  refine cw_seq ?_
  refine cw_region ?_
  refine wl_u rfl (ow_y (yh_move rfl rfl) rfl rfl (kk_wl ?_))
  refine wl_u rfl (ow_y (yh_move rfl rfl) rfl rfl (kk_wl ?_))
  refine wl_u rfl (ow_y (yh_lenS Tb rfl rfl rfl rfl) rfl rfl (kk_wl ?_))
  refine wl_u rfl (ow_y (yh_cmpI rfl rfl rfl rfl) rfl rfl (kk_wl ?_))
  refine wl_nil ?_
  refine ex_seq ?_
  refine cw_split rfl (fun cc1 => ?_) (fun cc1 => ?_)
  · skip
    replace h := bt cc1 h
    have q1 := ltb_true.1 cc1
    refine cw_skip ?_
    refine ex_seq ?_
    refine cw_seq ?_
    refine cw_block ?_
    refine cw_seq ?_
    refine cw_region ?_
    refine wl_u rfl (ow_y (yh_move rfl rfl) rfl rfl (kk_wl ?_))
    refine wl_u rfl (ow_y (yh_move rfl rfl) rfl rfl (kk_wl ?_))
    obtain ⟨y27, hy27, h⟩ := bd h
    obtain ⟨a27, e27, hc27, hf27⟩ := get_step h_u0 hy27
    have mx27 := rd_max hf27
    refine wl_u rfl (ow_y (yh_idx Tb (k := s7) rfl rfl rfl rfl (get_lt hy27) rfl rfl) rfl rfl (kk_wl ?_))
    refine wl_u rfl (ow_y (yh_loadAN Tb rfl rfl rfl rfl hc27 rfl) rfl rfl (kk_wl ?_))
    obtain ⟨x29, hx29, h⟩ := bd h
    refine wl_u rfl (ow_cN1 rfl hb88 rfl (fun w hw => c_spec_l2Step N _ _ hx29 w (Lay.at_ hf27 hw)) rfl rfl (fun a29 c29 F29 => kk_wl ?_))
    refine wl_u rfl (ow_allocA Tb rfl rfl rfl rfl (fun g8 => kk_wl ?_))
    refine wl_u rfl (ow_storeA Tb (k := 0) rfl rfl rfl rfl rfl rfl rfl rfl rfl (kk_wl ?_))
    refine wl_nil ?_
    refine ex_seq ?_
    refine cw_seq ?_
    refine cw_seq ?_
    refine cw_region ?_
    refine wl_u rfl (ow_y (yh_field Tb rfl rfl rfl) rfl rfl (kk_wl ?_))
    refine wl_u rfl (ow_y (yh_loadB Tb (k := 0) rfl rfl rfl rfl rfl) rfl rfl (kk_wl ?_))
    refine wl_u rfl (ow_y (yh_move rfl rfl) rfl rfl (kk_wl ?_))
    obtain ⟨x33, hx33, h⟩ := bd h
    refine wl_u rfl (ow_cV rfl hb67 rfl (fun w hw => c_spec_l1At N _ _ _ hx33 w (rdo (A := strsL) 1 rfl hw)) rfl rfl (kk_wl ?_))
    refine wl_u rfl (ow_y (yh_cmpI rfl rfl rfl rfl) rfl rfl (kk_wl ?_))
    refine wl_nil ?_
    refine ex_seq ?_
    refine cw_split rfl (fun cc2 => ?_) (fun cc2 => ?_)
    · skip
      replace h := bt cc2 h
      have q2 := leb_true.1 cc2
      refine cw_seq ?_
      refine cw_region ?_
      refine wl_u rfl (ow_lit0 Tb rfl rfl rfl rfl rfl rfl (fun g35 => kk_chg (c' := owC strsL [g35] [.slice (some ⟨g35, 0, none⟩) 0 0] ([] : List Str)) 0 rfl (fun w hA => own_strsL ([] : List Str) hA rfl (by simp [maxLen])) rfl (kk_wl ?_)))
      refine wl_u rfl (ow_y (yh_assign rfl rfl) rfl rfl (kk_wl ?_))
      refine wl_nil ?_
      refine ex_seq ?_
      refine cw_seq ?_
      refine cw_seq ?_
      refine cw_region ?_
      refine wl_u rfl (ow_y (yh_assign rfl rfl) rfl rfl (kk_wl ?_))
      refine wl_nil ?_
      refine ex_seq ?_
      refine cw_block ?_
      obtain ⟨e16, he16, hk16⟩ := bd h
      clear h
      refine cw_loopG (σ := Nat × (List Str) × Nat × (Option Addr) × Nat × (List Nat)) (fun s => m_spec_l12Without_L16 N u1 x29 s.1 s.2.1 s.2.2.1 = some e16) (fun s => [(0, .slice (some ⟨b17, o17, none⟩) u0.length c_u0), (1, .string u1), (5, .slice as5 s5.length cs5), (6, .pointer (some ⟨g6, 0, none⟩)), (7, .int .i64 ((s7 : Nat) : Int)), (8, .pointer (some ⟨g8, 0, none⟩)), (9, .slice s.2.2.2.1 s.2.1.length s.2.2.2.2.1), (10, .int .i64 ((s.2.2.1 : Nat) : Int))]) (fun s => [owC stepsL Fs5 [.slice as5 s5.length cs5] s5, blkC g6 49 [.string y17.name, .slice a17 y17.after.length e17, .bool y17.undo], blkC g8 49 [.string x29.name, .slice a29 x29.after.length c29, .bool x29.undo], owC strsL F29 [.slice a29 x29.after.length c29] x29.after, owC strsL s.2.2.2.2.2 [.slice s.2.2.2.1 s.2.1.length s.2.2.2.2.1] s.2.1]) (fun s => s.1) (N, ([] : List Str), 0, (some ⟨g35, 0, none⟩), 0, [g35]) [3, 4, 1, 2, 0] he16 ⟨rfl, rfl, rfl, rfl, rfl, rfl, rfl, rfl, trivial⟩ rfl (fun KL s he16 hn16 => ?_)
      obtain ⟨n16, s9, s10, as9, cs9, Fs9⟩ := s
      simp only at he16 hn16 ⊢
      rcases n16 with _ | n16
      · exact nosome he16
      have h := he16; rw [m_spec_l12Without_L16] at h
      refine cw_seq ?_
      refine cw_seq ?_
      refine cw_region ?_
      refine wl_u rfl (ow_y (yh_move rfl rfl) rfl rfl (kk_wl ?_))
      refine wl_u rfl (ow_y (yh_field Tb rfl rfl rfl) rfl rfl (kk_wl ?_))
      refine wl_u rfl (ow_y (yh_loadB Tb (k := 2) rfl rfl rfl rfl rfl) rfl rfl (kk_wl ?_))
      refine wl_know (x29.after.length ≤ 9223372036854775807) (fun w hw => own_max 3 rfl hw) (fun mo39 => ?_)
      refine wl_u rfl (ow_y (yh_lenS Tb rfl rfl rfl rfl) rfl rfl (kk_wl ?_))
      refine wl_u rfl (ow_y (yh_cmpI rfl rfl rfl rfl) rfl rfl (kk_wl ?_))
      refine wl_nil ?_
      refine ex_seq ?_
      refine cw_split rfl (fun cc3 => ?_) (fun cc3 => ?_)
      · skip
        replace h := bt cc3 h
        have q3 := ltb_true.1 cc3
        refine cw_skip ?_
        refine ex_seq ?_
        refine cw_seq ?_
        refine cw_block ?_
        refine cw_seq ?_
        refine cw_region ?_
        refine wl_u rfl (ow_y (yh_field Tb rfl rfl rfl) rfl rfl (kk_wl ?_))
        refine wl_u rfl (ow_y (yh_loadB Tb (k := 2) rfl rfl rfl rfl rfl) rfl rfl (kk_wl ?_))
        refine wl_u rfl (ow_y (yh_move rfl rfl) rfl rfl (kk_wl ?_))
        obtain ⟨y46, hy46, h⟩ := bd h
        refine wl_ex (fun g => a29 = some ⟨g, 0, none⟩) (fun w hw => by exact own_addrK 3 rfl hy46 hw) (fun g46 hg46 => ?_)
        subst hg46
        refine wl_u rfl (ow_y (yh_idx Tb (k := s10) rfl rfl rfl rfl (get_lt hy46) rfl rfl) rfl rfl (kk_wl ?_))
        refine wl_u rfl (ow_y (yh_loadO0 Tb 3 rfl rfl rfl rfl rfl hy46 rfl) rfl rfl (kk_wl ?_))
        refine wl_u rfl (ow_y (yh_move rfl rfl) rfl rfl (kk_wl ?_))
        refine wl_u rfl (ow_y (yh_cmpS rfl rfl rfl rfl) rfl rfl (kk_wl ?_))
        refine wl_nil ?_
        refine ex_seq ?_
        refine cw_split rfl (fun cc4 => ?_) (fun cc4 => ?_)
        · skip
          replace h := bt cc4 h
          refine cw_region ?_
          refine wl_u rfl (ow_y (yh_move rfl rfl) rfl rfl (kk_wl ?_))
          refine wl_u rfl (ow_y (yh_field Tb rfl rfl rfl) rfl rfl (kk_wl ?_))
          refine wl_u rfl (ow_y (yh_loadB Tb (k := 2) rfl rfl rfl rfl rfl) rfl rfl (kk_wl ?_))
          refine wl_u rfl (ow_y (yh_move rfl rfl) rfl rfl (kk_wl ?_))
          refine wl_u rfl (ow_y (yh_idx Tb (k := s10) rfl rfl rfl rfl (get_lt hy46) rfl rfl) rfl rfl (kk_wl ?_))
          refine wl_u rfl (ow_y (yh_loadO0 Tb 3 rfl rfl rfl rfl rfl hy46 rfl) rfl rfl (kk_wl ?_))
          obtain ⟨x56, hx56, h⟩ := bd h
          refine wl_u rfl (ow_cN1 rfl hb138 rfl (fun w hw => c_spec_l1Put N _ _ _ hx56 w (rdo (A := strsL) 4 rfl hw)) rfl rfl (fun a56 c56 F56 => kk_wl ?_))
          refine wl_u rfl (ow_y (yh_assign rfl rfl) rfl rfl (kk_wl ?_))
          refine wl_nil ?_
          refine ex_block_normal ?_
          refine ex_seq ?_
          refine cw_region ?_
          refine wl_u rfl (ow_y (yh_move rfl rfl) rfl rfl (kk_wl ?_))
          refine wl_u rfl (ow_y (yh_arI rfl rfl rfl rfl (by omega)) rfl rfl (kk_wl ?_))
          refine wl_u rfl (ow_y (yh_assign rfl rfl) rfl rfl (kk_wl ?_))
          refine wl_nil ?_
          exact ex_next [1, 2, 3, 4, 0] (hn16 (n16, x56, s10 + 1, a56, c56, F56) (Nat.lt_succ_self _) h) ⟨rfl, rfl, rfl, rfl, rfl, rfl, rfl, rfl, trivial⟩ (by kernel_rfl)
        · skip
          replace h := bf cc4 h
          refine cw_skip ?_
          refine ex_block_normal ?_
          refine ex_seq ?_
          refine cw_region ?_
          refine wl_u rfl (ow_y (yh_move rfl rfl) rfl rfl (kk_wl ?_))
          refine wl_u rfl (ow_y (yh_arI rfl rfl rfl rfl (by omega)) rfl rfl (kk_wl ?_))
          refine wl_u rfl (ow_y (yh_assign rfl rfl) rfl rfl (kk_wl ?_))
          refine wl_nil ?_
          exact ex_next [0, 1, 2, 3, 4] (hn16 (n16, s9, s10 + 1, as9, cs9, Fs9) (Nat.lt_succ_self _) h) ⟨rfl, rfl, rfl, rfl, rfl, rfl, rfl, rfl, trivial⟩ (by kernel_rfl)
      · skip
        replace h := bf cc3 h
        have q4 := ltb_false.1 cc3
        refine cw_exit ?_
        refine ex_then_exit ?_
        refine ex_then_exit ?_
        obtain rfl := Option.some.inj h
        have h := go_brk hk16
        refine ex_block_exit ?_
        refine ex_seq ?_
        refine cw_seq ?_
        refine cw_seq ?_
        refine cw_region ?_
        refine wl_u rfl (ow_y (yh_assign rfl rfl) rfl rfl (kk_wl ?_))
        refine wl_nil ?_
        refine ex_seq ?_
        refine cw_block ?_
        obtain ⟨e23, he23, hk23⟩ := bd h
        clear h
        refine cw_loopG (σ := Nat × (List Str) × Nat × (Option Addr) × Nat × (List Nat)) (fun s => m_spec_l12Without_L23 N y17 s.1 s.2.1 s.2.2.1 = some e23) (fun s => [(0, .slice (some ⟨b17, o17, none⟩) u0.length c_u0), (1, .string u1), (5, .slice as5 s5.length cs5), (6, .pointer (some ⟨g6, 0, none⟩)), (7, .int .i64 ((s7 : Nat) : Int)), (8, .pointer (some ⟨g8, 0, none⟩)), (9, .slice s.2.2.2.1 s.2.1.length s.2.2.2.2.1), (11, .int .i64 ((s.2.2.1 : Nat) : Int))]) (fun s => [owC stepsL Fs5 [.slice as5 s5.length cs5] s5, blkC g6 49 [.string y17.name, .slice a17 y17.after.length e17, .bool y17.undo], blkC g8 49 [.string x29.name, .slice a29 x29.after.length c29, .bool x29.undo], owC strsL F29 [.slice a29 x29.after.length c29] x29.after, owC strsL s.2.2.2.2.2 [.slice s.2.2.2.1 s.2.1.length s.2.2.2.2.1] s.2.1]) (fun s => s.1) (N, s9, 0, as9, cs9, Fs9) [0, 1, 2, 3, 4] he23 ⟨rfl, rfl, rfl, rfl, rfl, rfl, rfl, rfl, trivial⟩ rfl (fun KL s he23 hn23 => ?_)
        obtain ⟨n23, s9, s11, as9, cs9, Fs9⟩ := s
        simp only at he23 hn23 ⊢
        rcases n23 with _ | n23
        · exact nosome he23
        have h := he23; rw [m_spec_l12Without_L23] at h
        refine cw_seq ?_
        refine cw_seq ?_
        refine cw_region ?_
        refine wl_u rfl (ow_y (yh_move rfl rfl) rfl rfl (kk_wl ?_))
        refine wl_u rfl (ow_y (yh_field Tb rfl rfl rfl) rfl rfl (kk_wl ?_))
        refine wl_u rfl (ow_y (yh_loadB Tb (k := 1) rfl rfl rfl rfl rfl) rfl rfl (kk_wl ?_))
        refine wl_u rfl (ow_y (yh_lenS Tb rfl rfl rfl rfl) rfl rfl (kk_wl ?_))
        refine wl_u rfl (ow_y (yh_cmpI rfl rfl rfl rfl) rfl rfl (kk_wl ?_))
        refine wl_nil ?_
        refine ex_seq ?_
        refine cw_split rfl (fun cc5 => ?_) (fun cc5 => ?_)
        · skip
          replace h := bt cc5 h
          have q5 := ltb_true.1 cc5
          refine cw_skip ?_
          refine ex_seq ?_
          refine cw_seq ?_
          refine cw_block ?_
          refine cw_region ?_
          refine wl_u rfl (ow_y (yh_move rfl rfl) rfl rfl (kk_wl ?_))
          refine wl_u rfl (ow_y (yh_field Tb rfl rfl rfl) rfl rfl (kk_wl ?_))
          refine wl_u rfl (ow_y (yh_loadB Tb (k := 1) rfl rfl rfl rfl rfl) rfl rfl (kk_wl ?_))
          refine wl_u rfl (ow_y (yh_move rfl rfl) rfl rfl (kk_wl ?_))
          obtain ⟨y68, hy68, h⟩ := bd h
          obtain ⟨b68, o68, ha68⟩ := sl_addr hf17 hy68
          subst ha68
          have hc68 := get_str hf17 hy68
          refine wl_u rfl (ow_y (yh_idx Tb (k := s11) rfl rfl rfl rfl (get_lt hy68) rfl rfl) rfl rfl (kk_wl ?_))
          refine wl_u rfl (ow_y (yh_loadA0 Tb rfl rfl rfl hc68 rfl) rfl rfl (kk_wl ?_))
          obtain ⟨x70, hx70, h⟩ := bd h
          refine wl_u rfl (ow_cN1 rfl hb138 rfl (fun w hw => c_spec_l1Put N _ _ _ hx70 w (rdo (A := strsL) 4 rfl hw)) rfl rfl (fun a70 c70 F70 => kk_wl ?_))
          refine wl_u rfl (ow_y (yh_assign rfl rfl) rfl rfl (kk_wl ?_))
          refine wl_nil ?_
          refine ex_block_normal ?_
          refine ex_seq ?_
          refine cw_region ?_
          refine wl_u rfl (ow_y (yh_move rfl rfl) rfl rfl (kk_wl ?_))
          refine wl_u rfl (ow_y (yh_arI rfl rfl rfl rfl (by omega)) rfl rfl (kk_wl ?_))
          refine wl_u rfl (ow_y (yh_assign rfl rfl) rfl rfl (kk_wl ?_))
          refine wl_nil ?_
          exact ex_next [1, 2, 3, 4, 0] (hn23 (n23, x70, s11 + 1, a70, c70, F70) (Nat.lt_succ_self _) h) ⟨rfl, rfl, rfl, rfl, rfl, rfl, rfl, rfl, trivial⟩ (by kernel_rfl)
        · skip
          replace h := bf cc5 h
          have q6 := ltb_false.1 cc5
          refine cw_exit ?_
          refine ex_then_exit ?_
          refine ex_then_exit ?_
          obtain rfl := Option.some.inj h
          have h := go_brk hk23
          refine ex_block_exit ?_
          refine ex_seq ?_
          refine cw_region ?_
          refine wl_u rfl (ow_y (yh_move rfl rfl) rfl rfl (kk_wl ?_))
          refine wl_u rfl (ow_y (yh_field Tb rfl rfl rfl) rfl rfl (kk_wl ?_))
          refine wl_u rfl (ow_store1 Tb (k := 2) rfl rfl rfl rfl rfl rfl rfl rfl rfl (kk_wl ?_))
          refine wl_nil ?_
          refine ex_seq ?_
          refine cw_seq ?_
          refine cw_region ?_
          refine wl_u rfl (ow_y (yh_field Tb rfl rfl rfl) rfl rfl (kk_wl ?_))
          refine wl_u rfl (ow_y (yh_loadB Tb (k := 0) rfl rfl rfl rfl rfl) rfl rfl (kk_wl ?_))
          refine wl_u rfl (ow_y (yh_move rfl rfl) rfl rfl (kk_wl ?_))
          refine wl_u rfl (ow_y (yh_cmpS rfl rfl rfl rfl) rfl rfl (kk_wl ?_))
          refine wl_nil ?_
          refine ex_seq ?_
          refine cw_split rfl (fun cc6 => ?_) (fun cc6 => ?_)
          · skip
            replace h := bt cc6 h
            refine cw_region ?_
            refine wl_u rfl (ow_y (yh_move rfl rfl) rfl rfl (kk_wl ?_))
            refine wl_u rfl (ow_y (yh_loadBA Tb (k := 0) rfl rfl rfl rfl rfl rfl) rfl rfl (kk_wl ?_))
            refine wl_u rfl (ow_litA Tb rfl rfl rfl rfl rfl rfl (by decide) rfl rfl (fun g79 => kk_wl ?_))
            obtain ⟨hll80, h⟩ := bd_appd h
            refine wl_u rfl (ow_chg (c' := owC stepL Fs9 [.string x29.name, .slice as9 s9.length cs9, .bool x29.undo] (Step.mk x29.name s9 x29.undo)) 5 rfl (fun w hA => stepL_mk (Step.mk x29.name s9 x29.undo) hA) rfl (ow_appE Tb (i := 3) (j := 0) (k := 1) rfl rfl rfl rfl rfl rfl rfl rfl rfl rfl rfl (app1 hll80) (by decide) rfl rfl (fun a80 c80 F80 => kk_wl ?_)))
            refine wl_u rfl (ow_y (yh_assign rfl rfl) rfl rfl (kk_wl ?_))
            refine wl_nil ?_
            refine ex_block_normal ?_
            refine ex_seq ?_
            refine cw_region ?_
            refine wl_u rfl (ow_y (yh_move rfl rfl) rfl rfl (kk_wl ?_))
            refine wl_u rfl (ow_y (yh_arI rfl rfl rfl rfl (by omega)) rfl rfl (kk_wl ?_))
            refine wl_u rfl (ow_y (yh_assign rfl rfl) rfl rfl (kk_wl ?_))
            refine wl_nil ?_
            exact ex_next [0, 3] (hn6 (n6, (s5 ++ [(Step.mk x29.name s9 x29.undo)]), s7 + 1, a80, c80, F80) (Nat.lt_succ_self _) h) ⟨rfl, rfl, rfl, rfl, rfl, trivial⟩ (by kernel_rfl)
          · skip
            replace h := bf cc6 h
            refine cw_skip ?_
            refine ex_block_normal ?_
            refine ex_seq ?_
            refine cw_region ?_
            refine wl_u rfl (ow_y (yh_move rfl rfl) rfl rfl (kk_wl ?_))
            refine wl_u rfl (ow_y (yh_arI rfl rfl rfl rfl (by omega)) rfl rfl (kk_wl ?_))
            refine wl_u rfl (ow_y (yh_assign rfl rfl) rfl rfl (kk_wl ?_))
            refine wl_nil ?_
            exact ex_next [1, 2] (hn6 (n6, s5, s7 + 1, as5, cs5, Fs5) (Nat.lt_succ_self _) h) ⟨rfl, rfl, rfl, rfl, rfl, trivial⟩ (by kernel_rfl)
    · skip
      replace h := bf cc2 h
      have q7 := leb_false.1 cc2
      refine cw_skip ?_
      refine ex_seq ?_
      refine cw_seq ?_
      refine cw_region ?_
      refine wl_u rfl (ow_y (yh_field Tb rfl rfl rfl) rfl rfl (kk_wl ?_))
      refine wl_u rfl (ow_y (yh_loadB Tb (k := 0) rfl rfl rfl rfl rfl) rfl rfl (kk_wl ?_))
      refine wl_u rfl (ow_y (yh_move rfl rfl) rfl rfl (kk_wl ?_))
      refine wl_u rfl (ow_y (yh_cmpS rfl rfl rfl rfl) rfl rfl (kk_wl ?_))
      refine wl_nil ?_
      refine ex_seq ?_
      refine cw_split rfl (fun cc7 => ?_) (fun cc7 => ?_)
      · skip
        replace h := bt cc7 h
        refine cw_region ?_
        refine wl_u rfl (ow_y (yh_move rfl rfl) rfl rfl (kk_wl ?_))
        refine wl_u rfl (ow_y (yh_loadBA Tb (k := 0) rfl rfl rfl rfl rfl rfl) rfl rfl (kk_wl ?_))
        refine wl_u rfl (ow_litA Tb rfl rfl rfl rfl rfl rfl (by decide) rfl rfl (fun g79 => kk_wl ?_))
        obtain ⟨hll80, h⟩ := bd_appd h
        refine wl_u rfl (ow_chg (c' := owC stepL F29 [.string x29.name, .slice a29 x29.after.length c29, .bool x29.undo] x29) 2 rfl (fun w hA => stepL_mk x29 hA) rfl (ow_appE Tb (i := 3) (j := 0) (k := 1) rfl rfl rfl rfl rfl rfl rfl rfl rfl rfl rfl (app1 hll80) (by decide) rfl rfl (fun a80 c80 F80 => kk_wl ?_)))
        refine wl_u rfl (ow_y (yh_assign rfl rfl) rfl rfl (kk_wl ?_))
        refine wl_nil ?_
        refine ex_block_normal ?_
        refine ex_seq ?_
        refine cw_region ?_
        refine wl_u rfl (ow_y (yh_move rfl rfl) rfl rfl (kk_wl ?_))
        refine wl_u rfl (ow_y (yh_arI rfl rfl rfl rfl (by omega)) rfl rfl (kk_wl ?_))
        refine wl_u rfl (ow_y (yh_assign rfl rfl) rfl rfl (kk_wl ?_))
        refine wl_nil ?_
        exact ex_next [0, 3] (hn6 (n6, (s5 ++ [x29]), s7 + 1, a80, c80, F80) (Nat.lt_succ_self _) h) ⟨rfl, rfl, rfl, rfl, rfl, trivial⟩ (by kernel_rfl)
      · skip
        replace h := bf cc7 h
        refine cw_skip ?_
        refine ex_block_normal ?_
        refine ex_seq ?_
        refine cw_region ?_
        refine wl_u rfl (ow_y (yh_move rfl rfl) rfl rfl (kk_wl ?_))
        refine wl_u rfl (ow_y (yh_arI rfl rfl rfl rfl (by omega)) rfl rfl (kk_wl ?_))
        refine wl_u rfl (ow_y (yh_assign rfl rfl) rfl rfl (kk_wl ?_))
        refine wl_nil ?_
        exact ex_next [2, 3] (hn6 (n6, s5, s7 + 1, as5, cs5, Fs5) (Nat.lt_succ_self _) h) ⟨rfl, rfl, rfl, rfl, rfl, trivial⟩ (by kernel_rfl)
  · skip
    replace h := bf cc1 h
    have q8 := ltb_false.1 cc1
    refine cw_exit ?_
    refine ex_then_exit ?_
    refine ex_then_exit ?_
    obtain rfl := Option.some.inj h
    have h := go_brk hk6
    refine ex_block_exit ?_
    refine ex_seq ?_
    refine cw_seq ?_
    refine cw_region ?_
    refine wl_u rfl (ow_y (yh_move rfl rfl) rfl rfl (kk_wl ?_))
    refine wl_u rfl (ow_y (yh_assign rfl rfl) rfl rfl (kk_wl ?_))
    refine wl_nil ?_
    refine ex_seq ?_
    refine cw_ret ?_
    obtain rfl := Option.some.inj h
    exact ex_r1 Tb rfl (.tmp rfl) (fun wq hq => ⟨_, rfl, hq.ext, ⟨as5, cs5, Fs5, rfl, NewC.sel [0] hq rfl⟩⟩)

def m_spec_l12Steps (N : Nat) (u0 : List Step) (u1 : Change) : Option (List Step × Bool) := (m_spec_l2At N u0 u1.step.name).bind fun x11 => ((bif eqb u1.kind 1 then some (ltb x11 0)
 else some false) : Option (Bool)).bind fun j104 => (bif j104 then (m_spec_l12With N u0 u1.step).bind fun x23 => some (x23, true)
 else ((bif eqb u1.kind 2 then some (leb 0 x11)
 else some false) : Option (Bool)).bind fun j106 => (bif j106 then (m_spec_l12Without N u0 u1.step.name).bind fun x36 => some (x36, true)
 else ((bif eqb u1.kind 3 then some (leb 0 x11)
 else some false) : Option (Bool)).bind fun j108 => (bif j108 then (geti u0 x11).bind fun y54 => (m_spec_l12With N u0 (Step.mk u1.step.name u1.step.after y54.undo)).bind fun x58 => some (x58, true)
 else ((bif eqb u1.kind 4 then some (leb 0 x11)
 else some false) : Option (Bool)).bind fun j111 => (bif j111 then (geti u0 x11).bind fun y73 => (m_spec_l12With N u0 (Step.mk u1.step.name y73.after u1.step.undo)).bind fun x80 => some (x80, true)
 else some (([] : List Step), false)))))

set_option maxHeartbeats 4000000 in
theorem c_spec_l12Steps (N : Nat) (u0 : List Step) (u1 : Change) (res : List Step × Bool) (h : m_spec_l12Steps N u0 u1 = some res) (w : World) {a_u0 a_u1_step_after : Option Addr} {c_u0 c_u1_step_after : Nat} (h_u0 : stepsL.rd w [] [.slice a_u0 u0.length c_u0] u0) (h_u1_step_after : strsL.rd w [] [.slice a_u1_step_after u1.step.after.length c_u1_step_after] u1.step.after) : Ret Tryz.prog 91 [.slice a_u0 u0.length c_u0, .agg #[.int .i64 u1.kind, .string u1.step.name, .slice a_u1_step_after u1.step.after.length c_u1_step_after, .bool u1.step.undo]] w [] fun v w' => ∃ a1 c1 F1, v = .tuple #[.slice a1 res.1.length c1, .bool res.2] ∧ NewC w w' [owC stepsL F1 [.slice a1 res.1.length c1] res.1] := by
  have mh_u0 := rd_max h_u0
  have mh_u1_step_after := rd_max h_u1_step_after
  unfold m_spec_l12Steps at h
  refine ret_enter Tryz.func91 rfl Tryz.ntmps91 rfl (Hp.refl w _) ?_
  refine cw_seq ?_
  refine cw_region ?_
  refine wl_u rfl (ow_boxA rfl rfl rfl rfl (fun g3 => kk_wl ?_))
  refine wl_u rfl (ow_y (yh_assign rfl rfl) rfl rfl (kk_wl ?_))
  refine wl_u rfl (ow_y (yh_assign rfl rfl) rfl rfl (kk_wl ?_))
  refine wl_nil ?_
  refine ex_seq ?_
  refine cw_seq ?_
  refine cw_region ?_
  refine wl_u rfl (ow_y (yh_move rfl rfl) rfl rfl (kk_wl ?_))
  refine wl_u rfl (ow_y (yh_field Tb rfl rfl rfl) rfl rfl (kk_wl ?_))
  refine wl_u rfl (ow_y (yh_field Tb rfl rfl rfl) rfl rfl (kk_wl ?_))
  refine wl_u rfl (ow_y (yh_loadB Tb (k := 0) rfl rfl rfl rfl rfl) rfl rfl (kk_wl ?_))
  obtain ⟨x11, hx11, h⟩ := bd h
  refine wl_u rfl (ow_cV rfl hb84 rfl (fun w hw => c_spec_l2At N _ _ _ hx11 w (Lay.at_ h_u0 hw)) rfl rfl (kk_wl ?_))
  refine wl_u rfl (ow_y (yh_assign rfl rfl) rfl rfl (kk_wl ?_))
  refine wl_nil ?_
  refine ex_seq ?_
  refine cw_seq ?_
  refine cw_block ?_
  obtain ⟨j104, he104, hk104⟩ := bd h
  clear h
  refine cw_cut (σ := Unit) (fun s => True) (fun s => [(0, .slice a_u0 u0.length c_u0), (3, .pointer (some ⟨g3, 0, none⟩)), (6, .int .i64 x11), (12, .bool j104)]) (fun s => [blkC g3 51 [.int .i64 u1.kind, .string u1.step.name, .slice a_u1_step_after u1.step.after.length c_u1_step_after, .bool u1.step.undo]]) (fun s hI => ?_) (fun KL hn104 => ?_)
  · skip
    have h := hk104
    refine cw_split rfl (fun cc1 => ?_) (fun cc1 => ?_)
    · skip
      replace h := bt cc1 h
      refine cw_seq ?_
      refine cw_region ?_
      refine wl_u rfl (ow_y (yh_move rfl rfl) rfl rfl (kk_wl ?_))
      refine wl_u rfl (ow_y (yh_field Tb rfl rfl rfl) rfl rfl (kk_wl ?_))
      refine wl_u rfl (ow_y (yh_loadBN Tb (k := 0) rfl rfl rfl rfl rfl rfl rfl) rfl rfl (kk_wl ?_))
      obtain ⟨x23, hx23, h⟩ := bd h
      refine wl_u rfl (ow_cN1 rfl hb116 rfl (fun w hw => c_spec_l12With N _ _ _ hx23 w (Lay.at_ h_u0 hw) (Lay.at_ h_u1_step_after hw)) rfl rfl (fun a23 c23 F23 => kk_wl ?_))
      refine wl_u rfl (ow_y (yh_assign rfl rfl) rfl rfl (kk_wl ?_))
      refine wl_u rfl (ow_y (yh_assign rfl rfl) rfl rfl (kk_wl ?_))
      refine wl_nil ?_
      refine ex_seq ?_
      refine cw_ret ?_
      refine ex_block_ret ?_
      refine ex_then_ret ?_
      obtain rfl := Option.some.inj h
      exact ex_r2 Tb rfl (.tmp rfl) (.tmp rfl) (fun wq hq => ⟨_, rfl, hq.ext, ⟨a23, c23, F23, rfl, NewC.sel [0] hq rfl⟩⟩)
    · skip
      replace h := bf cc1 h
      obtain ⟨j106, he106, hk106⟩ := bd h
      clear h
      refine cw_cut (σ := Unit) (fun s => True) (fun s => [(0, .slice a_u0 u0.length c_u0), (3, .pointer (some ⟨g3, 0, none⟩)), (6, .int .i64 x11), (24, .bool j106)]) (fun s => [blkC g3 51 [.int .i64 u1.kind, .string u1.step.name, .slice a_u1_step_after u1.step.after.length c_u1_step_after, .bool u1.step.undo]]) (fun s hI => ?_) (fun KL hn106 => ?_)
      · skip
        have h := hk106
        refine cw_split rfl (fun cc2 => ?_) (fun cc2 => ?_)
        · skip
          replace h := bt cc2 h
          refine cw_seq ?_
          refine cw_region ?_
          refine wl_u rfl (ow_y (yh_move rfl rfl) rfl rfl (kk_wl ?_))
          refine wl_u rfl (ow_y (yh_field Tb rfl rfl rfl) rfl rfl (kk_wl ?_))
          refine wl_u rfl (ow_y (yh_field Tb rfl rfl rfl) rfl rfl (kk_wl ?_))
          refine wl_u rfl (ow_y (yh_loadB Tb (k := 0) rfl rfl rfl rfl rfl) rfl rfl (kk_wl ?_))
          obtain ⟨x36, hx36, h⟩ := bd h
          refine wl_u rfl (ow_cN1 rfl hb117 rfl (fun w hw => c_spec_l12Without N _ _ _ hx36 w (Lay.at_ h_u0 hw)) rfl rfl (fun a36 c36 F36 => kk_wl ?_))
          refine wl_u rfl (ow_y (yh_assign rfl rfl) rfl rfl (kk_wl ?_))
          refine wl_u rfl (ow_y (yh_assign rfl rfl) rfl rfl (kk_wl ?_))
          refine wl_nil ?_
          refine ex_seq ?_
          refine cw_ret ?_
          refine ex_block_ret ?_
          refine ex_then_ret ?_
          obtain rfl := Option.some.inj h
          exact ex_r2 Tb rfl (.tmp rfl) (.tmp rfl) (fun wq hq => ⟨_, rfl, hq.ext, ⟨a36, c36, F36, rfl, NewC.sel [0] hq rfl⟩⟩)
        · skip
          replace h := bf cc2 h
          obtain ⟨j108, he108, hk108⟩ := bd h
          clear h
          refine cw_cut (σ := Unit) (fun s => True) (fun s => [(0, .slice a_u0 u0.length c_u0), (3, .pointer (some ⟨g3, 0, none⟩)), (6, .int .i64 x11), (37, .bool j108)]) (fun s => [blkC g3 51 [.int .i64 u1.kind, .string u1.step.name, .slice a_u1_step_after u1.step.after.length c_u1_step_after, .bool u1.step.undo]]) (fun s hI => ?_) (fun KL hn108 => ?_)
          · skip
            have h := hk108
            refine cw_split rfl (fun cc3 => ?_) (fun cc3 => ?_)
            · skip
              replace h := bt cc3 h
              refine cw_seq ?_
              refine cw_dr [0, 1, 2, 3, 4, 5, 6, 7, 8, 9, 10, 11, 12, 14, 15] [] [blkC g3 51 [.int .i64 u1.kind, .string u1.step.name, .slice a_u1_step_after u1.step.after.length c_u1_step_after, .bool u1.step.undo]] (by kernel_rfl) ?_
              refine wd_take (i := 0) [0] rfl rfl rfl rfl rfl (by kernel_rfl) (by kernel_rfl) (fun _ _ _ _ h => h) (yh_move rfl rfl) ?_
              refine wd_take (i := 1) [0] rfl rfl rfl rfl rfl (by kernel_rfl) (by kernel_rfl) (fun _ _ _ _ h => h) (yh_field Tb rfl rfl rfl) ?_
              refine wd_take (i := 2) [0] rfl rfl rfl rfl rfl (by kernel_rfl) (by kernel_rfl) (fun _ _ _ _ h => h) (yh_field Tb rfl rfl rfl) ?_
              refine wd_take (i := 3) [0] rfl rfl rfl rfl rfl (by kernel_rfl) (by kernel_rfl) (fun _ _ _ _ h => h) (yh_loadB Tb (k := 0) rfl rfl rfl rfl rfl) ?_
              refine wd_take (i := 4) [0] rfl rfl rfl rfl rfl (by kernel_rfl) (by kernel_rfl) (fun _ _ _ _ h => h) (yh_field Tb rfl rfl rfl) ?_
              refine wd_take (i := 5) [0] rfl rfl rfl rfl rfl (by kernel_rfl) (by kernel_rfl) (fun _ _ _ _ h => h) (yh_field Tb rfl rfl rfl) ?_
              refine wd_take (i := 6) [0] rfl rfl rfl rfl rfl (by kernel_rfl) (by kernel_rfl) (fun _ _ _ _ h => h) (yh_loadB Tb (k := 0) rfl rfl rfl rfl rfl) ?_
              refine wd_take (i := 7) [0] rfl rfl rfl rfl rfl (by kernel_rfl) (by kernel_rfl) (fun _ _ _ _ h => h) (yh_move rfl rfl) ?_
              refine wd_take (i := 8) [0] rfl rfl rfl rfl rfl (by kernel_rfl) (by kernel_rfl) (fun _ _ _ _ h => h) (yh_move rfl rfl) ?_
              obtain ⟨y54, zy54, h⟩ := bd h
              obtain ⟨iy54, hy54⟩ := geti_some zy54
              obtain ⟨b54, o54, ha54⟩ := sl_addr h_u0 hy54
              subst ha54
              obtain ⟨a54, e54, hc54, hf54⟩ := get_step h_u0 hy54
              have mx54 := rd_max hf54
              refine wd_take (i := 9) [0] rfl rfl rfl rfl rfl (by kernel_rfl) (by kernel_rfl) (fun _ _ _ _ h => h) (yh_idx Tb (k := x11.toNat) rfl rfl rfl iy54 (get_lt hy54) rfl rfl) ?_
              refine wd_take (i := 10) [0] rfl rfl rfl rfl rfl (by kernel_rfl) (by kernel_rfl) (fun _ _ _ _ h => h) (yh_field Tb rfl rfl rfl) ?_
              refine wd_take (i := 11) [0] rfl rfl rfl rfl rfl (by kernel_rfl) (by kernel_rfl) (fun _ _ _ _ h => h) (yh_loadAF Tb (j := 2) rfl rfl rfl hc54 rfl) ?_
              refine wd_take (i := 12) [0] rfl rfl rfl rfl rfl (by kernel_rfl) (by kernel_rfl) (fun _ _ _ _ h => h) (yh_buildA rfl rfl (by kernel_rfl)) ?_
              obtain ⟨x58, hx58, h⟩ := bd h
              refine wd_one 13 rfl rfl (by kernel_rfl) (ow_cN1 rfl hb116 rfl (fun w hw => c_spec_l12With N _ _ _ hx58 w (Lay.at_ h_u0 hw) (Lay.at_ h_u1_step_after hw)) rfl rfl (fun a58 c58 F58 => kk_wd [1] (by kernel_rfl) ?_))
              refine wd_take (i := 14) [1] rfl rfl rfl rfl rfl (by kernel_rfl) (by kernel_rfl) (fun _ _ _ _ h => h) (yh_assign rfl rfl) ?_
              refine wd_take (i := 15) [1] rfl rfl rfl rfl rfl (by kernel_rfl) (by kernel_rfl) (fun _ _ _ _ h => h) (yh_assign rfl rfl) ?_
              refine wd_done (by kernel_rfl) ?_
              refine ex_seq ?_
              refine cw_ret ?_
              refine ex_block_ret ?_
              refine ex_then_ret ?_
              obtain rfl := Option.some.inj h
              exact ex_r2 Tb rfl (.tmp rfl) (.tmp rfl) (fun wq hq => ⟨_, rfl, hq.ext, ⟨a58, c58, F58, rfl, NewC.sel [0] hq rfl⟩⟩)
            · skip
              replace h := bf cc3 h
              obtain ⟨j111, he111, hk111⟩ := bd h
              clear h
              refine cw_cut (σ := Unit) (fun s => True) (fun s => [(0, .slice a_u0 u0.length c_u0), (3, .pointer (some ⟨g3, 0, none⟩)), (6, .int .i64 x11), (59, .bool j111)]) (fun s => [blkC g3 51 [.int .i64 u1.kind, .string u1.step.name, .slice a_u1_step_after u1.step.after.length c_u1_step_after, .bool u1.step.undo]]) (fun s hI => ?_) (fun KL hn111 => ?_)
              · skip
                have h := hk111
                refine cw_split rfl (fun cc4 => ?_) (fun cc4 => ?_)
                · skip
                  replace h := bt cc4 h
                  refine cw_seq ?_
                  refine cw_dr [0, 1, 2, 3, 4, 5, 6, 7, 8, 9, 10, 11, 12, 14, 15] [] [blkC g3 51 [.int .i64 u1.kind, .string u1.step.name, .slice a_u1_step_after u1.step.after.length c_u1_step_after, .bool u1.step.undo]] (by kernel_rfl) ?_
                  refine wd_take (i := 0) [0] rfl rfl rfl rfl rfl (by kernel_rfl) (by kernel_rfl) (fun _ _ _ _ h => h) (yh_move rfl rfl) ?_
                  refine wd_take (i := 1) [0] rfl rfl rfl rfl rfl (by kernel_rfl) (by kernel_rfl) (fun _ _ _ _ h => h) (yh_field Tb rfl rfl rfl) ?_
                  refine wd_take (i := 2) [0] rfl rfl rfl rfl rfl (by kernel_rfl) (by kernel_rfl) (fun _ _ _ _ h => h) (yh_field Tb rfl rfl rfl) ?_
                  refine wd_take (i := 3) [0] rfl rfl rfl rfl rfl (by kernel_rfl) (by kernel_rfl) (fun _ _ _ _ h => h) (yh_loadB Tb (k := 0) rfl rfl rfl rfl rfl) ?_
                  refine wd_take (i := 4) [0] rfl rfl rfl rfl rfl (by kernel_rfl) (by kernel_rfl) (fun _ _ _ _ h => h) (yh_move rfl rfl) ?_
                  refine wd_take (i := 5) [0] rfl rfl rfl rfl rfl (by kernel_rfl) (by kernel_rfl) (fun _ _ _ _ h => h) (yh_move rfl rfl) ?_
                  obtain ⟨y73, zy73, h⟩ := bd h
                  obtain ⟨iy73, hy73⟩ := geti_some zy73
                  obtain ⟨b73, o73, ha73⟩ := sl_addr h_u0 hy73
                  subst ha73
                  obtain ⟨a73, e73, hc73, hf73⟩ := get_step h_u0 hy73
                  have mx73 := rd_max hf73
                  refine wd_take (i := 6) [0] rfl rfl rfl rfl rfl (by kernel_rfl) (by kernel_rfl) (fun _ _ _ _ h => h) (yh_idx Tb (k := x11.toNat) rfl rfl rfl iy73 (get_lt hy73) rfl rfl) ?_
                  refine wd_take (i := 7) [0] rfl rfl rfl rfl rfl (by kernel_rfl) (by kernel_rfl) (fun _ _ _ _ h => h) (yh_field Tb rfl rfl rfl) ?_
                  refine wd_take (i := 8) [0] rfl rfl rfl rfl rfl (by kernel_rfl) (by kernel_rfl) (fun _ _ _ _ h => h) (yh_loadAF Tb (j := 1) rfl rfl rfl hc73 rfl) ?_
                  refine wd_take (i := 9) [0] rfl rfl rfl rfl rfl (by kernel_rfl) (by kernel_rfl) (fun _ _ _ _ h => h) (yh_field Tb rfl rfl rfl) ?_
                  refine wd_take (i := 10) [0] rfl rfl rfl rfl rfl (by kernel_rfl) (by kernel_rfl) (fun _ _ _ _ h => h) (yh_field Tb rfl rfl rfl) ?_
                  refine wd_take (i := 11) [0] rfl rfl rfl rfl rfl (by kernel_rfl) (by kernel_rfl) (fun _ _ _ _ h => h) (yh_loadB Tb (k := 0) rfl rfl rfl rfl rfl) ?_
                  refine wd_take (i := 12) [0] rfl rfl rfl rfl rfl (by kernel_rfl) (by kernel_rfl) (fun _ _ _ _ h => h) (yh_buildA rfl rfl (by kernel_rfl)) ?_
                  obtain ⟨x80, hx80, h⟩ := bd h
                  refine wd_one 13 rfl rfl (by kernel_rfl) (ow_cN1 rfl hb116 rfl (fun w hw => c_spec_l12With N _ _ _ hx80 w (Lay.at_ h_u0 hw) (Lay.at_ hf73 hw)) rfl rfl (fun a80 c80 F80 => kk_wd [1] (by kernel_rfl) ?_))
                  refine wd_take (i := 14) [1] rfl rfl rfl rfl rfl (by kernel_rfl) (by kernel_rfl) (fun _ _ _ _ h => h) (yh_assign rfl rfl) ?_
                  refine wd_take (i := 15) [1] rfl rfl rfl rfl rfl (by kernel_rfl) (by kernel_rfl) (fun _ _ _ _ h => h) (yh_assign rfl rfl) ?_
                  refine wd_done (by kernel_rfl) ?_
                  refine ex_seq ?_
                  refine cw_ret ?_
                  refine ex_block_ret ?_
                  refine ex_then_ret ?_
                  obtain rfl := Option.some.inj h
                  exact ex_r2 Tb rfl (.tmp rfl) (.tmp rfl) (fun wq hq => ⟨_, rfl, hq.ext, ⟨a80, c80, F80, rfl, NewC.sel [0] hq rfl⟩⟩)
                · skip
                  replace h := bf cc4 h
                  refine cw_skip ?_
                  refine ex_block_normal ?_
                  refine ex_seq ?_
                  refine cw_seq ?_
                  refine cw_region ?_
                  refine wl_u rfl (ow_lit0 Tb rfl rfl rfl rfl rfl rfl (fun g81 => kk_chg (c' := owC stepsL [g81] [.slice (some ⟨g81, 0, none⟩) 0 0] ([] : List Step)) 0 rfl (fun w hA => own_stepsL ([] : List Step) hA rfl (by simp [maxLen])) rfl (kk_wl ?_)))
                  refine wl_u rfl (ow_y (yh_assign rfl rfl) rfl rfl (kk_wl ?_))
                  refine wl_u rfl (ow_y (yh_assign rfl rfl) rfl rfl (kk_wl ?_))
                  refine wl_nil ?_
                  refine ex_seq ?_
                  refine cw_ret ?_
                  obtain rfl := Option.some.inj h
                  exact ex_r2 Tb rfl (.tmp rfl) (.tmp rfl) (fun wq hq => ⟨_, rfl, hq.ext, ⟨(some ⟨g81, 0, none⟩), 0, [g81], rfl, NewC.sel [0] hq rfl⟩⟩)
              · skip
                have h := he111
                refine cw_region ?_
                refine wl_u rfl (ow_y (yh_field Tb rfl rfl rfl) rfl rfl (kk_wl ?_))
                refine wl_u rfl (ow_y (yh_loadB Tb (k := 0) rfl rfl rfl rfl rfl) rfl rfl (kk_wl ?_))
                refine wl_u rfl (ow_y (yh_cmpI rfl rfl rfl rfl) rfl rfl (kk_wl ?_))
                refine wl_u rfl (ow_y (yh_move rfl rfl) rfl rfl (kk_wl ?_))
                refine wl_s rfl rfl (fun cc5 => ?_) (fun cc5 => ?_)
                · skip
                  replace h := bt cc5 h
                  have q1 := eqb_true.1 cc5
                  refine wl_g rfl rfl (ow_y (yh_move rfl rfl) rfl rfl (kk_wl ?_))
                  refine wl_g rfl rfl (ow_y (yh_cmpI rfl rfl rfl rfl) rfl rfl (kk_wl ?_))
                  refine wl_u rfl (ow_y (yh_pickT rfl rfl rfl) rfl rfl (kk_wl ?_))
                  refine wl_u rfl (ow_y (yh_assign rfl rfl) rfl rfl (kk_wl ?_))
                  refine wl_nil ?_
                  obtain rfl := Option.some.inj h
                  exact ex_next [0] (hn111 () trivial) ⟨rfl, rfl, rfl, rfl, trivial⟩ (by kernel_rfl)
                · skip
                  replace h := bf cc5 h
                  have q2 := eqb_false.1 cc5
                  refine wl_n rfl rfl rfl rfl ?_
                  refine wl_n rfl rfl rfl rfl ?_
                  refine wl_u rfl (ow_y (yh_pickF rfl rfl rfl) rfl rfl (kk_wl ?_))
                  refine wl_u rfl (ow_y (yh_assign rfl rfl) rfl rfl (kk_wl ?_))
                  refine wl_nil ?_
                  obtain rfl := Option.some.inj h
                  exact ex_next [0] (hn111 () trivial) ⟨rfl, rfl, rfl, rfl, trivial⟩ (by kernel_rfl)
          · skip
            have h := he108
            refine cw_region ?_
            refine wl_u rfl (ow_y (yh_field Tb rfl rfl rfl) rfl rfl (kk_wl ?_))
            refine wl_u rfl (ow_y (yh_loadB Tb (k := 0) rfl rfl rfl rfl rfl) rfl rfl (kk_wl ?_))
            refine wl_u rfl (ow_y (yh_cmpI rfl rfl rfl rfl) rfl rfl (kk_wl ?_))
            refine wl_u rfl (ow_y (yh_move rfl rfl) rfl rfl (kk_wl ?_))
            refine wl_s rfl rfl (fun cc6 => ?_) (fun cc6 => ?_)
            · skip
              replace h := bt cc6 h
              have q3 := eqb_true.1 cc6
              refine wl_g rfl rfl (ow_y (yh_move rfl rfl) rfl rfl (kk_wl ?_))
              refine wl_g rfl rfl (ow_y (yh_cmpI rfl rfl rfl rfl) rfl rfl (kk_wl ?_))
              refine wl_u rfl (ow_y (yh_pickT rfl rfl rfl) rfl rfl (kk_wl ?_))
              refine wl_u rfl (ow_y (yh_assign rfl rfl) rfl rfl (kk_wl ?_))
              refine wl_nil ?_
              obtain rfl := Option.some.inj h
              exact ex_next [0] (hn108 () trivial) ⟨rfl, rfl, rfl, rfl, trivial⟩ (by kernel_rfl)
            · skip
              replace h := bf cc6 h
              have q4 := eqb_false.1 cc6
              refine wl_n rfl rfl rfl rfl ?_
              refine wl_n rfl rfl rfl rfl ?_
              refine wl_u rfl (ow_y (yh_pickF rfl rfl rfl) rfl rfl (kk_wl ?_))
              refine wl_u rfl (ow_y (yh_assign rfl rfl) rfl rfl (kk_wl ?_))
              refine wl_nil ?_
              obtain rfl := Option.some.inj h
              exact ex_next [0] (hn108 () trivial) ⟨rfl, rfl, rfl, rfl, trivial⟩ (by kernel_rfl)
      · skip
        have h := he106
        refine cw_region ?_
        refine wl_u rfl (ow_y (yh_field Tb rfl rfl rfl) rfl rfl (kk_wl ?_))
        refine wl_u rfl (ow_y (yh_loadB Tb (k := 0) rfl rfl rfl rfl rfl) rfl rfl (kk_wl ?_))
        refine wl_u rfl (ow_y (yh_cmpI rfl rfl rfl rfl) rfl rfl (kk_wl ?_))
        refine wl_u rfl (ow_y (yh_move rfl rfl) rfl rfl (kk_wl ?_))
        refine wl_s rfl rfl (fun cc7 => ?_) (fun cc7 => ?_)
        · skip
          replace h := bt cc7 h
          have q5 := eqb_true.1 cc7
          refine wl_g rfl rfl (ow_y (yh_move rfl rfl) rfl rfl (kk_wl ?_))
          refine wl_g rfl rfl (ow_y (yh_cmpI rfl rfl rfl rfl) rfl rfl (kk_wl ?_))
          refine wl_u rfl (ow_y (yh_pickT rfl rfl rfl) rfl rfl (kk_wl ?_))
          refine wl_u rfl (ow_y (yh_assign rfl rfl) rfl rfl (kk_wl ?_))
          refine wl_nil ?_
          obtain rfl := Option.some.inj h
          exact ex_next [0] (hn106 () trivial) ⟨rfl, rfl, rfl, rfl, trivial⟩ (by kernel_rfl)
        · skip
          replace h := bf cc7 h
          have q6 := eqb_false.1 cc7
          refine wl_n rfl rfl rfl rfl ?_
          refine wl_n rfl rfl rfl rfl ?_
          refine wl_u rfl (ow_y (yh_pickF rfl rfl rfl) rfl rfl (kk_wl ?_))
          refine wl_u rfl (ow_y (yh_assign rfl rfl) rfl rfl (kk_wl ?_))
          refine wl_nil ?_
          obtain rfl := Option.some.inj h
          exact ex_next [0] (hn106 () trivial) ⟨rfl, rfl, rfl, rfl, trivial⟩ (by kernel_rfl)
  · skip
    have h := he104
    refine cw_region ?_
    refine wl_u rfl (ow_y (yh_field Tb rfl rfl rfl) rfl rfl (kk_wl ?_))
    refine wl_u rfl (ow_y (yh_loadB Tb (k := 0) rfl rfl rfl rfl rfl) rfl rfl (kk_wl ?_))
    refine wl_u rfl (ow_y (yh_cmpI rfl rfl rfl rfl) rfl rfl (kk_wl ?_))
    refine wl_u rfl (ow_y (yh_move rfl rfl) rfl rfl (kk_wl ?_))
    refine wl_s rfl rfl (fun cc8 => ?_) (fun cc8 => ?_)
    · skip
      replace h := bt cc8 h
      have q7 := eqb_true.1 cc8
      refine wl_g rfl rfl (ow_y (yh_move rfl rfl) rfl rfl (kk_wl ?_))
      refine wl_g rfl rfl (ow_y (yh_cmpI rfl rfl rfl rfl) rfl rfl (kk_wl ?_))
      refine wl_u rfl (ow_y (yh_pickT rfl rfl rfl) rfl rfl (kk_wl ?_))
      refine wl_u rfl (ow_y (yh_assign rfl rfl) rfl rfl (kk_wl ?_))
      refine wl_nil ?_
      obtain rfl := Option.some.inj h
      exact ex_next [0] (hn104 () trivial) ⟨rfl, rfl, rfl, rfl, trivial⟩ (by kernel_rfl)
    · skip
      replace h := bf cc8 h
      have q8 := eqb_false.1 cc8
      refine wl_n rfl rfl rfl rfl ?_
      refine wl_n rfl rfl rfl rfl ?_
      refine wl_u rfl (ow_y (yh_pickF rfl rfl rfl) rfl rfl (kk_wl ?_))
      refine wl_u rfl (ow_y (yh_assign rfl rfl) rfl rfl (kk_wl ?_))
      refine wl_nil ?_
      obtain rfl := Option.some.inj h
      exact ex_next [0] (hn104 () trivial) ⟨rfl, rfl, rfl, rfl, trivial⟩ (by kernel_rfl)

def m_spec_FlowChange (N : Nat) (f : Flow) (c : Change) : Option (Flow × Bool) := (m_spec_FlowValid N f).bind fun x10 => (bif !x10 then some ((Flow.mk 0 []), false)
 else (m_spec_StepValid N c.step).bind fun x15 => (bif !x15 then some ((Flow.mk 0 []), false)
 else (m_spec_l12Steps N f.steps c).bind fun x23 => (bif !x23.2 then some ((Flow.mk 0 []), false)
 else (m_spec_FlowValid N (Flow.mk (w64 (f.ver + 1)) x23.1)).bind fun x35 => (bif !x35 then some ((Flow.mk 0 []), false)
 else some ((Flow.mk (w64 (f.ver + 1)) x23.1), true)))))

set_option maxHeartbeats 4000000 in
theorem c_spec_FlowChange (N : Nat) (f : Flow) (c : Change) (res : Flow × Bool) (h : m_spec_FlowChange N f c = some res) (w : World) {a_c_step_after a_f_steps : Option Addr} {c_c_step_after c_f_steps : Nat} (h_f_steps : stepsL.rd w [] [.slice a_f_steps f.steps.length c_f_steps] f.steps) (h_c_step_after : strsL.rd w [] [.slice a_c_step_after c.step.after.length c_c_step_after] c.step.after) : Ret Tryz.prog 54 [.agg #[.int .i64 f.ver, .slice a_f_steps f.steps.length c_f_steps], .agg #[.int .i64 c.kind, .string c.step.name, .slice a_c_step_after c.step.after.length c_c_step_after, .bool c.step.undo]] w [] fun v w' => ∃ a1 c1 F1, v = .tuple #[.agg #[.int .i64 res.1.ver, .slice a1 res.1.steps.length c1], .bool res.2] ∧ NewC w w' [owC stepsL F1 [.slice a1 res.1.steps.length c1] res.1.steps] := by
  have mh_f_steps := rd_max h_f_steps
  have mh_c_step_after := rd_max h_c_step_after
  unfold m_spec_FlowChange at h
  refine ret_enter Tryz.func54 rfl Tryz.ntmps54 rfl (Hp.refl w _) ?_
  refine cw_seq ?_
  refine cw_region ?_
  refine wl_u rfl (ow_boxA rfl rfl rfl rfl (fun g2 => kk_wl ?_))
  refine wl_u rfl (ow_boxA rfl rfl rfl rfl (fun g3 => kk_wl ?_))
  refine wl_u rfl (ow_allocA Tb rfl rfl rfl rfl (fun g4 => kk_wl ?_))
  refine wl_u rfl (ow_y (yh_assign rfl rfl) rfl rfl (kk_wl ?_))
  refine wl_nil ?_
  refine ex_seq ?_
  refine cw_seq ?_
  refine cw_seq ?_
  refine cw_region ?_
  refine wl_u rfl (ow_y (yh_loadBA Tb (k := 2) rfl rfl rfl rfl rfl rfl) rfl rfl (kk_wl ?_))
  obtain ⟨x10, hx10, h⟩ := bd h
  refine wl_u rfl (ow_cV rfl hb42 rfl (fun w hw => c_spec_FlowValid N _ _ hx10 w (Lay.at_ h_f_steps hw)) rfl rfl (kk_wl ?_))
  refine wl_u rfl (ow_y (yh_not rfl rfl) rfl rfl (kk_wl ?_))
  refine wl_u rfl (ow_y (yh_move rfl rfl) rfl rfl (kk_wl ?_))
  refine wl_s rfl rfl (fun cc1 => ?_) (fun cc1 => ?_)
  · skip
    replace h := bt cc1 h
    refine wl_n rfl rfl rfl rfl ?_
    refine wl_n rfl rfl rfl rfl ?_
    refine wl_n rfl rfl rfl rfl ?_
    refine wl_n rfl rfl rfl rfl ?_
    refine wl_u rfl (ow_y (yh_pickT rfl rfl rfl) rfl rfl (kk_wl ?_))
    refine wl_nil ?_
    refine ex_seq ?_
    refine cw_true rfl ?_
    refine cw_seq ?_
    refine cw_region ?_
    refine wl_u rfl (ow_y (yh_build [.int .i64 0, .slice none 0 0] rfl rfl (by kernel_rfl)) rfl rfl (kk_wl ?_))
    refine wl_u rfl (ow_storeA Tb (k := 0) rfl rfl rfl rfl rfl rfl rfl rfl rfl (kk_wl ?_))
    refine wl_u rfl (ow_y (yh_assign rfl rfl) rfl rfl (kk_wl ?_))
    refine wl_nil ?_
    refine ex_seq ?_
    refine cw_ret ?_
    refine ex_then_ret ?_
    refine ex_nilS stepsL rfl ?_
    obtain rfl := Option.some.inj h
    exact ex_r2 Tb rfl (.cellA 1 rfl rfl rfl rfl rfl) (.tmp rfl) (fun wq hq => ⟨_, rfl, hq.ext, ⟨none, 0, [], rfl, NewC.sel [0] hq rfl⟩⟩)
  · skip
    replace h := bf cc1 h
    refine wl_g rfl rfl (ow_y (yh_field Tb rfl rfl rfl) rfl rfl (kk_wl ?_))
    refine wl_g rfl rfl (ow_y (yh_loadBN Tb (k := 1) rfl rfl rfl rfl rfl rfl rfl) rfl rfl (kk_wl ?_))
    obtain ⟨x15, hx15, h⟩ := bd h
    refine wl_g rfl rfl (ow_cV rfl hb83 rfl (fun w hw => c_spec_StepValid N _ _ hx15 w (Lay.at_ h_c_step_after hw)) rfl rfl (kk_wl ?_))
    refine wl_g rfl rfl (ow_y (yh_not rfl rfl) rfl rfl (kk_wl ?_))
    refine wl_u rfl (ow_y (yh_pickF rfl rfl rfl) rfl rfl (kk_wl ?_))
    refine wl_nil ?_
    refine ex_seq ?_
    refine cw_split rfl (fun cc2 => ?_) (fun cc2 => ?_)
    · skip
      replace h := bt cc2 h
      refine cw_seq ?_
      refine cw_region ?_
      refine wl_u rfl (ow_y (yh_build [.int .i64 0, .slice none 0 0] rfl rfl (by kernel_rfl)) rfl rfl (kk_wl ?_))
      refine wl_u rfl (ow_storeA Tb (k := 0) rfl rfl rfl rfl rfl rfl rfl rfl rfl (kk_wl ?_))
      refine wl_u rfl (ow_y (yh_assign rfl rfl) rfl rfl (kk_wl ?_))
      refine wl_nil ?_
      refine ex_seq ?_
      refine cw_ret ?_
      refine ex_then_ret ?_
      refine ex_nilS stepsL rfl ?_
      obtain rfl := Option.some.inj h
      exact ex_r2 Tb rfl (.cellA 1 rfl rfl rfl rfl rfl) (.tmp rfl) (fun wq hq => ⟨_, rfl, hq.ext, ⟨none, 0, [], rfl, NewC.sel [0] hq rfl⟩⟩)
    · skip
      replace h := bf cc2 h
      refine cw_skip ?_
      refine ex_seq ?_
      refine cw_seq ?_
      refine cw_region ?_
      refine wl_u rfl (ow_y (yh_field Tb rfl rfl rfl) rfl rfl (kk_wl ?_))
      refine wl_u rfl (ow_y (yh_loadB Tb (k := 2) rfl rfl rfl rfl rfl) rfl rfl (kk_wl ?_))
      refine wl_u rfl (ow_y (yh_loadBA Tb (k := 1) rfl rfl rfl rfl rfl rfl) rfl rfl (kk_wl ?_))
      obtain ⟨x23, hx23, h⟩ := bd h
      refine wl_u rfl (ow_cN1 rfl hb91 rfl (fun w hw => c_spec_l12Steps N _ _ _ hx23 w (Lay.at_ h_f_steps hw) (Lay.at_ h_c_step_after hw)) rfl rfl (fun a23 c23 F23 => kk_wl ?_))
      refine wl_u rfl (ow_y (yh_move rfl rfl) rfl rfl (kk_wl ?_))
      refine wl_u rfl (ow_y (yh_extract rfl rfl rfl) rfl rfl (kk_wl ?_))
      refine wl_u rfl (ow_y (yh_extract rfl rfl rfl) rfl rfl (kk_wl ?_))
      refine wl_u rfl (ow_y (yh_assign rfl rfl) rfl rfl (kk_wl ?_))
      refine wl_u rfl (ow_y (yh_assign rfl rfl) rfl rfl (kk_wl ?_))
      refine wl_nil ?_
      refine ex_seq ?_
      refine cw_seq ?_
      refine cw_region ?_
      refine wl_u rfl (ow_y (yh_field Tb rfl rfl rfl) rfl rfl (kk_wl ?_))
      refine wl_u rfl (ow_y (yh_loadB Tb (k := 3) rfl rfl rfl rfl rfl) rfl rfl (kk_wl ?_))
      refine wl_u rfl (ow_y (yh_arW rfl rfl rfl rfl) rfl rfl (kk_wl ?_))
      refine wl_u rfl (ow_y (yh_move rfl rfl) rfl rfl (kk_wl ?_))
      refine wl_u rfl (ow_y (yh_buildA rfl rfl (by kernel_rfl)) rfl rfl (kk_wl ?_))
      refine wl_u rfl (ow_allocA Tb rfl rfl rfl rfl (fun g8 => kk_wl ?_))
      refine wl_u rfl (ow_storeA Tb (k := 0) rfl rfl rfl rfl rfl rfl rfl rfl rfl (kk_wl ?_))
      refine wl_nil ?_
      refine ex_seq ?_
      refine cw_seq ?_
      refine cw_seq ?_
      refine cw_region ?_
      refine wl_u rfl (ow_y (yh_move rfl rfl) rfl rfl (kk_wl ?_))
      refine wl_u rfl (ow_y (yh_not rfl rfl) rfl rfl (kk_wl ?_))
      refine wl_u rfl (ow_y (yh_move rfl rfl) rfl rfl (kk_wl ?_))
      refine wl_s rfl rfl (fun cc3 => ?_) (fun cc3 => ?_)
      · skip
        replace h := bt cc3 h
        refine wl_n rfl rfl rfl rfl ?_
        refine wl_n rfl rfl rfl rfl ?_
        refine wl_n rfl rfl rfl rfl ?_
        refine wl_u rfl (ow_y (yh_pickT rfl rfl rfl) rfl rfl (kk_wl ?_))
        refine wl_nil ?_
        refine ex_seq ?_
        refine cw_true rfl ?_
        refine cw_seq ?_
        refine cw_region ?_
        refine wl_u rfl (ow_y (yh_build [.int .i64 0, .slice none 0 0] rfl rfl (by kernel_rfl)) rfl rfl (kk_wl ?_))
        refine wl_u rfl (ow_storeA Tb (k := 2) rfl rfl rfl rfl rfl rfl rfl rfl rfl (kk_wl ?_))
        refine wl_u rfl (ow_y (yh_assign rfl rfl) rfl rfl (kk_wl ?_))
        refine wl_nil ?_
        refine ex_seq ?_
        refine cw_ret ?_
        refine ex_then_ret ?_
        refine ex_nilS stepsL rfl ?_
        obtain rfl := Option.some.inj h
        exact ex_r2 Tb rfl (.cellA 1 rfl rfl rfl rfl rfl) (.tmp rfl) (fun wq hq => ⟨_, rfl, hq.ext, ⟨none, 0, [], rfl, NewC.sel [0] hq rfl⟩⟩)
      · skip
        replace h := bf cc3 h
        refine wl_g rfl rfl (ow_y (yh_loadBA Tb (k := 0) rfl rfl rfl rfl rfl rfl) rfl rfl (kk_wl ?_))
        obtain ⟨x35, hx35, h⟩ := bd h
        refine wl_g rfl rfl (ow_cV rfl hb42 rfl (fun w hw => c_spec_FlowValid N _ _ hx35 w (rdo (A := stepsL) 1 rfl hw)) rfl rfl (kk_wl ?_))
        refine wl_g rfl rfl (ow_y (yh_not rfl rfl) rfl rfl (kk_wl ?_))
        refine wl_u rfl (ow_y (yh_pickF rfl rfl rfl) rfl rfl (kk_wl ?_))
        refine wl_nil ?_
        refine ex_seq ?_
        refine cw_split rfl (fun cc4 => ?_) (fun cc4 => ?_)
        · skip
          replace h := bt cc4 h
          refine cw_seq ?_
          refine cw_region ?_
          refine wl_u rfl (ow_y (yh_build [.int .i64 0, .slice none 0 0] rfl rfl (by kernel_rfl)) rfl rfl (kk_wl ?_))
          refine wl_u rfl (ow_storeA Tb (k := 2) rfl rfl rfl rfl rfl rfl rfl rfl rfl (kk_wl ?_))
          refine wl_u rfl (ow_y (yh_assign rfl rfl) rfl rfl (kk_wl ?_))
          refine wl_nil ?_
          refine ex_seq ?_
          refine cw_ret ?_
          refine ex_then_ret ?_
          refine ex_nilS stepsL rfl ?_
          obtain rfl := Option.some.inj h
          exact ex_r2 Tb rfl (.cellA 1 rfl rfl rfl rfl rfl) (.tmp rfl) (fun wq hq => ⟨_, rfl, hq.ext, ⟨none, 0, [], rfl, NewC.sel [0] hq rfl⟩⟩)
        · skip
          replace h := bf cc4 h
          refine cw_skip ?_
          refine ex_seq ?_
          refine cw_seq ?_
          refine cw_region ?_
          refine wl_u rfl (ow_y (yh_loadBA Tb (k := 0) rfl rfl rfl rfl rfl rfl) rfl rfl (kk_wl ?_))
          refine wl_u rfl (ow_storeA Tb (k := 2) rfl rfl rfl rfl rfl rfl rfl rfl rfl (kk_wl ?_))
          refine wl_u rfl (ow_y (yh_assign rfl rfl) rfl rfl (kk_wl ?_))
          refine wl_nil ?_
          refine ex_seq ?_
          refine cw_ret ?_
          obtain rfl := Option.some.inj h
          exact ex_r2 Tb rfl (.cellA 0 rfl rfl rfl rfl rfl) (.tmp rfl) (fun wq hq => ⟨_, rfl, hq.ext, ⟨a23, c23, F23, rfl, NewC.sel [2] hq rfl⟩⟩)

end Go.Proofs.YtmnhnldnnniglaaGreat
