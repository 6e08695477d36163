/- Mirrors and contracts, printed by a program: what each function computes as a plain term, and that it does. -/
import Derived.Test.YtlcckcifnpjbpaaR
import Derived.Test.YtlcckcifnpjbpaaD
import Derived.Test.YtlcckcifnpjbpaaWE0
import Derived.Test.YtlcckcifnpjbpaaWE1
import Derived.Test.YtlcckcifnpjbpaaWE2
set_option linter.all false
set_option maxRecDepth 100000
namespace Go.Proofs.Ytlcckcifnpjbpaa
open Go.RowKit

def m_spec_l14Copy_L5 (N : Nat) (list_ : List Flow) : Nat → (List Flow) → Nat → Option (Ex (List Flow × Nat) (List Flow))
  | 0, _, _ => none
  | n + 1, s3, s4 => (bif ltb ((s4 : Nat) : Int) ((list_.length : Nat) : Int) then (list_[s4]?).bind fun y15 => (m_spec_l2Copy N y15).bind fun x17 => (appd s3 [x17]).bind fun l19 => m_spec_l14Copy_L5 N list_ n (s3 ++ [x17]) (s4 + 1)
 else some (Ex.brk (s3, s4)))

def m_spec_l14Copy (N : Nat) (list_ : List Flow) : Option (List Flow) := (m_spec_l14Copy_L5 N list_ N ([] : List Flow) 0).bind fun e5 => e5.go (fun r => r) fun b5 => some b5.1

set_option maxHeartbeats 4000000 in
theorem c_spec_l14Copy (N : Nat) (list_ : List Flow) (res : List Flow) (h : m_spec_l14Copy N list_ = some res) (w : World) {a_list_ : Option Addr} {c_list_ : Nat} (h_list_ : flowsL.rd w [] [.slice a_list_ list_.length c_list_] list_) : Ret Try.prog 67 [.slice a_list_ list_.length c_list_] w [] fun v w' => ∃ a1 c1 F1, v = .slice a1 res.length c1 ∧ NewC w w' [owC flowsL F1 [.slice a1 res.length c1] res] := by
  have mh_list_ := rd_max h_list_
  unfold m_spec_l14Copy at h
  refine ret_enter Try.func67 rfl Try.ntmps67 rfl (Hp.refl w _) ?_
  refine cw_seq ?_
  refine cw_region ?_
  refine wl_u rfl (ow_y (yh_assign rfl rfl) rfl rfl (kk_wl ?_))
  refine wl_nil ?_
  refine ex_seq ?_
  refine cw_seq ?_
  refine cw_region ?_
  refine wl_u rfl (ow_lit0 Tb rfl rfl rfl rfl rfl rfl (fun g5 => kk_chg (c' := owC flowsL [g5] [.slice (some ⟨g5, 0, none⟩) 0 0] ([] : List Flow)) 0 rfl (fun w hA => own_flowsL ([] : List Flow) hA rfl (by simp [maxLen])) rfl (kk_wl ?_)))
  refine wl_u rfl (ow_y (yh_assign rfl rfl) rfl rfl (kk_wl ?_))
  refine wl_nil ?_
  refine ex_seq ?_
  refine cw_seq ?_
  refine cw_seq ?_
  refine cw_region ?_
  refine wl_u rfl (ow_y (yh_assign rfl rfl) rfl rfl (kk_wl ?_))
  refine wl_nil ?_
  refine ex_seq ?_
  refine cw_block ?_
  obtain ⟨e5, he5, hk5⟩ := bd h
  clear h
  refine cw_loopG (σ := Nat × (List Flow) × Nat × (Option Addr) × Nat × (List Nat)) (fun s => m_spec_l14Copy_L5 N list_ s.1 s.2.1 s.2.2.1 = some e5) (fun s => [(0, .slice a_list_ list_.length c_list_), (3, .slice s.2.2.2.1 s.2.1.length s.2.2.2.2.1), (4, .int .i64 ((s.2.2.1 : Nat) : Int))]) (fun s => [owC flowsL s.2.2.2.2.2 [.slice s.2.2.2.1 s.2.1.length s.2.2.2.2.1] s.2.1]) (fun s => s.1) (N, ([] : List Flow), 0, (some ⟨g5, 0, none⟩), 0, [g5]) [0] he5 ⟨rfl, rfl, rfl, trivial⟩ rfl (fun KL s he5 hn5 => ?_)
  obtain ⟨n5, s3, s4, as3, cs3, Fs3⟩ := s
  simp only at he5 hn5 ⊢
  rcases n5 with _ | n5
  · exact nosome he5
  have h := he5; rw [m_spec_l14Copy_L5] at h
  refine cw_seq ?_
  refine cw_seq ?_
  refine cw_region ?_
  refine wl_u rfl (ow_y (yh_move rfl rfl) rfl rfl (kk_wl ?_))
  refine wl_u rfl (ow_y (yh_move rfl rfl) rfl rfl (kk_wl ?_))
  refine wl_u rfl (ow_y (yh_lenS Tb rfl rfl rfl rfl) rfl rfl (kk_wl ?_))
  refine wl_u rfl (ow_y (yh_cmpI rfl rfl rfl rfl) rfl rfl (kk_wl ?_))
  refine wl_nil ?_
  refine ex_seq ?_
  refine cw_split rfl (fun c1 => ?_) (fun c1 => ?_)
  · skip
    replace h := bt c1 h
    have q1 := ltb_true.1 c1
    refine cw_skip ?_
    refine ex_seq ?_
    refine cw_seq ?_
    refine cw_block ?_
    refine cw_region ?_
    refine wl_u rfl (ow_y (yh_move rfl rfl) rfl rfl (kk_wl ?_))
    refine wl_u rfl (ow_y (yh_move rfl rfl) rfl rfl (kk_wl ?_))
    refine wl_u rfl (ow_y (yh_move rfl rfl) rfl rfl (kk_wl ?_))
    obtain ⟨y15, hy15, h⟩ := bd h
    obtain ⟨b15, o15, ha15⟩ := sl_addr h_list_ hy15
    subst ha15
    obtain ⟨a15, e15, hc15, hf15⟩ := get_flow h_list_ hy15
    have mx15 := rd_max hf15
    refine wl_u rfl (ow_y (yh_idx Tb (k := s4) rfl rfl rfl rfl (get_lt hy15) rfl rfl) rfl rfl (kk_wl ?_))
    refine wl_u rfl (ow_y (yh_loadAN Tb rfl rfl rfl rfl hc15 rfl) rfl rfl (kk_wl ?_))
    obtain ⟨x17, hx17, h⟩ := bd h
    refine wl_u rfl (ow_cN1 rfl hb66 rfl (fun w hw => c_spec_l2Copy N _ _ hx17 w (Lay.at_ hf15 hw)) rfl rfl (fun a17 c17 F17 => kk_wl ?_))
    refine wl_u rfl (ow_litA Tb rfl rfl rfl rfl rfl rfl (by decide) rfl rfl (fun g18 => kk_wl ?_))
    obtain ⟨hll19, h⟩ := bd_appd h
    refine wl_u rfl (ow_chg (c' := owC flowL F17 [.int .i64 x17.ver, .slice a17 x17.steps.length c17] x17) 1 rfl (fun w hA => flowL_mk x17 hA) rfl (ow_appE Tb (i := 2) (j := 0) (k := 1) rfl rfl rfl rfl rfl rfl rfl rfl rfl rfl rfl (app1 hll19) (by decide) rfl rfl (fun a19 c19 F19 => kk_wl ?_)))
    refine wl_u rfl (ow_y (yh_assign rfl rfl) rfl rfl (kk_wl ?_))
    refine wl_nil ?_
    refine ex_block_normal ?_
    refine ex_seq ?_
    refine cw_region ?_
    refine wl_u rfl (ow_y (yh_move rfl rfl) rfl rfl (kk_wl ?_))
    refine wl_u rfl (ow_y (yh_arI rfl rfl rfl rfl (by omega)) rfl rfl (kk_wl ?_))
    refine wl_u rfl (ow_y (yh_assign rfl rfl) rfl rfl (kk_wl ?_))
    refine wl_nil ?_
    exact ex_next [0] (hn5 (n5, (s3 ++ [x17]), s4 + 1, a19, c19, F19) (Nat.lt_succ_self _) h) ⟨rfl, rfl, rfl, trivial⟩ (by kernel_rfl)
  · skip
    replace h := bf c1 h
    have q2 := ltb_false.1 c1
    refine cw_exit ?_
    refine ex_then_exit ?_
    refine ex_then_exit ?_
    obtain rfl := Option.some.inj h
    have h := go_brk hk5
    refine ex_block_exit ?_
    refine ex_seq ?_
    refine cw_seq ?_
    refine cw_region ?_
    refine wl_u rfl (ow_y (yh_move rfl rfl) rfl rfl (kk_wl ?_))
    refine wl_u rfl (ow_y (yh_assign rfl rfl) rfl rfl (kk_wl ?_))
    refine wl_nil ?_
    refine ex_seq ?_
    refine cw_ret ?_
    obtain rfl := Option.some.inj h
    exact ex_r1 Tb rfl (.tmp rfl) (fun wq hq => ⟨_, rfl, hq.ext, ⟨as3, cs3, Fs3, rfl, NewC.sel [0] hq rfl⟩⟩)

def m_spec_RegistryPut (N : Nat) (list_ : List Flow) (f : Flow) : Option (List Flow × Bool) := (m_spec_RegistryValid N list_).bind fun x9 => (bif !x9 then some (([] : List Flow), false)
 else (m_spec_FlowValid N f).bind fun x13 => (bif !x13 then some (([] : List Flow), false)
 else (m_spec_l2Copy N f).bind fun x18 => ((bif ltb 0 ((list_.length : Nat) : Int) then (geti list_ (((list_.length : Nat) : Int) - 1)).bind fun y27 => some (w64 (y27.ver + 1))
 else some 1) : Option (Int)).bind fun j108 => (m_spec_l14Copy N list_).bind fun x33 => (appd x33 [(Flow.mk j108 x18.steps)]).bind fun l36 => (m_spec_RegistryValid N (x33 ++ [(Flow.mk j108 x18.steps)])).bind fun x38 => (bif !x38 then some (([] : List Flow), false)
 else some ((x33 ++ [(Flow.mk j108 x18.steps)]), true))))

set_option maxHeartbeats 4000000 in
theorem c_spec_RegistryPut (N : Nat) (list_ : List Flow) (f : Flow) (res : List Flow × Bool) (h : m_spec_RegistryPut N list_ f = some res) (w : World) {a_f_steps a_list_ : Option Addr} {c_f_steps c_list_ : Nat} (h_list_ : flowsL.rd w [] [.slice a_list_ list_.length c_list_] list_) (h_f_steps : stepsL.rd w [] [.slice a_f_steps f.steps.length c_f_steps] f.steps) : Ret Try.prog 17 [.slice a_list_ list_.length c_list_, .agg #[.int .i64 f.ver, .slice a_f_steps f.steps.length c_f_steps]] w [] fun v w' => ∃ a1 c1 F1, v = .tuple #[.slice a1 res.1.length c1, .bool res.2] ∧ NewC w w' [owC flowsL F1 [.slice a1 res.1.length c1] res.1] := by
  have mh_list_ := rd_max h_list_
  have mh_f_steps := rd_max h_f_steps
  unfold m_spec_RegistryPut at h
  refine ret_enter Try.func17 rfl Try.ntmps17 rfl (Hp.refl w _) ?_
  refine cw_seq ?_
  refine cw_region ?_
  refine wl_u rfl (ow_boxA rfl rfl rfl rfl (fun g3 => kk_wl ?_))
  refine wl_u rfl (ow_y (yh_assign rfl rfl) rfl rfl (kk_wl ?_))
  refine wl_u rfl (ow_y (yh_assign rfl rfl) rfl rfl (kk_wl ?_))
  refine wl_nil ?_
  refine ex_seq ?_
  refine cw_seq ?_
  refine cw_seq ?_
  refine cw_region ?_
  refine wl_u rfl (ow_y (yh_move rfl rfl) rfl rfl (kk_wl ?_))
  obtain ⟨x9, hx9, h⟩ := bd h
  refine wl_u rfl (ow_cV rfl hb65 rfl (fun w hw => c_spec_RegistryValid N _ _ hx9 w (Lay.at_ h_list_ hw)) rfl rfl (kk_wl ?_))
  refine wl_u rfl (ow_y (yh_not rfl rfl) rfl rfl (kk_wl ?_))
  refine wl_u rfl (ow_y (yh_move rfl rfl) rfl rfl (kk_wl ?_))
  refine wl_s rfl rfl (fun c1 => ?_) (fun c1 => ?_)
  · skip
    replace h := bt c1 h
    refine wl_n rfl rfl rfl rfl ?_
    refine wl_n rfl rfl rfl rfl ?_
    refine wl_n rfl rfl rfl rfl ?_
    refine wl_u rfl (ow_y (yh_pickT rfl rfl rfl) rfl rfl (kk_wl ?_))
    refine wl_nil ?_
    refine ex_seq ?_
    refine cw_true rfl ?_
    refine cw_seq ?_
    refine cw_region ?_
    refine wl_u rfl (ow_lit0 Tb rfl rfl rfl rfl rfl rfl (fun g16 => kk_chg (c' := owC flowsL [g16] [.slice (some ⟨g16, 0, none⟩) 0 0] ([] : List Flow)) 0 rfl (fun w hA => own_flowsL ([] : List Flow) hA rfl (by simp [maxLen])) rfl (kk_wl ?_)))
    refine wl_u rfl (ow_y (yh_assign rfl rfl) rfl rfl (kk_wl ?_))
    refine wl_u rfl (ow_y (yh_assign rfl rfl) rfl rfl (kk_wl ?_))
    refine wl_nil ?_
    refine ex_seq ?_
    refine cw_ret ?_
    refine ex_then_ret ?_
    obtain rfl := Option.some.inj h
    exact ex_r2 Tb rfl (.tmp rfl) (.tmp rfl) (fun wq hq => ⟨_, rfl, hq.ext, ⟨(some ⟨g16, 0, none⟩), 0, [g16], rfl, NewC.sel [0] hq rfl⟩⟩)
  · skip
    replace h := bf c1 h
    refine wl_g rfl rfl (ow_y (yh_loadBA Tb (k := 0) rfl rfl rfl rfl rfl rfl) rfl rfl (kk_wl ?_))
    obtain ⟨x13, hx13, h⟩ := bd h
    refine wl_g rfl rfl (ow_cV rfl hb28 rfl (fun w hw => c_spec_FlowValid N _ _ hx13 w (Lay.at_ h_f_steps hw)) rfl rfl (kk_wl ?_))
    refine wl_g rfl rfl (ow_y (yh_not rfl rfl) rfl rfl (kk_wl ?_))
    refine wl_u rfl (ow_y (yh_pickF rfl rfl rfl) rfl rfl (kk_wl ?_))
    refine wl_nil ?_
    refine ex_seq ?_
    refine cw_split rfl (fun c2 => ?_) (fun c2 => ?_)
    · skip
      replace h := bt c2 h
      refine cw_seq ?_
      refine cw_region ?_
      refine wl_u rfl (ow_lit0 Tb rfl rfl rfl rfl rfl rfl (fun g16 => kk_chg (c' := owC flowsL [g16] [.slice (some ⟨g16, 0, none⟩) 0 0] ([] : List Flow)) 0 rfl (fun w hA => own_flowsL ([] : List Flow) hA rfl (by simp [maxLen])) rfl (kk_wl ?_)))
      refine wl_u rfl (ow_y (yh_assign rfl rfl) rfl rfl (kk_wl ?_))
      refine wl_u rfl (ow_y (yh_assign rfl rfl) rfl rfl (kk_wl ?_))
      refine wl_nil ?_
      refine ex_seq ?_
      refine cw_ret ?_
      refine ex_then_ret ?_
      obtain rfl := Option.some.inj h
      exact ex_r2 Tb rfl (.tmp rfl) (.tmp rfl) (fun wq hq => ⟨_, rfl, hq.ext, ⟨(some ⟨g16, 0, none⟩), 0, [g16], rfl, NewC.sel [0] hq rfl⟩⟩)
    · skip
      replace h := bf c2 h
      refine cw_skip ?_
      refine ex_seq ?_
      refine cw_seq ?_
      refine cw_region ?_
      refine wl_u rfl (ow_y (yh_loadBA Tb (k := 0) rfl rfl rfl rfl rfl rfl) rfl rfl (kk_wl ?_))
      obtain ⟨x18, hx18, h⟩ := bd h
      refine wl_u rfl (ow_cN1 rfl hb66 rfl (fun w hw => c_spec_l2Copy N _ _ hx18 w (Lay.at_ h_f_steps hw)) rfl rfl (fun a18 c18 F18 => kk_wl ?_))
      refine wl_u rfl (ow_allocA Tb rfl rfl rfl rfl (fun g6 => kk_wl ?_))
      refine wl_u rfl (ow_storeA Tb (k := 0) rfl rfl rfl rfl rfl rfl rfl rfl rfl (kk_wl ?_))
      refine wl_nil ?_
      refine ex_seq ?_
      refine cw_seq ?_
      refine cw_region ?_
      refine wl_u rfl (ow_y (yh_field Tb rfl rfl rfl) rfl rfl (kk_wl ?_))
      refine wl_u rfl (ow_store1 Tb (k := 0) rfl rfl rfl rfl rfl rfl rfl rfl rfl (kk_wl ?_))
      refine wl_nil ?_
      refine ex_seq ?_
      obtain ⟨j108, he108, hk108⟩ := bd h
      clear h
      refine cw_cut (σ := Unit) (fun s => True) (fun s => [(0, .slice a_list_ list_.length c_list_), (6, .pointer (some ⟨g6, 0, none⟩))]) (fun s => [blkC g6 26 [.int .i64 j108, .slice a18 x18.steps.length c18], owC stepsL F18 [.slice a18 x18.steps.length c18] x18.steps]) (fun s hI => ?_) (fun KL hn108 => ?_)
      · skip
        have h := hk108
        refine cw_seq ?_
        refine cw_dr [0, 2] [4, 5] [blkC g6 26 [.int .i64 j108, .slice a18 x18.steps.length c18], owC stepsL F18 [.slice a18 x18.steps.length c18] x18.steps] (by kernel_rfl) ?_
        refine wd_take (i := 0) [0, 1] rfl rfl rfl rfl rfl (by kernel_rfl) (by kernel_rfl) (fun _ _ _ _ h => h) (yh_move rfl rfl) ?_
        refine wd_take (i := 2) [0, 1] rfl rfl rfl rfl rfl (by kernel_rfl) (by kernel_rfl) (fun _ _ _ _ h => h) (yh_loadBA Tb (k := 0) rfl rfl rfl rfl rfl rfl) ?_
        refine wd_all [1, 3] (by kernel_rfl) (by simp) (fun i hi => ?_)
        simp only [List.mem_cons, List.not_mem_nil, or_false] at hi
        rcases hi with rfl | rfl
        · refine ⟨_, rfl, rfl, ?_⟩
          obtain ⟨x33, hx33, h⟩ := bd h
          refine (ow_cN1 rfl hb67 rfl (fun w hw => c_spec_l14Copy N _ _ hx33 w (Lay.at_ h_list_ hw)) rfl rfl (fun a33 c33 F33 => kk_wd [1, 2] (by kernel_rfl) ?_))
          refine wd_one 3 rfl rfl (by kernel_rfl) (ow_litA Tb rfl rfl rfl rfl rfl rfl (by decide) rfl rfl (fun g35 => kk_wd [2, 3] (by kernel_rfl) ?_))
          obtain ⟨hll36, h⟩ := bd_appd h
          refine wd_one 4 rfl rfl (by kernel_rfl) (ow_chg (c' := owC flowL F18 [.int .i64 j108, .slice a18 x18.steps.length c18] (Flow.mk j108 x18.steps)) 3 rfl (fun w hA => flowL_mk (Flow.mk j108 x18.steps) hA) rfl (ow_appE Tb (i := 2) (j := 0) (k := 1) rfl rfl rfl rfl rfl rfl rfl rfl rfl rfl rfl (app1 hll36) (by decide) rfl rfl (fun a36 c36 F36 => kk_wdT rfl ?_)))
          refine wd_one 5 rfl rfl (by kernel_rfl) (ow_y (yh_assign rfl rfl) rfl rfl (kk_wdT rfl ?_))
          refine wd_done (by kernel_rfl) ?_
          refine ex_seq ?_
          refine cw_seq ?_
          refine cw_seq ?_
          refine cw_region ?_
          refine wl_u rfl (ow_y (yh_move rfl rfl) rfl rfl (kk_wl ?_))
          obtain ⟨x38, hx38, h⟩ := bd h
          refine wl_u rfl (ow_cV rfl hb65 rfl (fun w hw => c_spec_RegistryValid N _ _ hx38 w (rdo (A := flowsL) 0 rfl hw)) rfl rfl (kk_wl ?_))
          refine wl_u rfl (ow_y (yh_not rfl rfl) rfl rfl (kk_wl ?_))
          refine wl_nil ?_
          refine ex_seq ?_
          refine cw_split rfl (fun c3 => ?_) (fun c3 => ?_)
          · skip
            replace h := bt c3 h
            refine cw_seq ?_
            refine cw_region ?_
            refine wl_u rfl (ow_lit0 Tb rfl rfl rfl rfl rfl rfl (fun g40 => kk_chg (c' := owC flowsL [g40] [.slice (some ⟨g40, 0, none⟩) 0 0] ([] : List Flow)) 0 rfl (fun w hA => own_flowsL ([] : List Flow) hA rfl (by simp [maxLen])) rfl (kk_wl ?_)))
            refine wl_u rfl (ow_y (yh_assign rfl rfl) rfl rfl (kk_wl ?_))
            refine wl_u rfl (ow_y (yh_assign rfl rfl) rfl rfl (kk_wl ?_))
            refine wl_nil ?_
            refine ex_seq ?_
            refine cw_ret ?_
            refine ex_then_ret ?_
            obtain rfl := Option.some.inj h
            exact ex_r2 Tb rfl (.tmp rfl) (.tmp rfl) (fun wq hq => ⟨_, rfl, hq.ext, ⟨(some ⟨g40, 0, none⟩), 0, [g40], rfl, NewC.sel [0] hq rfl⟩⟩)
          · skip
            replace h := bf c3 h
            refine cw_skip ?_
            refine ex_seq ?_
            refine cw_seq ?_
            refine cw_region ?_
            refine wl_u rfl (ow_y (yh_move rfl rfl) rfl rfl (kk_wl ?_))
            refine wl_u rfl (ow_y (yh_assign rfl rfl) rfl rfl (kk_wl ?_))
            refine wl_u rfl (ow_y (yh_assign rfl rfl) rfl rfl (kk_wl ?_))
            refine wl_nil ?_
            refine ex_seq ?_
            refine cw_ret ?_
            obtain rfl := Option.some.inj h
            exact ex_r2 Tb rfl (.tmp rfl) (.tmp rfl) (fun wq hq => ⟨_, rfl, hq.ext, ⟨a36, c36, F36, rfl, NewC.sel [0] hq rfl⟩⟩)
        · refine ⟨_, rfl, rfl, ?_⟩
          refine (ow_litA Tb rfl rfl rfl rfl rfl rfl (by decide) rfl rfl (fun g35 => kk_wd [1, 2] (by kernel_rfl) ?_))
          obtain ⟨x33, hx33, h⟩ := bd h
          refine wd_one 1 rfl rfl (by kernel_rfl) (ow_cN1 rfl hb67 rfl (fun w hw => c_spec_l14Copy N _ _ hx33 w (Lay.at_ h_list_ hw)) rfl rfl (fun a33 c33 F33 => kk_wd [2, 3] (by kernel_rfl) ?_))
          obtain ⟨hll36, h⟩ := bd_appd h
          refine wd_one 4 rfl rfl (by kernel_rfl) (ow_chg (c' := owC flowL F18 [.int .i64 j108, .slice a18 x18.steps.length c18] (Flow.mk j108 x18.steps)) 3 rfl (fun w hA => flowL_mk (Flow.mk j108 x18.steps) hA) rfl (ow_appE Tb (i := 1) (j := 0) (k := 2) rfl rfl rfl rfl rfl rfl rfl rfl rfl rfl rfl (app1 hll36) (by decide) rfl rfl (fun a36 c36 F36 => kk_wdT rfl ?_)))
          refine wd_one 5 rfl rfl (by kernel_rfl) (ow_y (yh_assign rfl rfl) rfl rfl (kk_wdT rfl ?_))
          refine wd_done (by kernel_rfl) ?_
          refine ex_seq ?_
          refine cw_seq ?_
          refine cw_seq ?_
          refine cw_region ?_
          refine wl_u rfl (ow_y (yh_move rfl rfl) rfl rfl (kk_wl ?_))
          obtain ⟨x38, hx38, h⟩ := bd h
          refine wl_u rfl (ow_cV rfl hb65 rfl (fun w hw => c_spec_RegistryValid N _ _ hx38 w (rdo (A := flowsL) 0 rfl hw)) rfl rfl (kk_wl ?_))
          refine wl_u rfl (ow_y (yh_not rfl rfl) rfl rfl (kk_wl ?_))
          refine wl_nil ?_
          refine ex_seq ?_
          refine cw_split rfl (fun c4 => ?_) (fun c4 => ?_)
          · skip
            replace h := bt c4 h
            refine cw_seq ?_
            refine cw_region ?_
            refine wl_u rfl (ow_lit0 Tb rfl rfl rfl rfl rfl rfl (fun g40 => kk_chg (c' := owC flowsL [g40] [.slice (some ⟨g40, 0, none⟩) 0 0] ([] : List Flow)) 0 rfl (fun w hA => own_flowsL ([] : List Flow) hA rfl (by simp [maxLen])) rfl (kk_wl ?_)))
            refine wl_u rfl (ow_y (yh_assign rfl rfl) rfl rfl (kk_wl ?_))
            refine wl_u rfl (ow_y (yh_assign rfl rfl) rfl rfl (kk_wl ?_))
            refine wl_nil ?_
            refine ex_seq ?_
            refine cw_ret ?_
            refine ex_then_ret ?_
            obtain rfl := Option.some.inj h
            exact ex_r2 Tb rfl (.tmp rfl) (.tmp rfl) (fun wq hq => ⟨_, rfl, hq.ext, ⟨(some ⟨g40, 0, none⟩), 0, [g40], rfl, NewC.sel [0] hq rfl⟩⟩)
          · skip
            replace h := bf c4 h
            refine cw_skip ?_
            refine ex_seq ?_
            refine cw_seq ?_
            refine cw_region ?_
            refine wl_u rfl (ow_y (yh_move rfl rfl) rfl rfl (kk_wl ?_))
            refine wl_u rfl (ow_y (yh_assign rfl rfl) rfl rfl (kk_wl ?_))
            refine wl_u rfl (ow_y (yh_assign rfl rfl) rfl rfl (kk_wl ?_))
            refine wl_nil ?_
            refine ex_seq ?_
            refine cw_ret ?_
            obtain rfl := Option.some.inj h
            exact ex_r2 Tb rfl (.tmp rfl) (.tmp rfl) (fun wq hq => ⟨_, rfl, hq.ext, ⟨a36, c36, F36, rfl, NewC.sel [0] hq rfl⟩⟩)
      · skip
        have h := he108
        refine cw_seq ?_
        refine cw_region ?_
        refine wl_u rfl (ow_y (yh_move rfl rfl) rfl rfl (kk_wl ?_))
        refine wl_u rfl (ow_y (yh_lenS Tb rfl rfl rfl rfl) rfl rfl (kk_wl ?_))
        refine wl_u rfl (ow_y (yh_cmpI rfl rfl rfl rfl) rfl rfl (kk_wl ?_))
        refine wl_nil ?_
        refine ex_seq ?_
        refine cw_split rfl (fun c5 => ?_) (fun c5 => ?_)
        · skip
          replace h := bt c5 h
          have q1 := ltb_true.1 c5
          refine cw_region ?_
          refine wl_u rfl (ow_y (yh_move rfl rfl) rfl rfl (kk_wl ?_))
          refine wl_u rfl (ow_y (yh_move rfl rfl) rfl rfl (kk_wl ?_))
          refine wl_u rfl (ow_y (yh_lenS Tb rfl rfl rfl rfl) rfl rfl (kk_wl ?_))
          refine wl_u rfl (ow_y (yh_arI rfl rfl rfl rfl (by omega)) rfl rfl (kk_wl ?_))
          obtain ⟨y27, zy27, h⟩ := bd h
          obtain ⟨iy27, hy27⟩ := geti_some zy27
          obtain ⟨b27, o27, ha27⟩ := sl_addr h_list_ hy27
          subst ha27
          obtain ⟨a27, e27, hc27, hf27⟩ := get_flow h_list_ hy27
          have mx27 := rd_max hf27
          refine wl_u rfl (ow_y (yh_idx Tb (k := (((list_.length : Nat) : Int) - 1).toNat) rfl rfl rfl iy27 (get_lt hy27) rfl rfl) rfl rfl (kk_wl ?_))
          refine wl_u rfl (ow_y (yh_field Tb rfl rfl rfl) rfl rfl (kk_wl ?_))
          refine wl_u rfl (ow_y (yh_loadAF Tb (j := 0) rfl rfl rfl hc27 rfl) rfl rfl (kk_wl ?_))
          refine wl_u rfl (ow_y (yh_arW rfl rfl rfl rfl) rfl rfl (kk_wl ?_))
          refine wl_u rfl (ow_y (yh_field Tb rfl rfl rfl) rfl rfl (kk_wl ?_))
          refine wl_u rfl (ow_store1 Tb (k := 0) rfl rfl rfl rfl rfl rfl rfl rfl rfl (kk_wl ?_))
          refine wl_nil ?_
          obtain rfl := Option.some.inj h
          exact ex_next [0, 1] (hn108 () trivial) ⟨rfl, rfl, trivial⟩ (by kernel_rfl)
        · skip
          replace h := bf c5 h
          have q2 := ltb_false.1 c5
          refine cw_skip ?_
          obtain rfl := Option.some.inj h
          exact ex_next [0, 1] (hn108 () trivial) ⟨rfl, rfl, trivial⟩ (by kernel_rfl)

def m_impl_cloneFlows_L5 (N : Nat) (list_ : List Flow) : Nat → (List Flow) → Nat → Option (Ex (List Flow × Nat) (List Flow))
  | 0, _, _ => none
  | n + 1, s3, s8 => (bif ltb ((s8 : Nat) : Int) ((list_.length : Nat) : Int) then (list_[s8]?).bind fun y10 => (m_impl_Flow_clone N y10).bind fun x14 => (appd s3 [x14]).bind fun l16 => m_impl_cloneFlows_L5 N list_ n (s3 ++ [x14]) (s8 + 1)
 else some (Ex.brk (s3, s8)))

def m_impl_cloneFlows (N : Nat) (list_ : List Flow) : Option (List Flow) := (m_impl_cloneFlows_L5 N list_ N ([] : List Flow) 0).bind fun e5 => e5.go (fun r => r) fun b5 => some b5.1

set_option maxHeartbeats 4000000 in
theorem c_impl_cloneFlows (N : Nat) (list_ : List Flow) (res : List Flow) (h : m_impl_cloneFlows N list_ = some res) (w : World) {a_list_ : Option Addr} {c_list_ : Nat} (h_list_ : flowsL.rd w [] [.slice a_list_ list_.length c_list_] list_) : Ret Try.prog 64 [.slice a_list_ list_.length c_list_] w [] fun v w' => ∃ a1 c1 F1, v = .slice a1 res.length c1 ∧ NewC w w' [owC flowsL F1 [.slice a1 res.length c1] res] := by
  have mh_list_ := rd_max h_list_
  unfold m_impl_cloneFlows at h
  refine ret_enter Try.func64 rfl Try.ntmps64 rfl (Hp.refl w _) ?_
  refine cw_seq ?_
  refine cw_region ?_
  refine wl_u rfl (ow_y (yh_assign rfl rfl) rfl rfl (kk_wl ?_))
  refine wl_nil ?_
  refine ex_seq ?_
  refine cw_seq ?_
  refine cw_region ?_
  refine wl_u rfl (ow_y (yh_assign rfl rfl) rfl rfl (kk_wl ?_))
  refine wl_nil ?_
  refine ex_seq ?_
  refine cw_seq ?_
  refine cw_seq ?_
  refine cw_region ?_
  refine wl_u rfl (ow_y (yh_move rfl rfl) rfl rfl (kk_wl ?_))
  refine wl_u rfl (ow_y (yh_lenS Tb rfl rfl rfl rfl) rfl rfl (kk_wl ?_))
  refine wl_u rfl (ow_y (yh_move rfl rfl) rfl rfl (kk_wl ?_))
  refine wl_nil ?_
  refine ex_seq ?_
  refine cw_block ?_
  obtain ⟨e5, he5, hk5⟩ := bd h
  clear h
  refine cw_nilS flowsL rfl ?_
  refine cw_loopG (σ := Nat × (List Flow) × Nat × (Option Addr) × Nat × (List Nat)) (fun s => m_impl_cloneFlows_L5 N list_ s.1 s.2.1 s.2.2.1 = some e5) (fun s => [(3, .slice s.2.2.2.1 s.2.1.length s.2.2.2.2.1), (6, .slice a_list_ list_.length c_list_), (7, .int .i64 ((list_.length : Nat) : Int)), (8, .int .i64 ((s.2.2.1 : Nat) : Int))]) (fun s => [owC flowsL s.2.2.2.2.2 [.slice s.2.2.2.1 s.2.1.length s.2.2.2.2.1] s.2.1]) (fun s => s.1) (N, ([] : List Flow), 0, none, 0, []) [0] he5 ⟨rfl, rfl, rfl, rfl, trivial⟩ rfl (fun KL s he5 hn5 => ?_)
  obtain ⟨n5, s3, s8, as3, cs3, Fs3⟩ := s
  simp only at he5 hn5 ⊢
  rcases n5 with _ | n5
  · exact nosome he5
  have h := he5; rw [m_impl_cloneFlows_L5] at h
  refine cw_seq ?_
  refine cw_region ?_
  refine wl_u rfl (ow_y (yh_cmpI rfl rfl rfl rfl) rfl rfl (kk_wl ?_))
  refine wl_nil ?_
  refine ex_seq ?_
  refine cw_seq ?_
  refine cw_split rfl (fun c1 => ?_) (fun c1 => ?_)
  · skip
    replace h := bt c1 h
    have q1 := ltb_true.1 c1
    refine cw_skip ?_
    refine ex_seq ?_
    refine cw_seq ?_
    refine cw_block ?_
    refine cw_seq ?_
    refine cw_region ?_
    obtain ⟨y10, hy10, h⟩ := bd h
    obtain ⟨b10, o10, ha10⟩ := sl_addr h_list_ hy10
    subst ha10
    obtain ⟨a10, e10, hc10, hf10⟩ := get_flow h_list_ hy10
    have mx10 := rd_max hf10
    refine wl_u rfl (ow_y (yh_idx Tb (k := s8) rfl rfl rfl rfl (get_lt hy10) rfl rfl) rfl rfl (kk_wl ?_))
    refine wl_u rfl (ow_y (yh_loadAN Tb rfl rfl rfl rfl hc10 rfl) rfl rfl (kk_wl ?_))
    refine wl_u rfl (ow_allocA Tb rfl rfl rfl rfl (fun g5 => kk_wl ?_))
    refine wl_u rfl (ow_storeA Tb (k := 0) rfl rfl rfl rfl rfl rfl rfl rfl rfl (kk_wl ?_))
    refine wl_nil ?_
    refine ex_seq ?_
    refine cw_region ?_
    refine wl_u rfl (ow_y (yh_move rfl rfl) rfl rfl (kk_wl ?_))
    refine wl_u rfl (ow_y (yh_loadBA Tb (k := 0) rfl rfl rfl rfl rfl rfl) rfl rfl (kk_wl ?_))
    obtain ⟨x14, hx14, h⟩ := bd h
    refine wl_u rfl (ow_cN1 rfl hb63 rfl (fun w hw => c_impl_Flow_clone N _ _ hx14 w (Lay.at_ hf10 hw)) rfl rfl (fun a14 c14 F14 => kk_wl ?_))
    refine wl_u rfl (ow_litA Tb rfl rfl rfl rfl rfl rfl (by decide) rfl rfl (fun g15 => kk_wl ?_))
    obtain ⟨hll16, h⟩ := bd_appd h
    refine wl_u rfl (ow_chg (c' := owC flowL F14 [.int .i64 x14.ver, .slice a14 x14.steps.length c14] x14) 1 rfl (fun w hA => flowL_mk x14 hA) rfl (ow_appE Tb (i := 3) (j := 0) (k := 1) rfl rfl rfl rfl rfl rfl rfl rfl rfl rfl rfl (app1 hll16) (by decide) rfl rfl (fun a16 c16 F16 => kk_wl ?_)))
    refine wl_u rfl (ow_y (yh_assign rfl rfl) rfl rfl (kk_wl ?_))
    refine wl_nil ?_
    refine ex_block_normal ?_
    refine ex_seq ?_
    refine cw_region ?_
    refine wl_u rfl (ow_y (yh_arI rfl rfl rfl rfl (by omega)) rfl rfl (kk_wl ?_))
    refine wl_u rfl (ow_y (yh_move rfl rfl) rfl rfl (kk_wl ?_))
    refine wl_nil ?_
    exact ex_next [0] (hn5 (n5, (s3 ++ [x14]), s8 + 1, a16, c16, F16) (Nat.lt_succ_self _) h) ⟨rfl, rfl, rfl, rfl, trivial⟩ (by kernel_rfl)
  · skip
    replace h := bf c1 h
    have q2 := ltb_false.1 c1
    refine cw_exit ?_
    refine ex_then_exit ?_
    refine ex_then_exit ?_
    obtain rfl := Option.some.inj h
    have h := go_brk hk5
    refine ex_block_exit ?_
    refine ex_seq ?_
    refine cw_seq ?_
    refine cw_region ?_
    refine wl_u rfl (ow_y (yh_move rfl rfl) rfl rfl (kk_wl ?_))
    refine wl_u rfl (ow_y (yh_assign rfl rfl) rfl rfl (kk_wl ?_))
    refine wl_nil ?_
    refine ex_seq ?_
    refine cw_ret ?_
    obtain rfl := Option.some.inj h
    exact ex_r1 Tb rfl (.tmp rfl) (fun wq hq => ⟨_, rfl, hq.ext, ⟨as3, cs3, Fs3, rfl, NewC.sel [0] hq rfl⟩⟩)

def m_impl_RegistryPut (N : Nat) (list_ : List Flow) (f : Flow) : Option (List Flow × Bool) := (m_impl_RegistryValid N list_).bind fun x9 => (bif !x9 then some (([] : List Flow), false)
 else (m_impl_FlowValid N f).bind fun x13 => (bif !x13 then some (([] : List Flow), false)
 else (m_impl_Flow_clone N f).bind fun x17 => ((bif ltb 0 ((list_.length : Nat) : Int) then (geti list_ (((list_.length : Nat) : Int) - 1)).bind fun y26 => some (w64 (y26.ver + 1))
 else some 1) : Option (Int)).bind fun j108 => (m_impl_cloneFlows N list_).bind fun x32 => (appd x32 [(Flow.mk j108 x17.steps)]).bind fun l35 => (m_impl_RegistryValid N (x32 ++ [(Flow.mk j108 x17.steps)])).bind fun x37 => (bif !x37 then some (([] : List Flow), false)
 else some ((x32 ++ [(Flow.mk j108 x17.steps)]), true))))

set_option maxHeartbeats 4000000 in
theorem c_impl_RegistryPut (N : Nat) (list_ : List Flow) (f : Flow) (res : List Flow × Bool) (h : m_impl_RegistryPut N list_ f = some res) (w : World) {a_f_steps a_list_ : Option Addr} {c_f_steps c_list_ : Nat} (h_list_ : flowsL.rd w [] [.slice a_list_ list_.length c_list_] list_) (h_f_steps : stepsL.rd w [] [.slice a_f_steps f.steps.length c_f_steps] f.steps) : Ret Try.prog 16 [.slice a_list_ list_.length c_list_, .agg #[.int .i64 f.ver, .slice a_f_steps f.steps.length c_f_steps]] w [] fun v w' => ∃ a1 c1 F1, v = .tuple #[.slice a1 res.1.length c1, .bool res.2] ∧ NewC w w' [owC flowsL F1 [.slice a1 res.1.length c1] res.1] := by
  have mh_list_ := rd_max h_list_
  have mh_f_steps := rd_max h_f_steps
  unfold m_impl_RegistryPut at h
  refine ret_enter Try.func16 rfl Try.ntmps16 rfl (Hp.refl w _) ?_
  refine cw_seq ?_
  refine cw_region ?_
  refine wl_u rfl (ow_boxA rfl rfl rfl rfl (fun g3 => kk_wl ?_))
  refine wl_u rfl (ow_y (yh_assign rfl rfl) rfl rfl (kk_wl ?_))
  refine wl_u rfl (ow_y (yh_assign rfl rfl) rfl rfl (kk_wl ?_))
  refine wl_nil ?_
  refine ex_seq ?_
  refine cw_seq ?_
  refine cw_seq ?_
  refine cw_region ?_
  refine wl_u rfl (ow_y (yh_move rfl rfl) rfl rfl (kk_wl ?_))
  obtain ⟨x9, hx9, h⟩ := bd h
  refine wl_u rfl (ow_cV rfl hb19 rfl (fun w hw => c_impl_RegistryValid N _ _ hx9 w (Lay.at_ h_list_ hw)) rfl rfl (kk_wl ?_))
  refine wl_u rfl (ow_y (yh_not rfl rfl) rfl rfl (kk_wl ?_))
  refine wl_u rfl (ow_y (yh_move rfl rfl) rfl rfl (kk_wl ?_))
  refine wl_s rfl rfl (fun c1 => ?_) (fun c1 => ?_)
  · skip
    replace h := bt c1 h
    refine wl_n rfl rfl rfl rfl ?_
    refine wl_n rfl rfl rfl rfl ?_
    refine wl_n rfl rfl rfl rfl ?_
    refine wl_u rfl (ow_y (yh_pickT rfl rfl rfl) rfl rfl (kk_wl ?_))
    refine wl_nil ?_
    refine ex_seq ?_
    refine cw_true rfl ?_
    refine cw_seq ?_
    refine cw_region ?_
    refine wl_u rfl (ow_y (yh_assign rfl rfl) rfl rfl (kk_wl ?_))
    refine wl_u rfl (ow_y (yh_assign rfl rfl) rfl rfl (kk_wl ?_))
    refine wl_nil ?_
    refine ex_seq ?_
    refine cw_ret ?_
    refine ex_then_ret ?_
    refine ex_nilS flowsL rfl ?_
    obtain rfl := Option.some.inj h
    exact ex_r2 Tb rfl (.tmp rfl) (.tmp rfl) (fun wq hq => ⟨_, rfl, hq.ext, ⟨none, 0, [], rfl, NewC.sel [0] hq rfl⟩⟩)
  · skip
    replace h := bf c1 h
    refine wl_g rfl rfl (ow_y (yh_loadBA Tb (k := 0) rfl rfl rfl rfl rfl rfl) rfl rfl (kk_wl ?_))
    obtain ⟨x13, hx13, h⟩ := bd h
    refine wl_g rfl rfl (ow_cV rfl hb62 rfl (fun w hw => c_impl_FlowValid N _ _ hx13 w (Lay.at_ h_f_steps hw)) rfl rfl (kk_wl ?_))
    refine wl_g rfl rfl (ow_y (yh_not rfl rfl) rfl rfl (kk_wl ?_))
    refine wl_u rfl (ow_y (yh_pickF rfl rfl rfl) rfl rfl (kk_wl ?_))
    refine wl_nil ?_
    refine ex_seq ?_
    refine cw_split rfl (fun c2 => ?_) (fun c2 => ?_)
    · skip
      replace h := bt c2 h
      refine cw_seq ?_
      refine cw_region ?_
      refine wl_u rfl (ow_y (yh_assign rfl rfl) rfl rfl (kk_wl ?_))
      refine wl_u rfl (ow_y (yh_assign rfl rfl) rfl rfl (kk_wl ?_))
      refine wl_nil ?_
      refine ex_seq ?_
      refine cw_ret ?_
      refine ex_then_ret ?_
      refine ex_nilS flowsL rfl ?_
      obtain rfl := Option.some.inj h
      exact ex_r2 Tb rfl (.tmp rfl) (.tmp rfl) (fun wq hq => ⟨_, rfl, hq.ext, ⟨none, 0, [], rfl, NewC.sel [0] hq rfl⟩⟩)
    · skip
      replace h := bf c2 h
      refine cw_skip ?_
      refine ex_seq ?_
      refine cw_seq ?_
      refine cw_region ?_
      refine wl_u rfl (ow_y (yh_loadBA Tb (k := 0) rfl rfl rfl rfl rfl rfl) rfl rfl (kk_wl ?_))
      obtain ⟨x17, hx17, h⟩ := bd h
      refine wl_u rfl (ow_cN1 rfl hb63 rfl (fun w hw => c_impl_Flow_clone N _ _ hx17 w (Lay.at_ h_f_steps hw)) rfl rfl (fun a17 c17 F17 => kk_wl ?_))
      refine wl_u rfl (ow_allocA Tb rfl rfl rfl rfl (fun g6 => kk_wl ?_))
      refine wl_u rfl (ow_storeA Tb (k := 0) rfl rfl rfl rfl rfl rfl rfl rfl rfl (kk_wl ?_))
      refine wl_nil ?_
      refine ex_seq ?_
      refine cw_seq ?_
      refine cw_region ?_
      refine wl_u rfl (ow_y (yh_field Tb rfl rfl rfl) rfl rfl (kk_wl ?_))
      refine wl_u rfl (ow_store1 Tb (k := 0) rfl rfl rfl rfl rfl rfl rfl rfl rfl (kk_wl ?_))
      refine wl_nil ?_
      refine ex_seq ?_
      obtain ⟨j108, he108, hk108⟩ := bd h
      clear h
      refine cw_cut (σ := Unit) (fun s => True) (fun s => [(0, .slice a_list_ list_.length c_list_), (6, .pointer (some ⟨g6, 0, none⟩))]) (fun s => [blkC g6 26 [.int .i64 j108, .slice a17 x17.steps.length c17], owC stepsL F17 [.slice a17 x17.steps.length c17] x17.steps]) (fun s hI => ?_) (fun KL hn108 => ?_)
      · skip
        have h := hk108
        refine cw_seq ?_
        refine cw_dr [0, 2] [4, 5] [blkC g6 26 [.int .i64 j108, .slice a17 x17.steps.length c17], owC stepsL F17 [.slice a17 x17.steps.length c17] x17.steps] (by kernel_rfl) ?_
        refine wd_take (i := 0) [0, 1] rfl rfl rfl rfl rfl (by kernel_rfl) (by kernel_rfl) (fun _ _ _ _ h => h) (yh_move rfl rfl) ?_
        refine wd_take (i := 2) [0, 1] rfl rfl rfl rfl rfl (by kernel_rfl) (by kernel_rfl) (fun _ _ _ _ h => h) (yh_loadBA Tb (k := 0) rfl rfl rfl rfl rfl rfl) ?_
        refine wd_all [1, 3] (by kernel_rfl) (by simp) (fun i hi => ?_)
        simp only [List.mem_cons, List.not_mem_nil, or_false] at hi
        rcases hi with rfl | rfl
        · refine ⟨_, rfl, rfl, ?_⟩
          obtain ⟨x32, hx32, h⟩ := bd h
          refine (ow_cN1 rfl hb64 rfl (fun w hw => c_impl_cloneFlows N _ _ hx32 w (Lay.at_ h_list_ hw)) rfl rfl (fun a32 c32 F32 => kk_wd [1, 2] (by kernel_rfl) ?_))
          refine wd_one 3 rfl rfl (by kernel_rfl) (ow_litA Tb rfl rfl rfl rfl rfl rfl (by decide) rfl rfl (fun g34 => kk_wd [2, 3] (by kernel_rfl) ?_))
          obtain ⟨hll35, h⟩ := bd_appd h
          refine wd_one 4 rfl rfl (by kernel_rfl) (ow_chg (c' := owC flowL F17 [.int .i64 j108, .slice a17 x17.steps.length c17] (Flow.mk j108 x17.steps)) 3 rfl (fun w hA => flowL_mk (Flow.mk j108 x17.steps) hA) rfl (ow_appE Tb (i := 2) (j := 0) (k := 1) rfl rfl rfl rfl rfl rfl rfl rfl rfl rfl rfl (app1 hll35) (by decide) rfl rfl (fun a35 c35 F35 => kk_wdT rfl ?_)))
          refine wd_one 5 rfl rfl (by kernel_rfl) (ow_y (yh_assign rfl rfl) rfl rfl (kk_wdT rfl ?_))
          refine wd_done (by kernel_rfl) ?_
          refine ex_seq ?_
          refine cw_seq ?_
          refine cw_seq ?_
          refine cw_region ?_
          refine wl_u rfl (ow_y (yh_move rfl rfl) rfl rfl (kk_wl ?_))
          obtain ⟨x37, hx37, h⟩ := bd h
          refine wl_u rfl (ow_cV rfl hb19 rfl (fun w hw => c_impl_RegistryValid N _ _ hx37 w (rdo (A := flowsL) 0 rfl hw)) rfl rfl (kk_wl ?_))
          refine wl_u rfl (ow_y (yh_not rfl rfl) rfl rfl (kk_wl ?_))
          refine wl_nil ?_
          refine ex_seq ?_
          refine cw_split rfl (fun c3 => ?_) (fun c3 => ?_)
          · skip
            replace h := bt c3 h
            refine cw_seq ?_
            refine cw_region ?_
            refine wl_u rfl (ow_y (yh_assign rfl rfl) rfl rfl (kk_wl ?_))
            refine wl_u rfl (ow_y (yh_assign rfl rfl) rfl rfl (kk_wl ?_))
            refine wl_nil ?_
            refine ex_seq ?_
            refine cw_ret ?_
            refine ex_then_ret ?_
            refine ex_nilS flowsL rfl ?_
            obtain rfl := Option.some.inj h
            exact ex_r2 Tb rfl (.tmp rfl) (.tmp rfl) (fun wq hq => ⟨_, rfl, hq.ext, ⟨none, 0, [], rfl, NewC.sel [0] hq rfl⟩⟩)
          · skip
            replace h := bf c3 h
            refine cw_skip ?_
            refine ex_seq ?_
            refine cw_seq ?_
            refine cw_region ?_
            refine wl_u rfl (ow_y (yh_move rfl rfl) rfl rfl (kk_wl ?_))
            refine wl_u rfl (ow_y (yh_assign rfl rfl) rfl rfl (kk_wl ?_))
            refine wl_u rfl (ow_y (yh_assign rfl rfl) rfl rfl (kk_wl ?_))
            refine wl_nil ?_
            refine ex_seq ?_
            refine cw_ret ?_
            obtain rfl := Option.some.inj h
            exact ex_r2 Tb rfl (.tmp rfl) (.tmp rfl) (fun wq hq => ⟨_, rfl, hq.ext, ⟨a35, c35, F35, rfl, NewC.sel [0] hq rfl⟩⟩)
        · refine ⟨_, rfl, rfl, ?_⟩
          refine (ow_litA Tb rfl rfl rfl rfl rfl rfl (by decide) rfl rfl (fun g34 => kk_wd [1, 2] (by kernel_rfl) ?_))
          obtain ⟨x32, hx32, h⟩ := bd h
          refine wd_one 1 rfl rfl (by kernel_rfl) (ow_cN1 rfl hb64 rfl (fun w hw => c_impl_cloneFlows N _ _ hx32 w (Lay.at_ h_list_ hw)) rfl rfl (fun a32 c32 F32 => kk_wd [2, 3] (by kernel_rfl) ?_))
          obtain ⟨hll35, h⟩ := bd_appd h
          refine wd_one 4 rfl rfl (by kernel_rfl) (ow_chg (c' := owC flowL F17 [.int .i64 j108, .slice a17 x17.steps.length c17] (Flow.mk j108 x17.steps)) 3 rfl (fun w hA => flowL_mk (Flow.mk j108 x17.steps) hA) rfl (ow_appE Tb (i := 1) (j := 0) (k := 2) rfl rfl rfl rfl rfl rfl rfl rfl rfl rfl rfl (app1 hll35) (by decide) rfl rfl (fun a35 c35 F35 => kk_wdT rfl ?_)))
          refine wd_one 5 rfl rfl (by kernel_rfl) (ow_y (yh_assign rfl rfl) rfl rfl (kk_wdT rfl ?_))
          refine wd_done (by kernel_rfl) ?_
          refine ex_seq ?_
          refine cw_seq ?_
          refine cw_seq ?_
          refine cw_region ?_
          refine wl_u rfl (ow_y (yh_move rfl rfl) rfl rfl (kk_wl ?_))
          obtain ⟨x37, hx37, h⟩ := bd h
          refine wl_u rfl (ow_cV rfl hb19 rfl (fun w hw => c_impl_RegistryValid N _ _ hx37 w (rdo (A := flowsL) 0 rfl hw)) rfl rfl (kk_wl ?_))
          refine wl_u rfl (ow_y (yh_not rfl rfl) rfl rfl (kk_wl ?_))
          refine wl_nil ?_
          refine ex_seq ?_
          refine cw_split rfl (fun c4 => ?_) (fun c4 => ?_)
          · skip
            replace h := bt c4 h
            refine cw_seq ?_
            refine cw_region ?_
            refine wl_u rfl (ow_y (yh_assign rfl rfl) rfl rfl (kk_wl ?_))
            refine wl_u rfl (ow_y (yh_assign rfl rfl) rfl rfl (kk_wl ?_))
            refine wl_nil ?_
            refine ex_seq ?_
            refine cw_ret ?_
            refine ex_then_ret ?_
            refine ex_nilS flowsL rfl ?_
            obtain rfl := Option.some.inj h
            exact ex_r2 Tb rfl (.tmp rfl) (.tmp rfl) (fun wq hq => ⟨_, rfl, hq.ext, ⟨none, 0, [], rfl, NewC.sel [0] hq rfl⟩⟩)
          · skip
            replace h := bf c4 h
            refine cw_skip ?_
            refine ex_seq ?_
            refine cw_seq ?_
            refine cw_region ?_
            refine wl_u rfl (ow_y (yh_move rfl rfl) rfl rfl (kk_wl ?_))
            refine wl_u rfl (ow_y (yh_assign rfl rfl) rfl rfl (kk_wl ?_))
            refine wl_u rfl (ow_y (yh_assign rfl rfl) rfl rfl (kk_wl ?_))
            refine wl_nil ?_
            refine ex_seq ?_
            refine cw_ret ?_
            obtain rfl := Option.some.inj h
            exact ex_r2 Tb rfl (.tmp rfl) (.tmp rfl) (fun wq hq => ⟨_, rfl, hq.ext, ⟨a35, c35, F35, rfl, NewC.sel [0] hq rfl⟩⟩)
      · skip
        have h := he108
        refine cw_seq ?_
        refine cw_region ?_
        refine wl_u rfl (ow_y (yh_move rfl rfl) rfl rfl (kk_wl ?_))
        refine wl_u rfl (ow_y (yh_lenS Tb rfl rfl rfl rfl) rfl rfl (kk_wl ?_))
        refine wl_u rfl (ow_y (yh_cmpI rfl rfl rfl rfl) rfl rfl (kk_wl ?_))
        refine wl_nil ?_
        refine ex_seq ?_
        refine cw_split rfl (fun c5 => ?_) (fun c5 => ?_)
        · skip
          replace h := bt c5 h
          have q1 := ltb_true.1 c5
          refine cw_region ?_
          refine wl_u rfl (ow_y (yh_move rfl rfl) rfl rfl (kk_wl ?_))
          refine wl_u rfl (ow_y (yh_move rfl rfl) rfl rfl (kk_wl ?_))
          refine wl_u rfl (ow_y (yh_lenS Tb rfl rfl rfl rfl) rfl rfl (kk_wl ?_))
          refine wl_u rfl (ow_y (yh_arI rfl rfl rfl rfl (by omega)) rfl rfl (kk_wl ?_))
          obtain ⟨y26, zy26, h⟩ := bd h
          obtain ⟨iy26, hy26⟩ := geti_some zy26
          obtain ⟨b26, o26, ha26⟩ := sl_addr h_list_ hy26
          subst ha26
          obtain ⟨a26, e26, hc26, hf26⟩ := get_flow h_list_ hy26
          have mx26 := rd_max hf26
          refine wl_u rfl (ow_y (yh_idx Tb (k := (((list_.length : Nat) : Int) - 1).toNat) rfl rfl rfl iy26 (get_lt hy26) rfl rfl) rfl rfl (kk_wl ?_))
          refine wl_u rfl (ow_y (yh_field Tb rfl rfl rfl) rfl rfl (kk_wl ?_))
          refine wl_u rfl (ow_y (yh_loadAF Tb (j := 0) rfl rfl rfl hc26 rfl) rfl rfl (kk_wl ?_))
          refine wl_u rfl (ow_y (yh_arW rfl rfl rfl rfl) rfl rfl (kk_wl ?_))
          refine wl_u rfl (ow_y (yh_field Tb rfl rfl rfl) rfl rfl (kk_wl ?_))
          refine wl_u rfl (ow_store1 Tb (k := 0) rfl rfl rfl rfl rfl rfl rfl rfl rfl (kk_wl ?_))
          refine wl_nil ?_
          obtain rfl := Option.some.inj h
          exact ex_next [0, 1] (hn108 () trivial) ⟨rfl, rfl, trivial⟩ (by kernel_rfl)
        · skip
          replace h := bf c5 h
          have q2 := ltb_false.1 c5
          refine cw_skip ?_
          obtain rfl := Option.some.inj h
          exact ex_next [0, 1] (hn108 () trivial) ⟨rfl, rfl, trivial⟩ (by kernel_rfl)

def m_laws_heldFlowS_L4 (N : Nat) (a : List Flow) : Nat → Int → Nat → Option (Ex (Int × Nat) (Int))
  | 0, _, _ => none
  | n + 1, s1, s5 => (bif ltb ((s5 : Nat) : Int) ((a.length : Nat) : Int) then (a[s5]?).bind fun y14 => (bif !(eqb y14.ver s1) then some (Ex.ret (-1))
 else (m_laws_heldStepS N y14.steps (w64 (s1 + 1))).bind fun x27 => (bif ltb x27 0 then some (Ex.ret (-1))
 else m_laws_heldFlowS_L4 N a n x27 (s5 + 1)))
 else some (Ex.brk (s1, s5)))

def m_laws_heldFlowS (N : Nat) (a : List Flow) (k : Int) : Option (Int) := (m_laws_heldFlowS_L4 N a N k 0).bind fun e4 => e4.go (fun r => r) fun b4 => some b4.1

set_option maxHeartbeats 4000000 in
theorem c_laws_heldFlowS (N : Nat) (a : List Flow) (k : Int) (res : Int) (h : m_laws_heldFlowS N a k = some res) (w : World) {a_a : Option Addr} {c_a : Nat} (h_a : flowsL.rd w [] [.slice a_a a.length c_a] a) : Ret Try.prog 39 [.slice a_a a.length c_a, .int .i64 k] w [] fun v w' => v = .int .i64 res := by
  have mh_a := rd_max h_a
  unfold m_laws_heldFlowS at h
  refine ret_enter Try.func39 rfl Try.ntmps39 rfl (Hp.refl w _) ?_
  refine cw_seq ?_
  refine cw_region ?_
  refine wl_u rfl (ow_y (yh_assign rfl rfl) rfl rfl (kk_wl ?_))
  refine wl_nil ?_
  refine ex_seq ?_
  refine cw_seq ?_
  refine cw_seq ?_
  refine cw_region ?_
  refine wl_u rfl (ow_y (yh_assign rfl rfl) rfl rfl (kk_wl ?_))
  refine wl_nil ?_
  refine ex_seq ?_
  refine cw_block ?_
  obtain ⟨e4, he4, hk4⟩ := bd h
  clear h
  refine cw_loopG (σ := Nat × Int × Nat) (fun s => m_laws_heldFlowS_L4 N a s.1 s.2.1 s.2.2 = some e4) (fun s => [(0, .slice a_a a.length c_a), (1, .int .i64 s.2.1), (5, .int .i64 ((s.2.2 : Nat) : Int))]) (fun s => []) (fun s => s.1) (N, k, 0) [] he4 ⟨rfl, rfl, rfl, trivial⟩ rfl (fun KL s he4 hn4 => ?_)
  obtain ⟨n4, s1, s5⟩ := s
  simp only at he4 hn4 ⊢
  rcases n4 with _ | n4
  · exact nosome he4
  have h := he4; rw [m_laws_heldFlowS_L4] at h
  refine cw_seq ?_
  refine cw_seq ?_
  refine cw_region ?_
  refine wl_u rfl (ow_y (yh_move rfl rfl) rfl rfl (kk_wl ?_))
  refine wl_u rfl (ow_y (yh_move rfl rfl) rfl rfl (kk_wl ?_))
  refine wl_u rfl (ow_y (yh_lenS Tb rfl rfl rfl rfl) rfl rfl (kk_wl ?_))
  refine wl_u rfl (ow_y (yh_cmpI rfl rfl rfl rfl) rfl rfl (kk_wl ?_))
  refine wl_nil ?_
  refine ex_seq ?_
  refine cw_split rfl (fun c1 => ?_) (fun c1 => ?_)
  · skip
    replace h := bt c1 h
    have q1 := ltb_true.1 c1
    refine cw_skip ?_
    refine ex_seq ?_
    refine cw_seq ?_
    refine cw_block ?_
    refine cw_seq ?_
    refine cw_seq ?_
    refine cw_region ?_
    refine wl_u rfl (ow_y (yh_move rfl rfl) rfl rfl (kk_wl ?_))
    refine wl_u rfl (ow_y (yh_move rfl rfl) rfl rfl (kk_wl ?_))
    obtain ⟨y14, hy14, h⟩ := bd h
    obtain ⟨b14, o14, ha14⟩ := sl_addr h_a hy14
    subst ha14
    obtain ⟨a14, e14, hc14, hf14⟩ := get_flow h_a hy14
    have mx14 := rd_max hf14
    refine wl_u rfl (ow_y (yh_idx Tb (k := s5) rfl rfl rfl rfl (get_lt hy14) rfl rfl) rfl rfl (kk_wl ?_))
    refine wl_u rfl (ow_y (yh_field Tb rfl rfl rfl) rfl rfl (kk_wl ?_))
    refine wl_u rfl (ow_y (yh_loadAF Tb (j := 0) rfl rfl rfl hc14 rfl) rfl rfl (kk_wl ?_))
    refine wl_u rfl (ow_y (yh_move rfl rfl) rfl rfl (kk_wl ?_))
    refine wl_u rfl (ow_y (yh_cmpI rfl rfl rfl rfl) rfl rfl (kk_wl ?_))
    refine wl_nil ?_
    refine ex_seq ?_
    refine cw_split rfl (fun c2 => ?_) (fun c2 => ?_)
    · skip
      replace h := bt c2 h
      have q2 := eqb_false.1 (nt c2)
      refine cw_seq ?_
      refine cw_region ?_
      refine wl_u rfl (ow_y (yh_assign rfl rfl) rfl rfl (kk_wl ?_))
      refine wl_nil ?_
      refine ex_seq ?_
      refine cw_ret ?_
      refine ex_then_ret ?_
      refine ex_block_ret ?_
      refine ex_then_ret ?_
      refine ex_then_ret ?_
      refine ex_block_ret ?_
      refine ex_then_ret ?_
      obtain rfl := Option.some.inj h
      obtain rfl := go_ret hk4
      exact ex_r1 Tb rfl (.tmp rfl) (fun wq hq => ⟨_, rfl, hq.ext, rfl⟩)
    · skip
      replace h := bf c2 h
      have q3 := eqb_true.1 (nf c2)
      refine cw_skip ?_
      refine ex_seq ?_
      refine cw_seq ?_
      refine cw_region ?_
      refine wl_u rfl (ow_y (yh_move rfl rfl) rfl rfl (kk_wl ?_))
      refine wl_u rfl (ow_y (yh_arW rfl rfl rfl rfl) rfl rfl (kk_wl ?_))
      refine wl_u rfl (ow_y (yh_assign rfl rfl) rfl rfl (kk_wl ?_))
      refine wl_nil ?_
      refine ex_seq ?_
      refine cw_seq ?_
      refine cw_region ?_
      refine wl_u rfl (ow_y (yh_move rfl rfl) rfl rfl (kk_wl ?_))
      refine wl_u rfl (ow_y (yh_move rfl rfl) rfl rfl (kk_wl ?_))
      refine wl_u rfl (ow_y (yh_idx Tb (k := s5) rfl rfl rfl rfl (get_lt hy14) rfl rfl) rfl rfl (kk_wl ?_))
      refine wl_u rfl (ow_y (yh_field Tb rfl rfl rfl) rfl rfl (kk_wl ?_))
      refine wl_u rfl (ow_y (yh_loadAF Tb (j := 1) rfl rfl rfl hc14 rfl) rfl rfl (kk_wl ?_))
      refine wl_u rfl (ow_y (yh_move rfl rfl) rfl rfl (kk_wl ?_))
      obtain ⟨x27, hx27, h⟩ := bd h
      refine wl_u rfl (ow_cV rfl hb85 rfl (fun w hw => c_laws_heldStepS N _ _ _ hx27 w (Lay.at_ hf14 hw)) rfl rfl (kk_wl ?_))
      refine wl_u rfl (ow_y (yh_assign rfl rfl) rfl rfl (kk_wl ?_))
      refine wl_nil ?_
      refine ex_seq ?_
      refine cw_seq ?_
      refine cw_region ?_
      refine wl_u rfl (ow_y (yh_move rfl rfl) rfl rfl (kk_wl ?_))
      refine wl_u rfl (ow_y (yh_cmpI rfl rfl rfl rfl) rfl rfl (kk_wl ?_))
      refine wl_nil ?_
      refine ex_seq ?_
      refine cw_split rfl (fun c3 => ?_) (fun c3 => ?_)
      · skip
        replace h := bt c3 h
        have q4 := ltb_true.1 c3
        refine cw_seq ?_
        refine cw_region ?_
        refine wl_u rfl (ow_y (yh_assign rfl rfl) rfl rfl (kk_wl ?_))
        refine wl_nil ?_
        refine ex_seq ?_
        refine cw_ret ?_
        refine ex_block_ret ?_
        refine ex_then_ret ?_
        refine ex_then_ret ?_
        refine ex_block_ret ?_
        refine ex_then_ret ?_
        obtain rfl := Option.some.inj h
        obtain rfl := go_ret hk4
        exact ex_r1 Tb rfl (.tmp rfl) (fun wq hq => ⟨_, rfl, hq.ext, rfl⟩)
      · skip
        replace h := bf c3 h
        have q5 := ltb_false.1 c3
        refine cw_skip ?_
        refine ex_block_normal ?_
        refine ex_seq ?_
        refine cw_region ?_
        refine wl_u rfl (ow_y (yh_move rfl rfl) rfl rfl (kk_wl ?_))
        refine wl_u rfl (ow_y (yh_arI rfl rfl rfl rfl (by omega)) rfl rfl (kk_wl ?_))
        refine wl_u rfl (ow_y (yh_assign rfl rfl) rfl rfl (kk_wl ?_))
        refine wl_nil ?_
        exact ex_next [] (hn4 (n4, x27, s5 + 1) (Nat.lt_succ_self _) h) ⟨rfl, rfl, rfl, trivial⟩ (by kernel_rfl)
  · skip
    replace h := bf c1 h
    have q6 := ltb_false.1 c1
    refine cw_exit ?_
    refine ex_then_exit ?_
    refine ex_then_exit ?_
    obtain rfl := Option.some.inj h
    have h := go_brk hk4
    refine ex_block_exit ?_
    refine ex_seq ?_
    refine cw_seq ?_
    refine cw_region ?_
    refine wl_u rfl (ow_y (yh_move rfl rfl) rfl rfl (kk_wl ?_))
    refine wl_u rfl (ow_y (yh_assign rfl rfl) rfl rfl (kk_wl ?_))
    refine wl_nil ?_
    refine ex_seq ?_
    refine cw_ret ?_
    obtain rfl := Option.some.inj h
    exact ex_r1 Tb rfl (.tmp rfl) (fun wq hq => ⟨_, rfl, hq.ext, rfl⟩)

def m_laws_FnExactRegistryPut (N : Nat) (u0 : List Flow) (u1 : Flow) : Option (Bool) := (m_laws_szFlowS N u0 1048576).bind fun x19 => (bif ltb x19 0 then some true
 else (m_laws_szFlow N u1 x19).bind fun x24 => (bif ltb x24 0 then some true
 else ((m_laws_toFlowS N u0).bind fun x29 => (m_laws_toFlow N u1).bind fun x31 => (m_spec_RegistryPut N x29 x31).bind fun x32 => some (x32.1, x32.2) : Option ((List Flow) × Bool)).bind fun j111 => (m_laws_toFlowS N u0).bind fun x36 => (m_laws_toFlow N u1).bind fun x38 => (m_impl_RegistryPut N x36 x38).bind fun x42 => (m_laws_eqFlowS N x42.1 j111.1).bind fun x47 => (bif !x47 then some false
 else (bif x42.2 != j111.2 then some false
 else (m_laws_toFlowS N u0).bind fun x56 => (m_laws_eqFlowS N x36 x56).bind fun x57 => (bif !x57 then some false
 else ((m_laws_toFlow N u1).bind fun x61 => (m_laws_eqFlow N x38 x61).bind fun x62 => (bif !x62 then some (Ex.ret false)
 else some (Ex.brk ())) : Option (Ex (Unit) (Bool))).bind fun e123 => e123.go (fun r => r) fun j123 => (m_laws_markFlowS N x36 1).bind fun x66 => (m_laws_markFlow N x38 x66.1).bind fun x69 => (bif ltb x69.1 0 then some false
 else (m_laws_eqFlowS N x42.1 j111.1).bind fun x75 => (bif !x75 then some false
 else (m_laws_markFlowS N x42.1 1).bind fun x85 => (m_laws_heldFlowS N x85.2 1).bind fun x88 => (bif ltb x88 0 then some false
 else (bif !(eqb x88 x85.1) then some false
 else ((m_laws_toFlowS N u0).bind fun x96 => (m_laws_toFlow N u1).bind fun x98 => (m_impl_RegistryPut N x96 x98).bind fun x99 => some (x99.1, x99.2) : Option ((List Flow) × Bool)).bind fun j144 => (m_laws_eqFlowS N j144.1 j111.1).bind fun x104 => (bif !x104 then some false
 else (bif j144.2 != j111.2 then some false
 else (m_laws_heldFlowS N x85.2 1).bind fun x113 => (bif ltb x113 0 then some false
 else (bif !(eqb x113 x85.1) then some false
 else some true)))))))))))))

set_option maxHeartbeats 4000000 in
theorem c_laws_FnExactRegistryPut (N : Nat) (u0 : List Flow) (u1 : Flow) (res : Bool) (h : m_laws_FnExactRegistryPut N u0 u1 = some res) (w : World) {a_u0 a_u1_steps : Option Addr} {c_u0 c_u1_steps : Nat} (h_u0 : flowsL.rd w [] [.slice a_u0 u0.length c_u0] u0) (h_u1_steps : stepsL.rd w [] [.slice a_u1_steps u1.steps.length c_u1_steps] u1.steps) : Ret Try.prog 9 [.slice a_u0 u0.length c_u0, .agg #[.int .i64 u1.ver, .slice a_u1_steps u1.steps.length c_u1_steps]] w [] fun v w' => v = .bool res := by
  have mh_u0 := rd_max h_u0
  have mh_u1_steps := rd_max h_u1_steps
  unfold m_laws_FnExactRegistryPut at h
  refine ret_enter Try.func9 rfl Try.ntmps9 rfl (Hp.refl w _) ?_
  refine cw_seq ?_
  refine cw_region ?_
  refine wl_u rfl (ow_boxA rfl rfl rfl rfl (fun g3 => kk_wl ?_))
  refine wl_u rfl (ow_y (yh_assign rfl rfl) rfl rfl (kk_wl ?_))
  refine wl_nil ?_
  refine ex_seq ?_
  refine cw_seq ?_
  refine cw_region ?_
  refine wl_u rfl (ow_y (yh_assign rfl rfl) rfl rfl (kk_wl ?_))
  refine wl_nil ?_
  refine ex_seq ?_
  refine cw_seq ?_
  refine cw_region ?_
  refine wl_u rfl (ow_y (yh_move rfl rfl) rfl rfl (kk_wl ?_))
  refine wl_u rfl (ow_y (yh_move rfl rfl) rfl rfl (kk_wl ?_))
  obtain ⟨x19, hx19, h⟩ := bd h
  refine wl_u rfl (ow_cV rfl hb29 rfl (fun w hw => c_laws_szFlowS N _ _ _ hx19 w (Lay.at_ h_u0 hw)) rfl rfl (kk_wl ?_))
  refine wl_u rfl (ow_y (yh_assign rfl rfl) rfl rfl (kk_wl ?_))
  refine wl_nil ?_
  refine ex_seq ?_
  refine cw_seq ?_
  refine cw_seq ?_
  refine cw_region ?_
  refine wl_u rfl (ow_y (yh_move rfl rfl) rfl rfl (kk_wl ?_))
  refine wl_u rfl (ow_y (yh_cmpI rfl rfl rfl rfl) rfl rfl (kk_wl ?_))
  refine wl_nil ?_
  refine ex_seq ?_
  refine cw_split rfl (fun c1 => ?_) (fun c1 => ?_)
  · skip
    replace h := bt c1 h
    have q1 := ltb_true.1 c1
    refine cw_seq ?_
    refine cw_region ?_
    refine wl_u rfl (ow_y (yh_assign rfl rfl) rfl rfl (kk_wl ?_))
    refine wl_nil ?_
    refine ex_seq ?_
    refine cw_ret ?_
    refine ex_then_ret ?_
    obtain rfl := Option.some.inj h
    exact ex_r1 Tb rfl (.tmp rfl) (fun wq hq => ⟨_, rfl, hq.ext, rfl⟩)
  · skip
    replace h := bf c1 h
    have q2 := ltb_false.1 c1
    refine cw_skip ?_
    refine ex_seq ?_
    refine cw_seq ?_
    refine cw_region ?_
    refine wl_u rfl (ow_y (yh_loadBA Tb (k := 0) rfl rfl rfl rfl rfl rfl) rfl rfl (kk_wl ?_))
    refine wl_u rfl (ow_y (yh_move rfl rfl) rfl rfl (kk_wl ?_))
    obtain ⟨x24, hx24, h⟩ := bd h
    refine wl_u rfl (ow_cV rfl hb37 rfl (fun w hw => c_laws_szFlow N _ _ _ hx24 w (Lay.at_ h_u1_steps hw)) rfl rfl (kk_wl ?_))
    refine wl_u rfl (ow_y (yh_assign rfl rfl) rfl rfl (kk_wl ?_))
    refine wl_nil ?_
    refine ex_seq ?_
    refine cw_seq ?_
    refine cw_seq ?_
    refine cw_region ?_
    refine wl_u rfl (ow_y (yh_move rfl rfl) rfl rfl (kk_wl ?_))
    refine wl_u rfl (ow_y (yh_cmpI rfl rfl rfl rfl) rfl rfl (kk_wl ?_))
    refine wl_nil ?_
    refine ex_seq ?_
    refine cw_split rfl (fun c2 => ?_) (fun c2 => ?_)
    · skip
      replace h := bt c2 h
      have q3 := ltb_true.1 c2
      refine cw_seq ?_
      refine cw_region ?_
      refine wl_u rfl (ow_y (yh_assign rfl rfl) rfl rfl (kk_wl ?_))
      refine wl_nil ?_
      refine ex_seq ?_
      refine cw_ret ?_
      refine ex_then_ret ?_
      obtain rfl := Option.some.inj h
      exact ex_r1 Tb rfl (.tmp rfl) (fun wq hq => ⟨_, rfl, hq.ext, rfl⟩)
    · skip
      replace h := bf c2 h
      have q4 := ltb_false.1 c2
      refine cw_skip ?_
      refine ex_seq ?_
      obtain ⟨j111, he111, hk111⟩ := bd h
      clear h
      refine cw_cut (σ := (Option Addr) × Nat × (List Nat)) (fun s => True) (fun s => [(0, .slice a_u0 u0.length c_u0), (3, .pointer (some ⟨g3, 0, none⟩)), (6, .slice s.1 j111.1.length s.2.1), (7, .bool j111.2)]) (fun s => [blkC g3 52 [.int .i64 u1.ver, .slice a_u1_steps u1.steps.length c_u1_steps], owC flowsL s.2.2 [.slice s.1 j111.1.length s.2.1] j111.1]) (fun s hI => ?_) (fun KL hn111 => ?_)
      · skip
        obtain ⟨ak111_6, ck111_6, Fk111_6⟩ := s
        simp only at ⊢
        have h := hk111
        refine cw_seq ?_
        refine cw_region ?_
        refine wl_u rfl (ow_y (yh_move rfl rfl) rfl rfl (kk_wl ?_))
        obtain ⟨x36, hx36, h⟩ := bd h
        refine wl_u rfl (ow_cN1 rfl hb31 rfl (fun w hw => c_laws_toFlowS N _ _ hx36 w (Lay.at_ h_u0 hw)) rfl rfl (fun a36 c36 F36 => kk_wl ?_))
        refine wl_u rfl (ow_y (yh_assign rfl rfl) rfl rfl (kk_wl ?_))
        refine wl_nil ?_
        refine ex_seq ?_
        refine cw_seq ?_
        refine cw_region ?_
        refine wl_u rfl (ow_y (yh_loadBA Tb (k := 1) rfl rfl rfl rfl rfl rfl) rfl rfl (kk_wl ?_))
        obtain ⟨x38, hx38, h⟩ := bd h
        refine wl_u rfl (ow_cN1 rfl hb38 rfl (fun w hw => c_laws_toFlow N _ _ hx38 w (Lay.at_ h_u1_steps hw)) rfl rfl (fun a38 c38 F38 => kk_wl ?_))
        refine wl_u rfl (ow_allocA Tb rfl rfl rfl rfl (fun g9 => kk_wl ?_))
        refine wl_u rfl (ow_storeA Tb (k := 0) rfl rfl rfl rfl rfl rfl rfl rfl rfl (kk_wl ?_))
        refine wl_nil ?_
        refine ex_seq ?_
        refine cw_seq ?_
        refine cw_region ?_
        refine wl_u rfl (ow_y (yh_move rfl rfl) rfl rfl (kk_wl ?_))
        refine wl_u rfl (ow_y (yh_loadBA Tb (k := 0) rfl rfl rfl rfl rfl rfl) rfl rfl (kk_wl ?_))
        obtain ⟨x42, hx42, h⟩ := bd h
        refine wl_u rfl (ow_cN1 rfl hb16 rfl (fun w hw => c_impl_RegistryPut N _ _ _ hx42 w (rdo (A := flowsL) 2 rfl hw) (rdo (A := stepsL) 1 rfl hw)) rfl rfl (fun a42 c42 F42 => kk_wl ?_))
        refine wl_u rfl (ow_y (yh_move rfl rfl) rfl rfl (kk_wl ?_))
        refine wl_u rfl (ow_y (yh_extract rfl rfl rfl) rfl rfl (kk_wl ?_))
        refine wl_u rfl (ow_y (yh_extract rfl rfl rfl) rfl rfl (kk_wl ?_))
        refine wl_u rfl (ow_y (yh_assign rfl rfl) rfl rfl (kk_wl ?_))
        refine wl_u rfl (ow_y (yh_assign rfl rfl) rfl rfl (kk_wl ?_))
        refine wl_nil ?_
        refine ex_seq ?_
        refine cw_seq ?_
        refine cw_seq ?_
        refine cw_region ?_
        refine wl_u rfl (ow_y (yh_move rfl rfl) rfl rfl (kk_wl ?_))
        refine wl_u rfl (ow_y (yh_move rfl rfl) rfl rfl (kk_wl ?_))
        obtain ⟨x47, hx47, h⟩ := bd h
        refine wl_u rfl (ow_cV rfl hb33 rfl (fun w hw => c_laws_eqFlowS N _ _ _ hx47 w (rdo (A := flowsL) 0 rfl hw) (rdo (A := flowsL) 5 rfl hw)) rfl rfl (kk_wl ?_))
        refine wl_u rfl (ow_y (yh_not rfl rfl) rfl rfl (kk_wl ?_))
        refine wl_u rfl (ow_y (yh_move rfl rfl) rfl rfl (kk_wl ?_))
        refine wl_s rfl rfl (fun c3 => ?_) (fun c3 => ?_)
        · skip
          replace h := bt c3 h
          refine wl_n rfl rfl rfl rfl ?_
          refine wl_n rfl rfl rfl rfl ?_
          refine wl_n rfl rfl rfl rfl ?_
          refine wl_u rfl (ow_y (yh_pickT rfl rfl rfl) rfl rfl (kk_wl ?_))
          refine wl_nil ?_
          refine ex_seq ?_
          refine cw_true rfl ?_
          refine cw_seq ?_
          refine cw_region ?_
          refine wl_u rfl (ow_y (yh_assign rfl rfl) rfl rfl (kk_wl ?_))
          refine wl_nil ?_
          refine ex_seq ?_
          refine cw_ret ?_
          refine ex_then_ret ?_
          obtain rfl := Option.some.inj h
          exact ex_r1 Tb rfl (.tmp rfl) (fun wq hq => ⟨_, rfl, hq.ext, rfl⟩)
        · skip
          replace h := bf c3 h
          refine wl_g rfl rfl (ow_y (yh_move rfl rfl) rfl rfl (kk_wl ?_))
          refine wl_g rfl rfl (ow_y (yh_move rfl rfl) rfl rfl (kk_wl ?_))
          refine wl_g rfl rfl (ow_y (yh_cmpB rfl rfl rfl rfl (by kernel_rfl)) rfl rfl (kk_wl ?_))
          refine wl_u rfl (ow_y (yh_pickF rfl rfl rfl) rfl rfl (kk_wl ?_))
          refine wl_nil ?_
          refine ex_seq ?_
          refine cw_split rfl (fun c4 => ?_) (fun c4 => ?_)
          · skip
            replace h := bt c4 h
            refine cw_seq ?_
            refine cw_region ?_
            refine wl_u rfl (ow_y (yh_assign rfl rfl) rfl rfl (kk_wl ?_))
            refine wl_nil ?_
            refine ex_seq ?_
            refine cw_ret ?_
            refine ex_then_ret ?_
            obtain rfl := Option.some.inj h
            exact ex_r1 Tb rfl (.tmp rfl) (fun wq hq => ⟨_, rfl, hq.ext, rfl⟩)
          · skip
            replace h := bf c4 h
            refine cw_skip ?_
            refine ex_seq ?_
            refine cw_seq ?_
            refine cw_seq ?_
            refine cw_region ?_
            refine wl_u rfl (ow_y (yh_move rfl rfl) rfl rfl (kk_wl ?_))
            refine wl_u rfl (ow_y (yh_move rfl rfl) rfl rfl (kk_wl ?_))
            obtain ⟨x56, hx56, h⟩ := bd h
            refine wl_u rfl (ow_cN1 rfl hb31 rfl (fun w hw => c_laws_toFlowS N _ _ hx56 w (Lay.at_ h_u0 hw)) rfl rfl (fun a56 c56 F56 => kk_wl ?_))
            obtain ⟨x57, hx57, h⟩ := bd h
            refine wl_u rfl (ow_cV rfl hb33 rfl (fun w hw => c_laws_eqFlowS N _ _ _ hx57 w (rdo (A := flowsL) 4 rfl hw) (rdo (A := flowsL) 0 rfl hw)) rfl rfl (kk_wl ?_))
            refine wl_u rfl (ow_y (yh_not rfl rfl) rfl rfl (kk_wl ?_))
            refine wl_nil ?_
            refine ex_seq ?_
            refine cw_split rfl (fun c5 => ?_) (fun c5 => ?_)
            · skip
              replace h := bt c5 h
              refine cw_seq ?_
              refine cw_region ?_
              refine wl_u rfl (ow_y (yh_assign rfl rfl) rfl rfl (kk_wl ?_))
              refine wl_nil ?_
              refine ex_seq ?_
              refine cw_ret ?_
              refine ex_then_ret ?_
              obtain rfl := Option.some.inj h
              exact ex_r1 Tb rfl (.tmp rfl) (fun wq hq => ⟨_, rfl, hq.ext, rfl⟩)
            · skip
              replace h := bf c5 h
              refine cw_skip ?_
              refine ex_seq ?_
              obtain ⟨e123, he123, hk123⟩ := bd h
              clear h
              refine cw_cut (σ := Unit × Unit) (fun s => e123 = Ex.brk s.1) (fun s => [(0, .slice a_u0 u0.length c_u0), (3, .pointer (some ⟨g3, 0, none⟩)), (6, .slice ak111_6 j111.1.length ck111_6), (7, .bool j111.2), (8, .slice a36 x36.length c36), (9, .pointer (some ⟨g9, 0, none⟩)), (10, .slice a42 x42.1.length c42), (11, .bool x42.2)]) (fun s => [blkC g3 52 [.int .i64 u1.ver, .slice a_u1_steps u1.steps.length c_u1_steps], owC flowsL Fk111_6 [.slice ak111_6 j111.1.length ck111_6] j111.1, owC flowsL F36 [.slice a36 x36.length c36] x36, blkC g9 26 [.int .i64 x38.ver, .slice a38 x38.steps.length c38], owC stepsL F38 [.slice a38 x38.steps.length c38] x38.steps, owC flowsL F42 [.slice a42 x42.1.length c42] x42.1]) (fun s hI => ?_) (fun KL hn123 => ?_)
              · skip
                obtain ⟨j123, _⟩ := s
                simp only at hI ⊢
                subst hI
                have h := go_brk hk123
                refine cw_seq ?_
                refine cw_region ?_
                refine wl_u rfl (ow_y (yh_assign rfl rfl) rfl rfl (kk_wl ?_))
                refine wl_nil ?_
                refine ex_seq ?_
                refine cw_seq ?_
                refine cw_region ?_
                refine wl_u rfl (ow_y (yh_move rfl rfl) rfl rfl (kk_wl ?_))
                refine wl_u rfl (ow_y (yh_move rfl rfl) rfl rfl (kk_wl ?_))
                obtain ⟨x66, hx66, h⟩ := bd h
                refine wl_u rfl (ow_cF1 2 rfl hb34 rfl rfl (fun w hw => c_laws_markFlowS N _ _ _ hx66 w (hw.at (i := 2) rfl) (hw.ndAt (i := 2) rfl)) rfl rfl (fun F66 => kk_wl ?_))
                refine wl_u rfl (ow_y (yh_assign rfl rfl) rfl rfl (kk_wl ?_))
                refine wl_nil ?_
                refine ex_seq ?_
                refine cw_seq ?_
                refine cw_region ?_
                refine wl_u rfl (ow_y (yh_loadBA Tb (k := 3) rfl rfl rfl rfl rfl rfl) rfl rfl (kk_wl ?_))
                refine wl_u rfl (ow_y (yh_move rfl rfl) rfl rfl (kk_wl ?_))
                obtain ⟨x69, hx69, h⟩ := bd h
                refine wl_u rfl (ow_cF1 4 rfl hb35 rfl rfl (fun w hw => c_laws_markFlow N _ _ _ hx69 w (hw.at (i := 4) rfl) (hw.ndAt (i := 4) rfl)) rfl rfl (fun F69 => kk_wl ?_))
                refine wl_u rfl (ow_y (yh_assign rfl rfl) rfl rfl (kk_wl ?_))
                refine wl_nil ?_
                refine ex_seq ?_
                refine cw_seq ?_
                refine cw_seq ?_
                refine cw_region ?_
                refine wl_u rfl (ow_y (yh_move rfl rfl) rfl rfl (kk_wl ?_))
                refine wl_u rfl (ow_y (yh_cmpI rfl rfl rfl rfl) rfl rfl (kk_wl ?_))
                refine wl_u rfl (ow_y (yh_move rfl rfl) rfl rfl (kk_wl ?_))
                refine wl_s rfl rfl (fun c6 => ?_) (fun c6 => ?_)
                · skip
                  replace h := bt c6 h
                  have q5 := ltb_true.1 c6
                  refine wl_n rfl rfl rfl rfl ?_
                  refine wl_n rfl rfl rfl rfl ?_
                  refine wl_n rfl rfl rfl rfl ?_
                  refine wl_n rfl rfl rfl rfl ?_
                  refine wl_u rfl (ow_y (yh_pickT rfl rfl rfl) rfl rfl (kk_wl ?_))
                  refine wl_u rfl (ow_y (yh_move rfl rfl) rfl rfl (kk_wl ?_))
                  refine wl_s rfl rfl (fun _ => ?_) nofun
                  refine wl_n rfl rfl rfl rfl ?_
                  refine wl_n rfl rfl rfl rfl ?_
                  refine wl_n rfl rfl rfl rfl ?_
                  refine wl_u rfl (ow_y (yh_pickT rfl rfl rfl) rfl rfl (kk_wl ?_))
                  refine wl_nil ?_
                  refine ex_seq ?_
                  refine cw_true rfl ?_
                  refine cw_seq ?_
                  refine cw_region ?_
                  refine wl_u rfl (ow_y (yh_assign rfl rfl) rfl rfl (kk_wl ?_))
                  refine wl_nil ?_
                  refine ex_seq ?_
                  refine cw_ret ?_
                  refine ex_then_ret ?_
                  obtain rfl := Option.some.inj h
                  exact ex_r1 Tb rfl (.tmp rfl) (fun wq hq => ⟨_, rfl, hq.ext, rfl⟩)
                · skip
                  replace h := bf c6 h
                  have q6 := ltb_false.1 c6
                  refine wl_g rfl rfl (ow_y (yh_move rfl rfl) rfl rfl (kk_wl ?_))
                  refine wl_g rfl rfl (ow_y (yh_move rfl rfl) rfl rfl (kk_wl ?_))
                  obtain ⟨x75, hx75, h⟩ := bd h
                  refine wl_g rfl rfl (ow_cV rfl hb33 rfl (fun w hw => c_laws_eqFlowS N _ _ _ hx75 w (rdo (A := flowsL) 5 rfl hw) (rdo (A := flowsL) 3 rfl hw)) rfl rfl (kk_wl ?_))
                  refine wl_g rfl rfl (ow_y (yh_not rfl rfl) rfl rfl (kk_wl ?_))
                  refine wl_u rfl (ow_y (yh_pickF rfl rfl rfl) rfl rfl (kk_wl ?_))
                  refine wl_u rfl (ow_y (yh_move rfl rfl) rfl rfl (kk_wl ?_))
                  refine wl_s rfl rfl (fun c7 => ?_) (fun c7 => ?_)
                  · skip
                    replace h := bt c7 h
                    refine wl_n rfl rfl rfl rfl ?_
                    refine wl_n rfl rfl rfl rfl ?_
                    refine wl_n rfl rfl rfl rfl ?_
                    refine wl_u rfl (ow_y (yh_pickT rfl rfl rfl) rfl rfl (kk_wl ?_))
                    refine wl_nil ?_
                    refine ex_seq ?_
                    refine cw_true rfl ?_
                    refine cw_seq ?_
                    refine cw_region ?_
                    refine wl_u rfl (ow_y (yh_assign rfl rfl) rfl rfl (kk_wl ?_))
                    refine wl_nil ?_
                    refine ex_seq ?_
                    refine cw_ret ?_
                    refine ex_then_ret ?_
                    obtain rfl := Option.some.inj h
                    exact ex_r1 Tb rfl (.tmp rfl) (fun wq hq => ⟨_, rfl, hq.ext, rfl⟩)
                  · skip
                    replace h := bf c7 h
                    refine wl_g rfl rfl (ow_y (yh_move rfl rfl) rfl rfl (kk_wl ?_))
                    refine wl_g rfl rfl (ow_y (yh_move rfl rfl) rfl rfl (kk_wl ?_))
                    refine wl_g rfl rfl (ow_y (yh_cmpB rfl rfl rfl rfl (by kernel_rfl)) rfl rfl (kk_wl ?_))
                    refine wl_u rfl (ow_y (yh_pickF rfl rfl rfl) rfl rfl (kk_wl ?_))
                    refine wl_nil ?_
                    refine ex_seq ?_
                    refine cw_split rfl (fun hc => Bool.noConfusion (c4.symm.trans hc)) (fun _ => ?_)
                    refine cw_skip ?_
                    refine ex_seq ?_
                    refine cw_seq ?_
                    refine cw_region ?_
                    refine wl_u rfl (ow_y (yh_assign rfl rfl) rfl rfl (kk_wl ?_))
                    refine wl_nil ?_
                    refine ex_seq ?_
                    refine cw_seq ?_
                    refine cw_region ?_
                    refine wl_u rfl (ow_y (yh_move rfl rfl) rfl rfl (kk_wl ?_))
                    refine wl_u rfl (ow_y (yh_move rfl rfl) rfl rfl (kk_wl ?_))
                    obtain ⟨x85, hx85, h⟩ := bd h
                    refine wl_u rfl (ow_cF1 5 rfl hb34 rfl rfl (fun w hw => c_laws_markFlowS N _ _ _ hx85 w (hw.at (i := 5) rfl) (hw.ndAt (i := 5) rfl)) rfl rfl (fun F85 => kk_wl ?_))
                    refine wl_u rfl (ow_y (yh_assign rfl rfl) rfl rfl (kk_wl ?_))
                    refine wl_nil ?_
                    refine ex_seq ?_
                    refine cw_seq ?_
                    refine cw_region ?_
                    refine wl_u rfl (ow_y (yh_assign rfl rfl) rfl rfl (kk_wl ?_))
                    refine wl_nil ?_
                    refine ex_seq ?_
                    refine cw_seq ?_
                    refine cw_region ?_
                    refine wl_u rfl (ow_y (yh_move rfl rfl) rfl rfl (kk_wl ?_))
                    refine wl_u rfl (ow_y (yh_move rfl rfl) rfl rfl (kk_wl ?_))
                    refine wl_know (x42.1.length = x85.2.length) (fun w hw => own_lenK 0 rfl hw) (fun hr2_ => ?_)
                    rw [hr2_]
                    obtain ⟨x88, hx88, h⟩ := bd h
                    refine wl_u rfl (ow_cV rfl hb39 rfl (fun w hw => c_laws_heldFlowS N _ _ _ hx88 w (rdo (A := flowsL) 0 rfl hw)) rfl rfl (kk_wl ?_))
                    refine wl_u rfl (ow_y (yh_assign rfl rfl) rfl rfl (kk_wl ?_))
                    refine wl_nil ?_
                    refine ex_seq ?_
                    refine cw_seq ?_
                    refine cw_seq ?_
                    refine cw_region ?_
                    refine wl_u rfl (ow_y (yh_move rfl rfl) rfl rfl (kk_wl ?_))
                    refine wl_u rfl (ow_y (yh_cmpI rfl rfl rfl rfl) rfl rfl (kk_wl ?_))
                    refine wl_nil ?_
                    refine ex_seq ?_
                    refine cw_split rfl (fun c8 => ?_) (fun c8 => ?_)
                    · skip
                      replace h := bt c8 h
                      have q7 := ltb_true.1 c8
                      refine cw_seq ?_
                      refine cw_region ?_
                      refine wl_u rfl (ow_y (yh_assign rfl rfl) rfl rfl (kk_wl ?_))
                      refine wl_nil ?_
                      refine ex_seq ?_
                      refine cw_ret ?_
                      refine ex_then_ret ?_
                      obtain rfl := Option.some.inj h
                      exact ex_r1 Tb rfl (.tmp rfl) (fun wq hq => ⟨_, rfl, hq.ext, rfl⟩)
                    · skip
                      replace h := bf c8 h
                      have q8 := ltb_false.1 c8
                      refine cw_skip ?_
                      refine ex_seq ?_
                      refine cw_seq ?_
                      refine cw_seq ?_
                      refine cw_region ?_
                      refine wl_u rfl (ow_y (yh_move rfl rfl) rfl rfl (kk_wl ?_))
                      refine wl_u rfl (ow_y (yh_move rfl rfl) rfl rfl (kk_wl ?_))
                      refine wl_u rfl (ow_y (yh_cmpI rfl rfl rfl rfl) rfl rfl (kk_wl ?_))
                      refine wl_nil ?_
                      refine ex_seq ?_
                      refine cw_split rfl (fun c9 => ?_) (fun c9 => ?_)
                      · skip
                        replace h := bt c9 h
                        have q9 := eqb_false.1 (nt c9)
                        refine cw_seq ?_
                        refine cw_region ?_
                        refine wl_u rfl (ow_y (yh_assign rfl rfl) rfl rfl (kk_wl ?_))
                        refine wl_nil ?_
                        refine ex_seq ?_
                        refine cw_ret ?_
                        refine ex_then_ret ?_
                        obtain rfl := Option.some.inj h
                        exact ex_r1 Tb rfl (.tmp rfl) (fun wq hq => ⟨_, rfl, hq.ext, rfl⟩)
                      · skip
                        replace h := bf c9 h
                        have q10 := eqb_true.1 (nf c9)
                        refine cw_skip ?_
                        refine ex_seq ?_
                        obtain ⟨j144, he144, hk144⟩ := bd h
                        clear h
                        refine cw_cut (σ := (Option Addr) × Nat × (List Nat)) (fun s => True) (fun s => [(6, .slice ak111_6 j111.1.length ck111_6), (7, .bool j111.2), (10, .slice a42 x85.2.length c42), (13, .int .i64 x85.1), (15, .slice s.1 j144.1.length s.2.1), (16, .bool j144.2)]) (fun s => [owC flowsL Fk111_6 [.slice ak111_6 j111.1.length ck111_6] j111.1, owC flowsL F85 [.slice a42 x85.2.length c42] x85.2, owC flowsL s.2.2 [.slice s.1 j144.1.length s.2.1] j144.1]) (fun s hI => ?_) (fun KL hn144 => ?_)
                        · skip
                          obtain ⟨ak144_15, ck144_15, Fk144_15⟩ := s
                          simp only at ⊢
                          have h := hk144
                          refine cw_seq ?_
                          refine cw_seq ?_
                          refine cw_region ?_
                          refine wl_u rfl (ow_y (yh_move rfl rfl) rfl rfl (kk_wl ?_))
                          refine wl_u rfl (ow_y (yh_move rfl rfl) rfl rfl (kk_wl ?_))
                          obtain ⟨x104, hx104, h⟩ := bd h
                          refine wl_u rfl (ow_cV rfl hb33 rfl (fun w hw => c_laws_eqFlowS N _ _ _ hx104 w (rdo (A := flowsL) 2 rfl hw) (rdo (A := flowsL) 0 rfl hw)) rfl rfl (kk_wl ?_))
                          refine wl_u rfl (ow_y (yh_not rfl rfl) rfl rfl (kk_wl ?_))
                          refine wl_u rfl (ow_y (yh_move rfl rfl) rfl rfl (kk_wl ?_))
                          refine wl_s rfl rfl (fun c10 => ?_) (fun c10 => ?_)
                          · skip
                            replace h := bt c10 h
                            refine wl_n rfl rfl rfl rfl ?_
                            refine wl_n rfl rfl rfl rfl ?_
                            refine wl_n rfl rfl rfl rfl ?_
                            refine wl_u rfl (ow_y (yh_pickT rfl rfl rfl) rfl rfl (kk_wl ?_))
                            refine wl_nil ?_
                            refine ex_seq ?_
                            refine cw_true rfl ?_
                            refine cw_seq ?_
                            refine cw_region ?_
                            refine wl_u rfl (ow_y (yh_assign rfl rfl) rfl rfl (kk_wl ?_))
                            refine wl_nil ?_
                            refine ex_seq ?_
                            refine cw_ret ?_
                            refine ex_then_ret ?_
                            obtain rfl := Option.some.inj h
                            exact ex_r1 Tb rfl (.tmp rfl) (fun wq hq => ⟨_, rfl, hq.ext, rfl⟩)
                          · skip
                            replace h := bf c10 h
                            refine wl_g rfl rfl (ow_y (yh_move rfl rfl) rfl rfl (kk_wl ?_))
                            refine wl_g rfl rfl (ow_y (yh_move rfl rfl) rfl rfl (kk_wl ?_))
                            refine wl_g rfl rfl (ow_y (yh_cmpB rfl rfl rfl rfl (by kernel_rfl)) rfl rfl (kk_wl ?_))
                            refine wl_u rfl (ow_y (yh_pickF rfl rfl rfl) rfl rfl (kk_wl ?_))
                            refine wl_nil ?_
                            refine ex_seq ?_
                            refine cw_split rfl (fun c11 => ?_) (fun c11 => ?_)
                            · skip
                              replace h := bt c11 h
                              refine cw_seq ?_
                              refine cw_region ?_
                              refine wl_u rfl (ow_y (yh_assign rfl rfl) rfl rfl (kk_wl ?_))
                              refine wl_nil ?_
                              refine ex_seq ?_
                              refine cw_ret ?_
                              refine ex_then_ret ?_
                              obtain rfl := Option.some.inj h
                              exact ex_r1 Tb rfl (.tmp rfl) (fun wq hq => ⟨_, rfl, hq.ext, rfl⟩)
                            · skip
                              replace h := bf c11 h
                              refine cw_skip ?_
                              refine ex_seq ?_
                              refine cw_seq ?_
                              refine cw_region ?_
                              refine wl_u rfl (ow_y (yh_assign rfl rfl) rfl rfl (kk_wl ?_))
                              refine wl_nil ?_
                              refine ex_seq ?_
                              refine cw_seq ?_
                              refine cw_region ?_
                              refine wl_u rfl (ow_y (yh_move rfl rfl) rfl rfl (kk_wl ?_))
                              refine wl_u rfl (ow_y (yh_move rfl rfl) rfl rfl (kk_wl ?_))
                              obtain ⟨x113, hx113, h⟩ := bd h
                              refine wl_u rfl (ow_cV rfl hb39 rfl (fun w hw => c_laws_heldFlowS N _ _ _ hx113 w (rdo (A := flowsL) 1 rfl hw)) rfl rfl (kk_wl ?_))
                              refine wl_u rfl (ow_y (yh_assign rfl rfl) rfl rfl (kk_wl ?_))
                              refine wl_nil ?_
                              refine ex_seq ?_
                              refine cw_seq ?_
                              refine cw_seq ?_
                              refine cw_region ?_
                              refine wl_u rfl (ow_y (yh_move rfl rfl) rfl rfl (kk_wl ?_))
                              refine wl_u rfl (ow_y (yh_cmpI rfl rfl rfl rfl) rfl rfl (kk_wl ?_))
                              refine wl_nil ?_
                              refine ex_seq ?_
                              refine cw_split rfl (fun c12 => ?_) (fun c12 => ?_)
                              · skip
                                replace h := bt c12 h
                                have q11 := ltb_true.1 c12
                                refine cw_seq ?_
                                refine cw_region ?_
                                refine wl_u rfl (ow_y (yh_assign rfl rfl) rfl rfl (kk_wl ?_))
                                refine wl_nil ?_
                                refine ex_seq ?_
                                refine cw_ret ?_
                                refine ex_then_ret ?_
                                obtain rfl := Option.some.inj h
                                exact ex_r1 Tb rfl (.tmp rfl) (fun wq hq => ⟨_, rfl, hq.ext, rfl⟩)
                              · skip
                                replace h := bf c12 h
                                have q12 := ltb_false.1 c12
                                refine cw_skip ?_
                                refine ex_seq ?_
                                refine cw_seq ?_
                                refine cw_seq ?_
                                refine cw_region ?_
                                refine wl_u rfl (ow_y (yh_move rfl rfl) rfl rfl (kk_wl ?_))
                                refine wl_u rfl (ow_y (yh_move rfl rfl) rfl rfl (kk_wl ?_))
                                refine wl_u rfl (ow_y (yh_cmpI rfl rfl rfl rfl) rfl rfl (kk_wl ?_))
                                refine wl_nil ?_
                                refine ex_seq ?_
                                refine cw_split rfl (fun c13 => ?_) (fun c13 => ?_)
                                · skip
                                  replace h := bt c13 h
                                  have q13 := eqb_false.1 (nt c13)
                                  refine cw_seq ?_
                                  refine cw_region ?_
                                  refine wl_u rfl (ow_y (yh_assign rfl rfl) rfl rfl (kk_wl ?_))
                                  refine wl_nil ?_
                                  refine ex_seq ?_
                                  refine cw_ret ?_
                                  refine ex_then_ret ?_
                                  obtain rfl := Option.some.inj h
                                  exact ex_r1 Tb rfl (.tmp rfl) (fun wq hq => ⟨_, rfl, hq.ext, rfl⟩)
                                · skip
                                  replace h := bf c13 h
                                  have q14 := eqb_true.1 (nf c13)
                                  refine cw_skip ?_
                                  refine ex_seq ?_
                                  refine cw_seq ?_
                                  refine cw_region ?_
                                  refine wl_u rfl (ow_y (yh_assign rfl rfl) rfl rfl (kk_wl ?_))
                                  refine wl_nil ?_
                                  refine ex_seq ?_
                                  refine cw_ret ?_
                                  obtain rfl := Option.some.inj h
                                  exact ex_r1 Tb rfl (.tmp rfl) (fun wq hq => ⟨_, rfl, hq.ext, rfl⟩)
                        · skip
                          have h := he144
                          refine cw_dr [0, 2, 5, 6, 7, 8, 9] [] [owC flowsL F85 [.slice a42 x85.2.length c42] x85.2, owC stepsL F69 [.slice a38 x38.steps.length c38] x69.2, owC flowsL F66 [.slice a36 x36.length c36] x66.2, blkC g3 52 [.int .i64 u1.ver, .slice a_u1_steps u1.steps.length c_u1_steps], owC flowsL Fk111_6 [.slice ak111_6 j111.1.length ck111_6] j111.1, blkC g9 26 [.int .i64 x38.ver, .slice a38 x38.steps.length c38]] (by kernel_rfl) ?_
                          refine wd_take (i := 0) [0, 1, 2, 3, 4, 5] rfl rfl rfl rfl rfl (by kernel_rfl) (by kernel_rfl) (fun _ _ _ _ h => h) (yh_move rfl rfl) ?_
                          refine wd_take (i := 2) [0, 1, 2, 3, 4, 5] rfl rfl rfl rfl rfl (by kernel_rfl) (by kernel_rfl) (fun _ _ _ _ h => h) (yh_loadBA Tb (k := 3) rfl rfl rfl rfl rfl rfl) ?_
                          obtain ⟨x96, hx96, h⟩ := bd h
                          refine wd_one 1 rfl rfl (by kernel_rfl) (ow_cN1 rfl hb31 rfl (fun w hw => c_laws_toFlowS N _ _ hx96 w (Lay.at_ h_u0 hw)) rfl rfl (fun a96 c96 F96 => kk_wd [1, 2, 3, 4, 5, 6] (by kernel_rfl) ?_))
                          obtain ⟨x98, hx98, h⟩ := bd h
                          refine wd_one 3 rfl rfl (by kernel_rfl) (ow_cN1 rfl hb38 rfl (fun w hw => c_laws_toFlow N _ _ hx98 w (Lay.at_ h_u1_steps hw)) rfl rfl (fun a98 c98 F98 => kk_wd [2, 3, 4, 5, 6, 7] (by kernel_rfl) ?_))
                          obtain ⟨x99, hx99, h⟩ := bd h
                          refine wd_one 4 rfl rfl (by kernel_rfl) (ow_cN1 rfl hb16 rfl (fun w hw => c_impl_RegistryPut N _ _ _ hx99 w (rdo (A := flowsL) 1 rfl hw) (rdo (A := stepsL) 0 rfl hw)) rfl rfl (fun a99 c99 F99 => kk_wd [3, 4, 5, 6, 7, 8] (by kernel_rfl) ?_))
                          refine wd_take (i := 5) [3, 4, 5, 6, 7, 8] rfl rfl rfl rfl rfl (by kernel_rfl) (by kernel_rfl) (fun _ _ _ _ h => h) (yh_move rfl rfl) ?_
                          refine wd_take (i := 6) [3, 4, 5, 6, 7, 8] rfl rfl rfl rfl rfl (by kernel_rfl) (by kernel_rfl) (fun _ _ _ _ h => h) (yh_extract rfl rfl rfl) ?_
                          refine wd_take (i := 7) [3, 4, 5, 6, 7, 8] rfl rfl rfl rfl rfl (by kernel_rfl) (by kernel_rfl) (fun _ _ _ _ h => h) (yh_extract rfl rfl rfl) ?_
                          refine wd_take (i := 8) [3, 4, 5, 6, 7, 8] rfl rfl rfl rfl rfl (by kernel_rfl) (by kernel_rfl) (fun _ _ _ _ h => h) (yh_assign rfl rfl) ?_
                          refine wd_take (i := 9) [3, 4, 5, 6, 7, 8] rfl rfl rfl rfl rfl (by kernel_rfl) (by kernel_rfl) (fun _ _ _ _ h => h) (yh_assign rfl rfl) ?_
                          refine wd_done (by kernel_rfl) ?_
                          obtain rfl := Option.some.inj h
                          exact ex_next [7, 3, 0] (hn144 (a99, c99, F99) trivial) ⟨rfl, rfl, rfl, rfl, rfl, rfl, trivial⟩ (by kernel_rfl)
              · skip
                have h := he123
                refine cw_seq ?_
                refine cw_dr [0, 1, 4] [] [owC flowsL F56 [.slice a56 x56.length c56] x56, owC flowsL F42 [.slice a42 x42.1.length c42] x42.1, blkC g9 26 [.int .i64 x38.ver, .slice a38 x38.steps.length c38], owC stepsL F38 [.slice a38 x38.steps.length c38] x38.steps, owC flowsL F36 [.slice a36 x36.length c36] x36, blkC g3 52 [.int .i64 u1.ver, .slice a_u1_steps u1.steps.length c_u1_steps], owC flowsL Fk111_6 [.slice ak111_6 j111.1.length ck111_6] j111.1] (by kernel_rfl) ?_
                refine wd_take (i := 0) [0, 1, 2, 3, 4, 5, 6] rfl rfl rfl rfl rfl (by kernel_rfl) (by kernel_rfl) (fun _ _ _ _ h => h) (yh_loadBA Tb (k := 2) rfl rfl rfl rfl rfl rfl) ?_
                refine wd_take (i := 1) [0, 1, 2, 3, 4, 5, 6] rfl rfl rfl rfl rfl (by kernel_rfl) (by kernel_rfl) (fun _ _ _ _ h => h) (yh_loadBA Tb (k := 5) rfl rfl rfl rfl rfl rfl) ?_
                obtain ⟨x61, hx61, h⟩ := bd h
                refine wd_one 2 rfl rfl (by kernel_rfl) (ow_cN1 rfl hb38 rfl (fun w hw => c_laws_toFlow N _ _ hx61 w (Lay.at_ h_u1_steps hw)) rfl rfl (fun a61 c61 F61 => kk_wd [1, 2, 3, 4, 5, 6, 7] (by kernel_rfl) ?_))
                obtain ⟨x62, hx62, h⟩ := bd h
                refine wd_one 3 rfl rfl (by kernel_rfl) (ow_cV rfl hb32 rfl (fun w hw => c_laws_eqFlow N _ _ _ hx62 w (rdo (A := stepsL) 4 rfl hw) (rdo (A := stepsL) 0 rfl hw)) rfl rfl (kk_wd [1, 2, 3, 4, 5, 6, 7] (by kernel_rfl) ?_))
                refine wd_take (i := 4) [1, 2, 3, 4, 5, 6, 7] rfl rfl rfl rfl rfl (by kernel_rfl) (by kernel_rfl) (fun _ _ _ _ h => h) (yh_not rfl rfl) ?_
                refine wd_done (by kernel_rfl) ?_
                refine ex_seq ?_
                refine cw_split rfl (fun c14 => ?_) (fun c14 => ?_)
                · skip
                  replace h := bt c14 h
                  refine cw_seq ?_
                  refine cw_region ?_
                  refine wl_u rfl (ow_y (yh_assign rfl rfl) rfl rfl (kk_wl ?_))
                  refine wl_nil ?_
                  refine ex_seq ?_
                  refine cw_ret ?_
                  refine ex_then_ret ?_
                  obtain rfl := Option.some.inj h
                  obtain rfl := go_ret hk123
                  exact ex_r1 Tb rfl (.tmp rfl) (fun wq hq => ⟨_, rfl, hq.ext, rfl⟩)
                · skip
                  replace h := bf c14 h
                  refine cw_skip ?_
                  obtain rfl := Option.some.inj h
                  exact ex_next [6, 7, 5, 3, 4, 2] (hn123 ((), ()) rfl) ⟨rfl, rfl, rfl, rfl, rfl, rfl, rfl, rfl, trivial⟩ (by kernel_rfl)
      · skip
        have h := he111
        refine cw_dr [0, 2, 5, 6, 7, 8, 9] [] [blkC g3 52 [.int .i64 u1.ver, .slice a_u1_steps u1.steps.length c_u1_steps]] (by kernel_rfl) ?_
        refine wd_take (i := 0) [0] rfl rfl rfl rfl rfl (by kernel_rfl) (by kernel_rfl) (fun _ _ _ _ h => h) (yh_move rfl rfl) ?_
        refine wd_take (i := 2) [0] rfl rfl rfl rfl rfl (by kernel_rfl) (by kernel_rfl) (fun _ _ _ _ h => h) (yh_loadBA Tb (k := 0) rfl rfl rfl rfl rfl rfl) ?_
        obtain ⟨x29, hx29, h⟩ := bd h
        refine wd_one 1 rfl rfl (by kernel_rfl) (ow_cN1 rfl hb31 rfl (fun w hw => c_laws_toFlowS N _ _ hx29 w (Lay.at_ h_u0 hw)) rfl rfl (fun a29 c29 F29 => kk_wd [1] (by kernel_rfl) ?_))
        obtain ⟨x31, hx31, h⟩ := bd h
        refine wd_one 3 rfl rfl (by kernel_rfl) (ow_cN1 rfl hb38 rfl (fun w hw => c_laws_toFlow N _ _ hx31 w (Lay.at_ h_u1_steps hw)) rfl rfl (fun a31 c31 F31 => kk_wd [2] (by kernel_rfl) ?_))
        obtain ⟨x32, hx32, h⟩ := bd h
        refine wd_one 4 rfl rfl (by kernel_rfl) (ow_cN1 rfl hb17 rfl (fun w hw => c_spec_RegistryPut N _ _ _ hx32 w (rdo (A := flowsL) 1 rfl hw) (rdo (A := stepsL) 0 rfl hw)) rfl rfl (fun a32 c32 F32 => kk_wd [3] (by kernel_rfl) ?_))
        refine wd_take (i := 5) [3] rfl rfl rfl rfl rfl (by kernel_rfl) (by kernel_rfl) (fun _ _ _ _ h => h) (yh_move rfl rfl) ?_
        refine wd_take (i := 6) [3] rfl rfl rfl rfl rfl (by kernel_rfl) (by kernel_rfl) (fun _ _ _ _ h => h) (yh_extract rfl rfl rfl) ?_
        refine wd_take (i := 7) [3] rfl rfl rfl rfl rfl (by kernel_rfl) (by kernel_rfl) (fun _ _ _ _ h => h) (yh_extract rfl rfl rfl) ?_
        refine wd_take (i := 8) [3] rfl rfl rfl rfl rfl (by kernel_rfl) (by kernel_rfl) (fun _ _ _ _ h => h) (yh_assign rfl rfl) ?_
        refine wd_take (i := 9) [3] rfl rfl rfl rfl rfl (by kernel_rfl) (by kernel_rfl) (fun _ _ _ _ h => h) (yh_assign rfl rfl) ?_
        refine wd_done (by kernel_rfl) ?_
        obtain rfl := Option.some.inj h
        exact ex_next [3, 0] (hn111 (a32, c32, F32) trivial) ⟨rfl, rfl, rfl, rfl, trivial⟩ (by kernel_rfl)

end Go.Proofs.Ytlcckcifnpjbpaa
