/- Mirrors and contracts, printed by a program: what each function computes as a plain term, and that it does. -/
import Derived.Test.YthmifmpllgofkaaGreatR
import Derived.Test.YthmifmpllgofkaaGreatK
import Derived.Test.YthmifmpllgofkaaGreatWC0
import Derived.Test.YthmifmpllgofkaaGreatWC1
set_option linter.all false
set_option maxRecDepth 100000
namespace Go.Proofs.YthmifmpllgofkaaGreat
open Go.RowKit

def m_laws_FnExactFlowChange (N : Nat) (u0 : Flow) (u1 : Change) : Option (Bool) := (m_laws_szFlow N u0 1048576).bind fun x19 => (bif ltb x19 0 then some true
 else (m_laws_szChange N u1 x19).bind fun x24 => (bif ltb x24 0 then some true
 else ((m_laws_toFlow N u0).bind fun x29 => (m_laws_toChange N u1).bind fun x31 => (m_spec_FlowChange N x29 x31).bind fun x32 => some (x32.1.ver, x32.1.steps, x32.2) : Option (Int × (List Step) × Bool)).bind fun j111 => (m_laws_toFlow N u0).bind fun x36 => (m_laws_toChange N u1).bind fun x38 => (m_impl_FlowChange N x36 x38).bind fun x42 => (m_laws_eqFlow N x42.1 (Flow.mk j111.1 j111.2.1)).bind fun x47 => (bif !x47 then some false
 else (bif x42.2 != j111.2.2 then some false
 else ((m_laws_toFlow N u0).bind fun x56 => (m_laws_eqFlow N x36 x56).bind fun x57 => (bif !x57 then some (Ex.ret false)
 else some (Ex.brk ())) : Option (Ex (Unit) (Bool))).bind fun e120 => e120.go (fun r => r) fun j120 => ((m_laws_toChange N u1).bind fun x61 => (m_laws_eqChange N x38 x61).bind fun x62 => (bif !x62 then some (Ex.ret false)
 else some (Ex.brk ())) : Option (Ex (Unit) (Bool))).bind fun e124 => e124.go (fun r => r) fun j124 => (m_laws_markFlow N x36 1).bind fun x66 => (m_laws_markChange N x38 x66.1).bind fun x69 => (bif ltb x69.1 0 then some false
 else (m_laws_eqFlow N x42.1 (Flow.mk j111.1 j111.2.1)).bind fun x75 => (bif !x75 then some false
 else (m_laws_markFlow N x42.1 1).bind fun x85 => (m_laws_heldFlow N (Flow.mk x42.1.ver x85.2) 1).bind fun x88 => (bif ltb x88 0 then some false
 else (bif !(eqb x88 x85.1) then some false
 else ((m_laws_toFlow N u0).bind fun x96 => (m_laws_toChange N u1).bind fun x98 => (m_impl_FlowChange N x96 x98).bind fun x99 => some (x99.1.ver, x99.1.steps, x99.2) : Option (Int × (List Step) × Bool)).bind fun j145 => (m_laws_eqFlow N (Flow.mk j145.1 j145.2.1) (Flow.mk j111.1 j111.2.1)).bind fun x104 => (bif !x104 then some false
 else (bif j145.2.2 != j111.2.2 then some false
 else (m_laws_heldFlow N (Flow.mk x42.1.ver x85.2) 1).bind fun x113 => (bif ltb x113 0 then some false
 else (bif !(eqb x113 x85.1) then some false
 else some true))))))))))))

set_option maxHeartbeats 4000000 in
theorem c_laws_FnExactFlowChange (N : Nat) (u0 : Flow) (u1 : Change) (res : Bool) (h : m_laws_FnExactFlowChange N u0 u1 = some res) (w : World) {a_u0_steps a_u1_step_after : Option Addr} {c_u0_steps c_u1_step_after : Nat} (h_u0_steps : stepsL.rd w [] [.slice a_u0_steps u0.steps.length c_u0_steps] u0.steps) (h_u1_step_after : strsL.rd w [] [.slice a_u1_step_after u1.step.after.length c_u1_step_after] u1.step.after) : Ret Tryz.prog 4 [.agg #[.int .i64 u0.ver, .slice a_u0_steps u0.steps.length c_u0_steps], .agg #[.int .i64 u1.kind, .string u1.step.name, .slice a_u1_step_after u1.step.after.length c_u1_step_after, .bool u1.step.undo]] w [] fun v w' => v = .bool res := by
  have mh_u0_steps := rd_max h_u0_steps
  have mh_u1_step_after := rd_max h_u1_step_after
  unfold m_laws_FnExactFlowChange at h
  refine ret_enter Tryz.func4 rfl Tryz.ntmps4 rfl (Hp.refl w _) ?_
  refine cw_seq ?_
  refine cw_region ?_
  refine wl_u rfl (ow_boxA rfl rfl rfl rfl (fun g2 => kk_wl ?_))
  refine wl_u rfl (ow_boxA rfl rfl rfl rfl (fun g3 => kk_wl ?_))
  refine wl_u rfl (ow_y (yh_assign rfl rfl) rfl rfl (kk_wl ?_))
  refine wl_nil ?_
  refine ex_seq ?_
  refine cw_seq ?_
  refine cw_region ?_
  refine wl_u rfl (ow_y (yh_assign rfl rfl) rfl rfl (kk_wl ?_))
  refine wl_nil ?_
  refine ex_seq ?_
  refine cw_seq ?_
  refine cw_region ?_
  refine wl_u rfl (ow_y (yh_loadBA Tb (k := 1) rfl rfl rfl rfl rfl rfl) rfl rfl (kk_wl ?_))
  refine wl_u rfl (ow_y (yh_move rfl rfl) rfl rfl (kk_wl ?_))
  obtain ⟨x19, hx19, h⟩ := bd h
  refine wl_u rfl (ow_cV rfl hb13 rfl (fun w hw => c_laws_szFlow N _ _ _ hx19 w (Lay.at_ h_u0_steps hw)) rfl rfl (kk_wl ?_))
  refine wl_u rfl (ow_y (yh_assign rfl rfl) rfl rfl (kk_wl ?_))
  refine wl_nil ?_
  refine ex_seq ?_
  refine cw_seq ?_
  refine cw_seq ?_
  refine cw_region ?_
  refine wl_u rfl (ow_y (yh_move rfl rfl) rfl rfl (kk_wl ?_))
  refine wl_u rfl (ow_y (yh_cmpI rfl rfl rfl rfl) rfl rfl (kk_wl ?_))
  refine wl_nil ?_
  refine ex_seq ?_
  refine cw_split rfl (fun c1 => ?_) (fun c1 => ?_)
  · skip
    replace h := bt c1 h
    have q1 := ltb_true.1 c1
    refine cw_seq ?_
    refine cw_region ?_
    refine wl_u rfl (ow_y (yh_assign rfl rfl) rfl rfl (kk_wl ?_))
    refine wl_nil ?_
    refine ex_seq ?_
    refine cw_ret ?_
    refine ex_then_ret ?_
    obtain rfl := Option.some.inj h
    exact ex_r1 Tb rfl (.tmp rfl) (fun wq hq => ⟨_, rfl, hq.ext, rfl⟩)
  · skip
    replace h := bf c1 h
    have q2 := ltb_false.1 c1
    refine cw_skip ?_
    refine ex_seq ?_
    refine cw_seq ?_
    refine cw_region ?_
    refine wl_u rfl (ow_y (yh_loadBA Tb (k := 0) rfl rfl rfl rfl rfl rfl) rfl rfl (kk_wl ?_))
    refine wl_u rfl (ow_y (yh_move rfl rfl) rfl rfl (kk_wl ?_))
    obtain ⟨x24, hx24, h⟩ := bd h
    refine wl_u rfl (ow_cV rfl hb14 rfl (fun w hw => c_laws_szChange N _ _ _ hx24 w (Lay.at_ h_u1_step_after hw)) rfl rfl (kk_wl ?_))
    refine wl_u rfl (ow_y (yh_assign rfl rfl) rfl rfl (kk_wl ?_))
    refine wl_nil ?_
    refine ex_seq ?_
    refine cw_seq ?_
    refine cw_seq ?_
    refine cw_region ?_
    refine wl_u rfl (ow_y (yh_move rfl rfl) rfl rfl (kk_wl ?_))
    refine wl_u rfl (ow_y (yh_cmpI rfl rfl rfl rfl) rfl rfl (kk_wl ?_))
    refine wl_nil ?_
    refine ex_seq ?_
    refine cw_split rfl (fun c2 => ?_) (fun c2 => ?_)
    · skip
      replace h := bt c2 h
      have q3 := ltb_true.1 c2
      refine cw_seq ?_
      refine cw_region ?_
      refine wl_u rfl (ow_y (yh_assign rfl rfl) rfl rfl (kk_wl ?_))
      refine wl_nil ?_
      refine ex_seq ?_
      refine cw_ret ?_
      refine ex_then_ret ?_
      obtain rfl := Option.some.inj h
      exact ex_r1 Tb rfl (.tmp rfl) (fun wq hq => ⟨_, rfl, hq.ext, rfl⟩)
    · skip
      replace h := bf c2 h
      have q4 := ltb_false.1 c2
      refine cw_skip ?_
      refine ex_seq ?_
      obtain ⟨j111, he111, hk111⟩ := bd h
      clear h
      refine cw_cut (σ := Nat × (Option Addr) × Nat × (List Nat)) (fun s => True) (fun s => [(2, .pointer (some ⟨g2, 0, none⟩)), (3, .pointer (some ⟨g3, 0, none⟩)), (6, .pointer (some ⟨s.1, 0, none⟩)), (7, .bool j111.2.2)]) (fun s => [blkC g2 44 [.int .i64 u0.ver, .slice a_u0_steps u0.steps.length c_u0_steps], blkC g3 47 [.int .i64 u1.kind, .string u1.step.name, .slice a_u1_step_after u1.step.after.length c_u1_step_after, .bool u1.step.undo], blkC s.1 25 [.int .i64 j111.1, .slice s.2.1 j111.2.1.length s.2.2.1], owC stepsL s.2.2.2 [.slice s.2.1 j111.2.1.length s.2.2.1] j111.2.1]) (fun s hI => ?_) (fun KL hn111 => ?_)
      · skip
        obtain ⟨g6, ak111_6_c_1, ck111_6_c_1, Fk111_6_c_1⟩ := s
        simp only at ⊢
        have h := hk111
        refine cw_seq ?_
        refine cw_region ?_
        refine wl_u rfl (ow_y (yh_loadBA Tb (k := 0) rfl rfl rfl rfl rfl rfl) rfl rfl (kk_wl ?_))
        obtain ⟨x36, hx36, h⟩ := bd h
        refine wl_u rfl (ow_cN1 rfl hb16 rfl (fun w hw => c_laws_toFlow N _ _ hx36 w (Lay.at_ h_u0_steps hw)) rfl rfl (fun a36 c36 F36 => kk_wl ?_))
        refine wl_u rfl (ow_allocA Tb rfl rfl rfl rfl (fun g8 => kk_wl ?_))
        refine wl_u rfl (ow_storeA Tb (k := 0) rfl rfl rfl rfl rfl rfl rfl rfl rfl (kk_wl ?_))
        refine wl_nil ?_
        refine ex_seq ?_
        refine cw_seq ?_
        refine cw_region ?_
        refine wl_u rfl (ow_y (yh_loadBA Tb (k := 3) rfl rfl rfl rfl rfl rfl) rfl rfl (kk_wl ?_))
        obtain ⟨x38, hx38, h⟩ := bd h
        refine wl_u rfl (ow_cN1 rfl hb17 rfl (fun w hw => c_laws_toChange N _ _ hx38 w (Lay.at_ h_u1_step_after hw)) rfl rfl (fun a38 c38 F38 => kk_wl ?_))
        refine wl_u rfl (ow_allocA Tb rfl rfl rfl rfl (fun g9 => kk_wl ?_))
        refine wl_u rfl (ow_storeA Tb (k := 0) rfl rfl rfl rfl rfl rfl rfl rfl rfl (kk_wl ?_))
        refine wl_nil ?_
        refine ex_seq ?_
        refine cw_seq ?_
        refine cw_region ?_
        refine wl_u rfl (ow_y (yh_loadBA Tb (k := 2) rfl rfl rfl rfl rfl rfl) rfl rfl (kk_wl ?_))
        refine wl_u rfl (ow_y (yh_loadBA Tb (k := 0) rfl rfl rfl rfl rfl rfl) rfl rfl (kk_wl ?_))
        obtain ⟨x42, hx42, h⟩ := bd h
        refine wl_u rfl (ow_cN1 rfl hb11 rfl (fun w hw => c_impl_FlowChange N _ _ _ hx42 w (rdo (A := stepsL) 3 rfl hw) (rdo (A := strsL) 1 rfl hw)) rfl rfl (fun a42 c42 F42 => kk_wl ?_))
        refine wl_u rfl (ow_y (yh_move rfl rfl) rfl rfl (kk_wl ?_))
        refine wl_u rfl (ow_y (yh_extract rfl rfl rfl) rfl rfl (kk_wl ?_))
        refine wl_u rfl (ow_y (yh_extract rfl rfl rfl) rfl rfl (kk_wl ?_))
        refine wl_u rfl (ow_allocA Tb rfl rfl rfl rfl (fun g10 => kk_wl ?_))
        refine wl_u rfl (ow_storeA Tb (k := 0) rfl rfl rfl rfl rfl rfl rfl rfl rfl (kk_wl ?_))
        refine wl_u rfl (ow_y (yh_assign rfl rfl) rfl rfl (kk_wl ?_))
        refine wl_nil ?_
        refine ex_seq ?_
        refine cw_seq ?_
        refine cw_seq ?_
        refine cw_region ?_
        refine wl_u rfl (ow_y (yh_loadBA Tb (k := 0) rfl rfl rfl rfl rfl rfl) rfl rfl (kk_wl ?_))
        refine wl_u rfl (ow_y (yh_loadBA Tb (k := 8) rfl rfl rfl rfl rfl rfl) rfl rfl (kk_wl ?_))
        obtain ⟨x47, hx47, h⟩ := bd h
        refine wl_u rfl (ow_cV rfl hb18 rfl (fun w hw => c_laws_eqFlow N _ _ _ hx47 w (rdo (A := stepsL) 1 rfl hw) (rdo (A := stepsL) 9 rfl hw)) rfl rfl (kk_wl ?_))
        refine wl_u rfl (ow_y (yh_not rfl rfl) rfl rfl (kk_wl ?_))
        refine wl_u rfl (ow_y (yh_move rfl rfl) rfl rfl (kk_wl ?_))
        refine wl_s rfl rfl (fun c3 => ?_) (fun c3 => ?_)
        · skip
          replace h := bt c3 h
          refine wl_n rfl rfl rfl rfl ?_
          refine wl_n rfl rfl rfl rfl ?_
          refine wl_n rfl rfl rfl rfl ?_
          refine wl_u rfl (ow_y (yh_pickT rfl rfl rfl) rfl rfl (kk_wl ?_))
          refine wl_nil ?_
          refine ex_seq ?_
          refine cw_true rfl ?_
          refine cw_seq ?_
          refine cw_region ?_
          refine wl_u rfl (ow_y (yh_assign rfl rfl) rfl rfl (kk_wl ?_))
          refine wl_nil ?_
          refine ex_seq ?_
          refine cw_ret ?_
          refine ex_then_ret ?_
          obtain rfl := Option.some.inj h
          exact ex_r1 Tb rfl (.tmp rfl) (fun wq hq => ⟨_, rfl, hq.ext, rfl⟩)
        · skip
          replace h := bf c3 h
          refine wl_g rfl rfl (ow_y (yh_move rfl rfl) rfl rfl (kk_wl ?_))
          refine wl_g rfl rfl (ow_y (yh_move rfl rfl) rfl rfl (kk_wl ?_))
          refine wl_g rfl rfl (ow_y (yh_cmpB rfl rfl rfl rfl (by kernel_rfl)) rfl rfl (kk_wl ?_))
          refine wl_u rfl (ow_y (yh_pickF rfl rfl rfl) rfl rfl (kk_wl ?_))
          refine wl_nil ?_
          refine ex_seq ?_
          refine cw_split rfl (fun c4 => ?_) (fun c4 => ?_)
          · skip
            replace h := bt c4 h
            refine cw_seq ?_
            refine cw_region ?_
            refine wl_u rfl (ow_y (yh_assign rfl rfl) rfl rfl (kk_wl ?_))
            refine wl_nil ?_
            refine ex_seq ?_
            refine cw_ret ?_
            refine ex_then_ret ?_
            obtain rfl := Option.some.inj h
            exact ex_r1 Tb rfl (.tmp rfl) (fun wq hq => ⟨_, rfl, hq.ext, rfl⟩)
          · skip
            replace h := bf c4 h
            refine cw_skip ?_
            refine ex_seq ?_
            obtain ⟨e120, he120, hk120⟩ := bd h
            clear h
            refine cw_cut (σ := Unit × Unit) (fun s => e120 = Ex.brk s.1) (fun s => [(2, .pointer (some ⟨g2, 0, none⟩)), (3, .pointer (some ⟨g3, 0, none⟩)), (6, .pointer (some ⟨g6, 0, none⟩)), (7, .bool j111.2.2), (8, .pointer (some ⟨g8, 0, none⟩)), (9, .pointer (some ⟨g9, 0, none⟩)), (10, .pointer (some ⟨g10, 0, none⟩)), (11, .bool x42.2)]) (fun s => [blkC g2 44 [.int .i64 u0.ver, .slice a_u0_steps u0.steps.length c_u0_steps], blkC g3 47 [.int .i64 u1.kind, .string u1.step.name, .slice a_u1_step_after u1.step.after.length c_u1_step_after, .bool u1.step.undo], blkC g6 25 [.int .i64 j111.1, .slice ak111_6_c_1 j111.2.1.length ck111_6_c_1], owC stepsL Fk111_6_c_1 [.slice ak111_6_c_1 j111.2.1.length ck111_6_c_1] j111.2.1, blkC g8 25 [.int .i64 x36.ver, .slice a36 x36.steps.length c36], owC stepsL F36 [.slice a36 x36.steps.length c36] x36.steps, blkC g9 30 [.int .i64 x38.kind, .string x38.step.name, .slice a38 x38.step.after.length c38, .bool x38.step.undo], owC strsL F38 [.slice a38 x38.step.after.length c38] x38.step.after, blkC g10 25 [.int .i64 x42.1.ver, .slice a42 x42.1.steps.length c42], owC stepsL F42 [.slice a42 x42.1.steps.length c42] x42.1.steps]) (fun s hI => ?_) (fun KL hn120 => ?_)
            · skip
              obtain ⟨j120, _⟩ := s
              simp only at hI ⊢
              subst hI
              have h := go_brk hk120
              obtain ⟨e124, he124, hk124⟩ := bd h
              clear h
              refine cw_cut (σ := Unit × Unit) (fun s => e124 = Ex.brk s.1) (fun s => [(2, .pointer (some ⟨g2, 0, none⟩)), (3, .pointer (some ⟨g3, 0, none⟩)), (6, .pointer (some ⟨g6, 0, none⟩)), (7, .bool j111.2.2), (8, .pointer (some ⟨g8, 0, none⟩)), (9, .pointer (some ⟨g9, 0, none⟩)), (10, .pointer (some ⟨g10, 0, none⟩)), (11, .bool x42.2)]) (fun s => [blkC g2 44 [.int .i64 u0.ver, .slice a_u0_steps u0.steps.length c_u0_steps], blkC g3 47 [.int .i64 u1.kind, .string u1.step.name, .slice a_u1_step_after u1.step.after.length c_u1_step_after, .bool u1.step.undo], blkC g6 25 [.int .i64 j111.1, .slice ak111_6_c_1 j111.2.1.length ck111_6_c_1], owC stepsL Fk111_6_c_1 [.slice ak111_6_c_1 j111.2.1.length ck111_6_c_1] j111.2.1, blkC g8 25 [.int .i64 x36.ver, .slice a36 x36.steps.length c36], owC stepsL F36 [.slice a36 x36.steps.length c36] x36.steps, blkC g9 30 [.int .i64 x38.kind, .string x38.step.name, .slice a38 x38.step.after.length c38, .bool x38.step.undo], owC strsL F38 [.slice a38 x38.step.after.length c38] x38.step.after, blkC g10 25 [.int .i64 x42.1.ver, .slice a42 x42.1.steps.length c42], owC stepsL F42 [.slice a42 x42.1.steps.length c42] x42.1.steps]) (fun s hI => ?_) (fun KL hn124 => ?_)
              · skip
                obtain ⟨j124, _⟩ := s
                simp only at hI ⊢
                subst hI
                have h := go_brk hk124
                refine cw_seq ?_
                refine cw_region ?_
                refine wl_u rfl (ow_y (yh_assign rfl rfl) rfl rfl (kk_wl ?_))
                refine wl_nil ?_
                refine ex_seq ?_
                refine cw_seq ?_
                refine cw_region ?_
                refine wl_u rfl (ow_y (yh_loadBA Tb (k := 4) rfl rfl rfl rfl rfl rfl) rfl rfl (kk_wl ?_))
                refine wl_u rfl (ow_y (yh_move rfl rfl) rfl rfl (kk_wl ?_))
                obtain ⟨x66, hx66, h⟩ := bd h
                refine wl_u rfl (ow_cF1 5 rfl hb20 rfl rfl (fun w hw => c_laws_markFlow N _ _ _ hx66 w (hw.at (i := 5) rfl) (hw.ndAt (i := 5) rfl)) rfl rfl (fun F66 => kk_wl ?_))
                refine wl_u rfl (ow_y (yh_assign rfl rfl) rfl rfl (kk_wl ?_))
                refine wl_nil ?_
                refine ex_seq ?_
                refine cw_seq ?_
                refine cw_region ?_
                refine wl_u rfl (ow_y (yh_loadBA Tb (k := 6) rfl rfl rfl rfl rfl rfl) rfl rfl (kk_wl ?_))
                refine wl_u rfl (ow_y (yh_move rfl rfl) rfl rfl (kk_wl ?_))
                obtain ⟨x69, hx69, h⟩ := bd h
                refine wl_u rfl (ow_cF1 7 rfl hb21 rfl rfl (fun w hw => c_laws_markChange N _ _ _ hx69 w (hw.at (i := 7) rfl) (hw.ndAt (i := 7) rfl)) rfl rfl (fun F69 => kk_wl ?_))
                refine wl_u rfl (ow_y (yh_assign rfl rfl) rfl rfl (kk_wl ?_))
                refine wl_nil ?_
                refine ex_seq ?_
                refine cw_seq ?_
                refine cw_seq ?_
                refine cw_region ?_
                refine wl_u rfl (ow_y (yh_move rfl rfl) rfl rfl (kk_wl ?_))
                refine wl_u rfl (ow_y (yh_cmpI rfl rfl rfl rfl) rfl rfl (kk_wl ?_))
                refine wl_u rfl (ow_y (yh_move rfl rfl) rfl rfl (kk_wl ?_))
                refine wl_s rfl rfl (fun c5 => ?_) (fun c5 => ?_)
                · skip
                  replace h := bt c5 h
                  have q5 := ltb_true.1 c5
                  refine wl_n rfl rfl rfl rfl ?_
                  refine wl_n rfl rfl rfl rfl ?_
                  refine wl_n rfl rfl rfl rfl ?_
                  refine wl_n rfl rfl rfl rfl ?_
                  refine wl_u rfl (ow_y (yh_pickT rfl rfl rfl) rfl rfl (kk_wl ?_))
                  refine wl_u rfl (ow_y (yh_move rfl rfl) rfl rfl (kk_wl ?_))
                  refine wl_s rfl rfl (fun _ => ?_) nofun
                  refine wl_n rfl rfl rfl rfl ?_
                  refine wl_n rfl rfl rfl rfl ?_
                  refine wl_n rfl rfl rfl rfl ?_
                  refine wl_u rfl (ow_y (yh_pickT rfl rfl rfl) rfl rfl (kk_wl ?_))
                  refine wl_nil ?_
                  refine ex_seq ?_
                  refine cw_true rfl ?_
                  refine cw_seq ?_
                  refine cw_region ?_
                  refine wl_u rfl (ow_y (yh_assign rfl rfl) rfl rfl (kk_wl ?_))
                  refine wl_nil ?_
                  refine ex_seq ?_
                  refine cw_ret ?_
                  refine ex_then_ret ?_
                  obtain rfl := Option.some.inj h
                  exact ex_r1 Tb rfl (.tmp rfl) (fun wq hq => ⟨_, rfl, hq.ext, rfl⟩)
                · skip
                  replace h := bf c5 h
                  have q6 := ltb_false.1 c5
                  refine wl_g rfl rfl (ow_y (yh_loadBA Tb (k := 8) rfl rfl rfl rfl rfl rfl) rfl rfl (kk_wl ?_))
                  refine wl_g rfl rfl (ow_y (yh_loadBA Tb (k := 4) rfl rfl rfl rfl rfl rfl) rfl rfl (kk_wl ?_))
                  obtain ⟨x75, hx75, h⟩ := bd h
                  refine wl_g rfl rfl (ow_cV rfl hb18 rfl (fun w hw => c_laws_eqFlow N _ _ _ hx75 w (rdo (A := stepsL) 9 rfl hw) (rdo (A := stepsL) 5 rfl hw)) rfl rfl (kk_wl ?_))
                  refine wl_g rfl rfl (ow_y (yh_not rfl rfl) rfl rfl (kk_wl ?_))
                  refine wl_u rfl (ow_y (yh_pickF rfl rfl rfl) rfl rfl (kk_wl ?_))
                  refine wl_u rfl (ow_y (yh_move rfl rfl) rfl rfl (kk_wl ?_))
                  refine wl_s rfl rfl (fun c6 => ?_) (fun c6 => ?_)
                  · skip
                    replace h := bt c6 h
                    refine wl_n rfl rfl rfl rfl ?_
                    refine wl_n rfl rfl rfl rfl ?_
                    refine wl_n rfl rfl rfl rfl ?_
                    refine wl_u rfl (ow_y (yh_pickT rfl rfl rfl) rfl rfl (kk_wl ?_))
                    refine wl_nil ?_
                    refine ex_seq ?_
                    refine cw_true rfl ?_
                    refine cw_seq ?_
                    refine cw_region ?_
                    refine wl_u rfl (ow_y (yh_assign rfl rfl) rfl rfl (kk_wl ?_))
                    refine wl_nil ?_
                    refine ex_seq ?_
                    refine cw_ret ?_
                    refine ex_then_ret ?_
                    obtain rfl := Option.some.inj h
                    exact ex_r1 Tb rfl (.tmp rfl) (fun wq hq => ⟨_, rfl, hq.ext, rfl⟩)
                  · skip
                    replace h := bf c6 h
                    refine wl_g rfl rfl (ow_y (yh_move rfl rfl) rfl rfl (kk_wl ?_))
                    refine wl_g rfl rfl (ow_y (yh_move rfl rfl) rfl rfl (kk_wl ?_))
                    refine wl_g rfl rfl (ow_y (yh_cmpB rfl rfl rfl rfl (by kernel_rfl)) rfl rfl (kk_wl ?_))
                    refine wl_u rfl (ow_y (yh_pickF rfl rfl rfl) rfl rfl (kk_wl ?_))
                    refine wl_nil ?_
                    refine ex_seq ?_
                    refine cw_split rfl (fun hc => Bool.noConfusion (c4.symm.trans hc)) (fun _ => ?_)
                    refine cw_skip ?_
                    refine ex_seq ?_
                    refine cw_seq ?_
                    refine cw_region ?_
                    refine wl_u rfl (ow_y (yh_assign rfl rfl) rfl rfl (kk_wl ?_))
                    refine wl_nil ?_
                    refine ex_seq ?_
                    refine cw_seq ?_
                    refine cw_region ?_
                    refine wl_u rfl (ow_y (yh_loadBA Tb (k := 8) rfl rfl rfl rfl rfl rfl) rfl rfl (kk_wl ?_))
                    refine wl_u rfl (ow_y (yh_move rfl rfl) rfl rfl (kk_wl ?_))
                    obtain ⟨x85, hx85, h⟩ := bd h
                    refine wl_u rfl (ow_cF1 9 rfl hb20 rfl rfl (fun w hw => c_laws_markFlow N _ _ _ hx85 w (hw.at (i := 9) rfl) (hw.ndAt (i := 9) rfl)) rfl rfl (fun F85 => kk_wl ?_))
                    refine wl_u rfl (ow_y (yh_assign rfl rfl) rfl rfl (kk_wl ?_))
                    refine wl_nil ?_
                    refine ex_seq ?_
                    refine cw_seq ?_
                    refine cw_region ?_
                    refine wl_u rfl (ow_y (yh_assign rfl rfl) rfl rfl (kk_wl ?_))
                    refine wl_nil ?_
                    refine ex_seq ?_
                    refine cw_seq ?_
                    refine cw_region ?_
                    refine wl_u rfl (ow_y (yh_loadBA Tb (k := 9) rfl rfl rfl rfl rfl rfl) rfl rfl (kk_wl ?_))
                    refine wl_u rfl (ow_y (yh_move rfl rfl) rfl rfl (kk_wl ?_))
                    refine wl_know (x42.1.steps.length = x85.2.length) (fun w hw => own_lenK 0 rfl hw) (fun hr2_ => ?_)
                    rw [hr2_]
                    obtain ⟨x88, hx88, h⟩ := bd h
                    refine wl_u rfl (ow_cV rfl hb22 rfl (fun w hw => c_laws_heldFlow N _ _ _ hx88 w (rdo (A := stepsL) 0 rfl hw)) rfl rfl (kk_wl ?_))
                    refine wl_u rfl (ow_y (yh_assign rfl rfl) rfl rfl (kk_wl ?_))
                    refine wl_nil ?_
                    refine ex_seq ?_
                    refine cw_seq ?_
                    refine cw_seq ?_
                    refine cw_region ?_
                    refine wl_u rfl (ow_y (yh_move rfl rfl) rfl rfl (kk_wl ?_))
                    refine wl_u rfl (ow_y (yh_cmpI rfl rfl rfl rfl) rfl rfl (kk_wl ?_))
                    refine wl_nil ?_
                    refine ex_seq ?_
                    refine cw_split rfl (fun c7 => ?_) (fun c7 => ?_)
                    · skip
                      replace h := bt c7 h
                      have q7 := ltb_true.1 c7
                      refine cw_seq ?_
                      refine cw_region ?_
                      refine wl_u rfl (ow_y (yh_assign rfl rfl) rfl rfl (kk_wl ?_))
                      refine wl_nil ?_
                      refine ex_seq ?_
                      refine cw_ret ?_
                      refine ex_then_ret ?_
                      obtain rfl := Option.some.inj h
                      exact ex_r1 Tb rfl (.tmp rfl) (fun wq hq => ⟨_, rfl, hq.ext, rfl⟩)
                    · skip
                      replace h := bf c7 h
                      have q8 := ltb_false.1 c7
                      refine cw_skip ?_
                      refine ex_seq ?_
                      refine cw_seq ?_
                      refine cw_seq ?_
                      refine cw_region ?_
                      refine wl_u rfl (ow_y (yh_move rfl rfl) rfl rfl (kk_wl ?_))
                      refine wl_u rfl (ow_y (yh_move rfl rfl) rfl rfl (kk_wl ?_))
                      refine wl_u rfl (ow_y (yh_cmpI rfl rfl rfl rfl) rfl rfl (kk_wl ?_))
                      refine wl_nil ?_
                      refine ex_seq ?_
                      refine cw_split rfl (fun c8 => ?_) (fun c8 => ?_)
                      · skip
                        replace h := bt c8 h
                        have q9 := eqb_false.1 (nt c8)
                        refine cw_seq ?_
                        refine cw_region ?_
                        refine wl_u rfl (ow_y (yh_assign rfl rfl) rfl rfl (kk_wl ?_))
                        refine wl_nil ?_
                        refine ex_seq ?_
                        refine cw_ret ?_
                        refine ex_then_ret ?_
                        obtain rfl := Option.some.inj h
                        exact ex_r1 Tb rfl (.tmp rfl) (fun wq hq => ⟨_, rfl, hq.ext, rfl⟩)
                      · skip
                        replace h := bf c8 h
                        have q10 := eqb_true.1 (nf c8)
                        refine cw_skip ?_
                        refine ex_seq ?_
                        obtain ⟨j145, he145, hk145⟩ := bd h
                        clear h
                        refine cw_cut (σ := Nat × (Option Addr) × Nat × (List Nat)) (fun s => True) (fun s => [(6, .pointer (some ⟨g6, 0, none⟩)), (7, .bool j111.2.2), (10, .pointer (some ⟨g10, 0, none⟩)), (13, .int .i64 x85.1), (15, .pointer (some ⟨s.1, 0, none⟩)), (16, .bool j145.2.2)]) (fun s => [blkC g6 25 [.int .i64 j111.1, .slice ak111_6_c_1 j111.2.1.length ck111_6_c_1], owC stepsL Fk111_6_c_1 [.slice ak111_6_c_1 j111.2.1.length ck111_6_c_1] j111.2.1, blkC g10 25 [.int .i64 x42.1.ver, .slice a42 x85.2.length c42], owC stepsL F85 [.slice a42 x85.2.length c42] x85.2, blkC s.1 25 [.int .i64 j145.1, .slice s.2.1 j145.2.1.length s.2.2.1], owC stepsL s.2.2.2 [.slice s.2.1 j145.2.1.length s.2.2.1] j145.2.1]) (fun s hI => ?_) (fun KL hn145 => ?_)
                        · skip
                          obtain ⟨g15, ak145_15_c_1, ck145_15_c_1, Fk145_15_c_1⟩ := s
                          simp only at ⊢
                          have h := hk145
                          refine cw_seq ?_
                          refine cw_seq ?_
                          refine cw_region ?_
                          refine wl_u rfl (ow_y (yh_loadBA Tb (k := 4) rfl rfl rfl rfl rfl rfl) rfl rfl (kk_wl ?_))
                          refine wl_u rfl (ow_y (yh_loadBA Tb (k := 0) rfl rfl rfl rfl rfl rfl) rfl rfl (kk_wl ?_))
                          obtain ⟨x104, hx104, h⟩ := bd h
                          refine wl_u rfl (ow_cV rfl hb18 rfl (fun w hw => c_laws_eqFlow N _ _ _ hx104 w (rdo (A := stepsL) 5 rfl hw) (rdo (A := stepsL) 1 rfl hw)) rfl rfl (kk_wl ?_))
                          refine wl_u rfl (ow_y (yh_not rfl rfl) rfl rfl (kk_wl ?_))
                          refine wl_u rfl (ow_y (yh_move rfl rfl) rfl rfl (kk_wl ?_))
                          refine wl_s rfl rfl (fun c9 => ?_) (fun c9 => ?_)
                          · skip
                            replace h := bt c9 h
                            refine wl_n rfl rfl rfl rfl ?_
                            refine wl_n rfl rfl rfl rfl ?_
                            refine wl_n rfl rfl rfl rfl ?_
                            refine wl_u rfl (ow_y (yh_pickT rfl rfl rfl) rfl rfl (kk_wl ?_))
                            refine wl_nil ?_
                            refine ex_seq ?_
                            refine cw_true rfl ?_
                            refine cw_seq ?_
                            refine cw_region ?_
                            refine wl_u rfl (ow_y (yh_assign rfl rfl) rfl rfl (kk_wl ?_))
                            refine wl_nil ?_
                            refine ex_seq ?_
                            refine cw_ret ?_
                            refine ex_then_ret ?_
                            obtain rfl := Option.some.inj h
                            exact ex_r1 Tb rfl (.tmp rfl) (fun wq hq => ⟨_, rfl, hq.ext, rfl⟩)
                          · skip
                            replace h := bf c9 h
                            refine wl_g rfl rfl (ow_y (yh_move rfl rfl) rfl rfl (kk_wl ?_))
                            refine wl_g rfl rfl (ow_y (yh_move rfl rfl) rfl rfl (kk_wl ?_))
                            refine wl_g rfl rfl (ow_y (yh_cmpB rfl rfl rfl rfl (by kernel_rfl)) rfl rfl (kk_wl ?_))
                            refine wl_u rfl (ow_y (yh_pickF rfl rfl rfl) rfl rfl (kk_wl ?_))
                            refine wl_nil ?_
                            refine ex_seq ?_
                            refine cw_split rfl (fun c10 => ?_) (fun c10 => ?_)
                            · skip
                              replace h := bt c10 h
                              refine cw_seq ?_
                              refine cw_region ?_
                              refine wl_u rfl (ow_y (yh_assign rfl rfl) rfl rfl (kk_wl ?_))
                              refine wl_nil ?_
                              refine ex_seq ?_
                              refine cw_ret ?_
                              refine ex_then_ret ?_
                              obtain rfl := Option.some.inj h
                              exact ex_r1 Tb rfl (.tmp rfl) (fun wq hq => ⟨_, rfl, hq.ext, rfl⟩)
                            · skip
                              replace h := bf c10 h
                              refine cw_skip ?_
                              refine ex_seq ?_
                              refine cw_seq ?_
                              refine cw_region ?_
                              refine wl_u rfl (ow_y (yh_assign rfl rfl) rfl rfl (kk_wl ?_))
                              refine wl_nil ?_
                              refine ex_seq ?_
                              refine cw_seq ?_
                              refine cw_region ?_
                              refine wl_u rfl (ow_y (yh_loadBA Tb (k := 2) rfl rfl rfl rfl rfl rfl) rfl rfl (kk_wl ?_))
                              refine wl_u rfl (ow_y (yh_move rfl rfl) rfl rfl (kk_wl ?_))
                              obtain ⟨x113, hx113, h⟩ := bd h
                              refine wl_u rfl (ow_cV rfl hb22 rfl (fun w hw => c_laws_heldFlow N _ _ _ hx113 w (rdo (A := stepsL) 3 rfl hw)) rfl rfl (kk_wl ?_))
                              refine wl_u rfl (ow_y (yh_assign rfl rfl) rfl rfl (kk_wl ?_))
                              refine wl_nil ?_
                              refine ex_seq ?_
                              refine cw_seq ?_
                              refine cw_seq ?_
                              refine cw_region ?_
                              refine wl_u rfl (ow_y (yh_move rfl rfl) rfl rfl (kk_wl ?_))
                              refine wl_u rfl (ow_y (yh_cmpI rfl rfl rfl rfl) rfl rfl (kk_wl ?_))
                              refine wl_nil ?_
                              refine ex_seq ?_
                              refine cw_split rfl (fun c11 => ?_) (fun c11 => ?_)
                              · skip
                                replace h := bt c11 h
                                have q11 := ltb_true.1 c11
                                refine cw_seq ?_
                                refine cw_region ?_
                                refine wl_u rfl (ow_y (yh_assign rfl rfl) rfl rfl (kk_wl ?_))
                                refine wl_nil ?_
                                refine ex_seq ?_
                                refine cw_ret ?_
                                refine ex_then_ret ?_
                                obtain rfl := Option.some.inj h
                                exact ex_r1 Tb rfl (.tmp rfl) (fun wq hq => ⟨_, rfl, hq.ext, rfl⟩)
                              · skip
                                replace h := bf c11 h
                                have q12 := ltb_false.1 c11
                                refine cw_skip ?_
                                refine ex_seq ?_
                                refine cw_seq ?_
                                refine cw_seq ?_
                                refine cw_region ?_
                                refine wl_u rfl (ow_y (yh_move rfl rfl) rfl rfl (kk_wl ?_))
                                refine wl_u rfl (ow_y (yh_move rfl rfl) rfl rfl (kk_wl ?_))
                                refine wl_u rfl (ow_y (yh_cmpI rfl rfl rfl rfl) rfl rfl (kk_wl ?_))
                                refine wl_nil ?_
                                refine ex_seq ?_
                                refine cw_split rfl (fun c12 => ?_) (fun c12 => ?_)
                                · skip
                                  replace h := bt c12 h
                                  have q13 := eqb_false.1 (nt c12)
                                  refine cw_seq ?_
                                  refine cw_region ?_
                                  refine wl_u rfl (ow_y (yh_assign rfl rfl) rfl rfl (kk_wl ?_))
                                  refine wl_nil ?_
                                  refine ex_seq ?_
                                  refine cw_ret ?_
                                  refine ex_then_ret ?_
                                  obtain rfl := Option.some.inj h
                                  exact ex_r1 Tb rfl (.tmp rfl) (fun wq hq => ⟨_, rfl, hq.ext, rfl⟩)
                                · skip
                                  replace h := bf c12 h
                                  have q14 := eqb_true.1 (nf c12)
                                  refine cw_skip ?_
                                  refine ex_seq ?_
                                  refine cw_seq ?_
                                  refine cw_region ?_
                                  refine wl_u rfl (ow_y (yh_assign rfl rfl) rfl rfl (kk_wl ?_))
                                  refine wl_nil ?_
                                  refine ex_seq ?_
                                  refine cw_ret ?_
                                  obtain rfl := Option.some.inj h
                                  exact ex_r1 Tb rfl (.tmp rfl) (fun wq hq => ⟨_, rfl, hq.ext, rfl⟩)
                        · skip
                          have h := he145
                          refine cw_dr [0, 2, 5, 6, 7, 10] [] [owC stepsL F85 [.slice a42 x85.2.length c42] x85.2, owC strsL F69 [.slice a38 x38.step.after.length c38] x69.2, owC stepsL F66 [.slice a36 x36.steps.length c36] x66.2, blkC g2 44 [.int .i64 u0.ver, .slice a_u0_steps u0.steps.length c_u0_steps], blkC g3 47 [.int .i64 u1.kind, .string u1.step.name, .slice a_u1_step_after u1.step.after.length c_u1_step_after, .bool u1.step.undo], blkC g6 25 [.int .i64 j111.1, .slice ak111_6_c_1 j111.2.1.length ck111_6_c_1], owC stepsL Fk111_6_c_1 [.slice ak111_6_c_1 j111.2.1.length ck111_6_c_1] j111.2.1, blkC g8 25 [.int .i64 x36.ver, .slice a36 x36.steps.length c36], blkC g9 30 [.int .i64 x38.kind, .string x38.step.name, .slice a38 x38.step.after.length c38, .bool x38.step.undo], blkC g10 25 [.int .i64 x42.1.ver, .slice a42 x85.2.length c42]] (by kernel_rfl) ?_
                          refine wd_take (i := 0) [0, 1, 2, 3, 4, 5, 6, 7, 8, 9] rfl rfl rfl rfl rfl (by kernel_rfl) (by kernel_rfl) (fun _ _ _ _ h => h) (yh_loadBA Tb (k := 3) rfl rfl rfl rfl rfl rfl) ?_
                          refine wd_take (i := 2) [0, 1, 2, 3, 4, 5, 6, 7, 8, 9] rfl rfl rfl rfl rfl (by kernel_rfl) (by kernel_rfl) (fun _ _ _ _ h => h) (yh_loadBA Tb (k := 4) rfl rfl rfl rfl rfl rfl) ?_
                          refine wd_all [1, 8] (by kernel_rfl) (by simp) (fun i hi => ?_)
                          simp only [List.mem_cons, List.not_mem_nil, or_false] at hi
                          rcases hi with rfl | rfl
                          · refine ⟨_, rfl, rfl, ?_⟩
                            obtain ⟨x96, hx96, h⟩ := bd h
                            refine (ow_cN1 rfl hb16 rfl (fun w hw => c_laws_toFlow N _ _ hx96 w (Lay.at_ h_u0_steps hw)) rfl rfl (fun a96 c96 F96 => kk_wd [1, 2, 3, 4, 5, 6, 7, 8, 9, 10] (by kernel_rfl) ?_))
                            refine wd_all [3, 8] (by kernel_rfl) (by simp) (fun i hi => ?_)
                            simp only [List.mem_cons, List.not_mem_nil, or_false] at hi
                            rcases hi with rfl | rfl
                            · refine ⟨_, rfl, rfl, ?_⟩
                              obtain ⟨x98, hx98, h⟩ := bd h
                              refine (ow_cN1 rfl hb17 rfl (fun w hw => c_laws_toChange N _ _ hx98 w (Lay.at_ h_u1_step_after hw)) rfl rfl (fun a98 c98 F98 => kk_wd [2, 3, 4, 5, 6, 7, 8, 9, 10, 11] (by kernel_rfl) ?_))
                              refine wd_all [4, 8] (by kernel_rfl) (by simp) (fun i hi => ?_)
                              simp only [List.mem_cons, List.not_mem_nil, or_false] at hi
                              rcases hi with rfl | rfl
                              · refine ⟨_, rfl, rfl, ?_⟩
                                obtain ⟨x99, hx99, h⟩ := bd h
                                refine (ow_cN1 rfl hb11 rfl (fun w hw => c_impl_FlowChange N _ _ _ hx99 w (rdo (A := stepsL) 1 rfl hw) (rdo (A := strsL) 0 rfl hw)) rfl rfl (fun a99 c99 F99 => kk_wd [3, 4, 5, 6, 7, 8, 9, 10, 11, 12] (by kernel_rfl) ?_))
                                refine wd_take (i := 5) [3, 4, 5, 6, 7, 8, 9, 10, 11, 12] rfl rfl rfl rfl rfl (by kernel_rfl) (by kernel_rfl) (fun _ _ _ _ h => h) (yh_move rfl rfl) ?_
                                refine wd_take (i := 6) [3, 4, 5, 6, 7, 8, 9, 10, 11, 12] rfl rfl rfl rfl rfl (by kernel_rfl) (by kernel_rfl) (fun _ _ _ _ h => h) (yh_extract rfl rfl rfl) ?_
                                refine wd_take (i := 7) [3, 4, 5, 6, 7, 8, 9, 10, 11, 12] rfl rfl rfl rfl rfl (by kernel_rfl) (by kernel_rfl) (fun _ _ _ _ h => h) (yh_extract rfl rfl rfl) ?_
                                refine wd_one 8 rfl rfl (by kernel_rfl) (ow_allocA Tb rfl rfl rfl rfl (fun g15 => kk_wd [4, 5, 6, 7, 8, 9, 10, 11, 12, 13] (by kernel_rfl) ?_))
                                refine wd_one 9 rfl rfl (by kernel_rfl) (ow_storeA Tb (k := 0) rfl rfl rfl rfl rfl rfl rfl rfl rfl (kk_wd [4, 5, 6, 7, 8, 9, 10, 11, 12, 13] (by kernel_rfl) ?_))
                                refine wd_take (i := 10) [4, 5, 6, 7, 8, 9, 10, 11, 12, 13] rfl rfl rfl rfl rfl (by kernel_rfl) (by kernel_rfl) (fun _ _ _ _ h => h) (yh_assign rfl rfl) ?_
                                refine wd_done (by kernel_rfl) ?_
                                obtain rfl := Option.some.inj h
                                exact ex_next [9, 10, 13, 4, 0, 1] (hn145 (g15, a99, c99, F99) trivial) ⟨rfl, rfl, rfl, rfl, rfl, rfl, trivial⟩ (by kernel_rfl)
                              · refine ⟨_, rfl, rfl, ?_⟩
                                refine (ow_allocA Tb rfl rfl rfl rfl (fun g15 => kk_wd [3, 4, 5, 6, 7, 8, 9, 10, 11, 12] (by kernel_rfl) ?_))
                                obtain ⟨x99, hx99, h⟩ := bd h
                                refine wd_one 4 rfl rfl (by kernel_rfl) (ow_cN1 rfl hb11 rfl (fun w hw => c_impl_FlowChange N _ _ _ hx99 w (rdo (A := stepsL) 2 rfl hw) (rdo (A := strsL) 1 rfl hw)) rfl rfl (fun a99 c99 F99 => kk_wd [4, 5, 6, 7, 8, 9, 10, 11, 12, 13] (by kernel_rfl) ?_))
                                refine wd_take (i := 5) [4, 5, 6, 7, 8, 9, 10, 11, 12, 13] rfl rfl rfl rfl rfl (by kernel_rfl) (by kernel_rfl) (fun _ _ _ _ h => h) (yh_move rfl rfl) ?_
                                refine wd_take (i := 6) [4, 5, 6, 7, 8, 9, 10, 11, 12, 13] rfl rfl rfl rfl rfl (by kernel_rfl) (by kernel_rfl) (fun _ _ _ _ h => h) (yh_extract rfl rfl rfl) ?_
                                refine wd_take (i := 7) [4, 5, 6, 7, 8, 9, 10, 11, 12, 13] rfl rfl rfl rfl rfl (by kernel_rfl) (by kernel_rfl) (fun _ _ _ _ h => h) (yh_extract rfl rfl rfl) ?_
                                refine wd_one 9 rfl rfl (by kernel_rfl) (ow_storeA Tb (k := 1) rfl rfl rfl rfl rfl rfl rfl rfl rfl (kk_wd [4, 5, 6, 7, 8, 9, 10, 11, 12, 13] (by kernel_rfl) ?_))
                                refine wd_take (i := 10) [4, 5, 6, 7, 8, 9, 10, 11, 12, 13] rfl rfl rfl rfl rfl (by kernel_rfl) (by kernel_rfl) (fun _ _ _ _ h => h) (yh_assign rfl rfl) ?_
                                refine wd_done (by kernel_rfl) ?_
                                obtain rfl := Option.some.inj h
                                exact ex_next [9, 10, 13, 4, 0, 1] (hn145 (g15, a99, c99, F99) trivial) ⟨rfl, rfl, rfl, rfl, rfl, rfl, trivial⟩ (by kernel_rfl)
                            · refine ⟨_, rfl, rfl, ?_⟩
                              refine (ow_allocA Tb rfl rfl rfl rfl (fun g15 => kk_wd [2, 3, 4, 5, 6, 7, 8, 9, 10, 11] (by kernel_rfl) ?_))
                              obtain ⟨x98, hx98, h⟩ := bd h
                              refine wd_one 3 rfl rfl (by kernel_rfl) (ow_cN1 rfl hb17 rfl (fun w hw => c_laws_toChange N _ _ hx98 w (Lay.at_ h_u1_step_after hw)) rfl rfl (fun a98 c98 F98 => kk_wd [3, 4, 5, 6, 7, 8, 9, 10, 11, 12] (by kernel_rfl) ?_))
                              obtain ⟨x99, hx99, h⟩ := bd h
                              refine wd_one 4 rfl rfl (by kernel_rfl) (ow_cN1 rfl hb11 rfl (fun w hw => c_impl_FlowChange N _ _ _ hx99 w (rdo (A := stepsL) 2 rfl hw) (rdo (A := strsL) 0 rfl hw)) rfl rfl (fun a99 c99 F99 => kk_wd [4, 5, 6, 7, 8, 9, 10, 11, 12, 13] (by kernel_rfl) ?_))
                              refine wd_take (i := 5) [4, 5, 6, 7, 8, 9, 10, 11, 12, 13] rfl rfl rfl rfl rfl (by kernel_rfl) (by kernel_rfl) (fun _ _ _ _ h => h) (yh_move rfl rfl) ?_
                              refine wd_take (i := 6) [4, 5, 6, 7, 8, 9, 10, 11, 12, 13] rfl rfl rfl rfl rfl (by kernel_rfl) (by kernel_rfl) (fun _ _ _ _ h => h) (yh_extract rfl rfl rfl) ?_
                              refine wd_take (i := 7) [4, 5, 6, 7, 8, 9, 10, 11, 12, 13] rfl rfl rfl rfl rfl (by kernel_rfl) (by kernel_rfl) (fun _ _ _ _ h => h) (yh_extract rfl rfl rfl) ?_
                              refine wd_one 9 rfl rfl (by kernel_rfl) (ow_storeA Tb (k := 2) rfl rfl rfl rfl rfl rfl rfl rfl rfl (kk_wd [4, 5, 6, 7, 8, 9, 10, 11, 12, 13] (by kernel_rfl) ?_))
                              refine wd_take (i := 10) [4, 5, 6, 7, 8, 9, 10, 11, 12, 13] rfl rfl rfl rfl rfl (by kernel_rfl) (by kernel_rfl) (fun _ _ _ _ h => h) (yh_assign rfl rfl) ?_
                              refine wd_done (by kernel_rfl) ?_
                              obtain rfl := Option.some.inj h
                              exact ex_next [9, 10, 13, 4, 0, 1] (hn145 (g15, a99, c99, F99) trivial) ⟨rfl, rfl, rfl, rfl, rfl, rfl, trivial⟩ (by kernel_rfl)
                          · refine ⟨_, rfl, rfl, ?_⟩
                            refine (ow_allocA Tb rfl rfl rfl rfl (fun g15 => kk_wd [1, 2, 3, 4, 5, 6, 7, 8, 9, 10] (by kernel_rfl) ?_))
                            obtain ⟨x96, hx96, h⟩ := bd h
                            refine wd_one 1 rfl rfl (by kernel_rfl) (ow_cN1 rfl hb16 rfl (fun w hw => c_laws_toFlow N _ _ hx96 w (Lay.at_ h_u0_steps hw)) rfl rfl (fun a96 c96 F96 => kk_wd [2, 3, 4, 5, 6, 7, 8, 9, 10, 11] (by kernel_rfl) ?_))
                            obtain ⟨x98, hx98, h⟩ := bd h
                            refine wd_one 3 rfl rfl (by kernel_rfl) (ow_cN1 rfl hb17 rfl (fun w hw => c_laws_toChange N _ _ hx98 w (Lay.at_ h_u1_step_after hw)) rfl rfl (fun a98 c98 F98 => kk_wd [3, 4, 5, 6, 7, 8, 9, 10, 11, 12] (by kernel_rfl) ?_))
                            obtain ⟨x99, hx99, h⟩ := bd h
                            refine wd_one 4 rfl rfl (by kernel_rfl) (ow_cN1 rfl hb11 rfl (fun w hw => c_impl_FlowChange N _ _ _ hx99 w (rdo (A := stepsL) 1 rfl hw) (rdo (A := strsL) 0 rfl hw)) rfl rfl (fun a99 c99 F99 => kk_wd [4, 5, 6, 7, 8, 9, 10, 11, 12, 13] (by kernel_rfl) ?_))
                            refine wd_take (i := 5) [4, 5, 6, 7, 8, 9, 10, 11, 12, 13] rfl rfl rfl rfl rfl (by kernel_rfl) (by kernel_rfl) (fun _ _ _ _ h => h) (yh_move rfl rfl) ?_
                            refine wd_take (i := 6) [4, 5, 6, 7, 8, 9, 10, 11, 12, 13] rfl rfl rfl rfl rfl (by kernel_rfl) (by kernel_rfl) (fun _ _ _ _ h => h) (yh_extract rfl rfl rfl) ?_
                            refine wd_take (i := 7) [4, 5, 6, 7, 8, 9, 10, 11, 12, 13] rfl rfl rfl rfl rfl (by kernel_rfl) (by kernel_rfl) (fun _ _ _ _ h => h) (yh_extract rfl rfl rfl) ?_
                            refine wd_one 9 rfl rfl (by kernel_rfl) (ow_storeA Tb (k := 3) rfl rfl rfl rfl rfl rfl rfl rfl rfl (kk_wd [4, 5, 6, 7, 8, 9, 10, 11, 12, 13] (by kernel_rfl) ?_))
                            refine wd_take (i := 10) [4, 5, 6, 7, 8, 9, 10, 11, 12, 13] rfl rfl rfl rfl rfl (by kernel_rfl) (by kernel_rfl) (fun _ _ _ _ h => h) (yh_assign rfl rfl) ?_
                            refine wd_done (by kernel_rfl) ?_
                            obtain rfl := Option.some.inj h
                            exact ex_next [9, 10, 13, 4, 0, 1] (hn145 (g15, a99, c99, F99) trivial) ⟨rfl, rfl, rfl, rfl, rfl, rfl, trivial⟩ (by kernel_rfl)
              · skip
                have h := he124
                refine cw_seq ?_
                refine cw_dr [0, 1, 4] [] [blkC g2 44 [.int .i64 u0.ver, .slice a_u0_steps u0.steps.length c_u0_steps], blkC g3 47 [.int .i64 u1.kind, .string u1.step.name, .slice a_u1_step_after u1.step.after.length c_u1_step_after, .bool u1.step.undo], blkC g6 25 [.int .i64 j111.1, .slice ak111_6_c_1 j111.2.1.length ck111_6_c_1], owC stepsL Fk111_6_c_1 [.slice ak111_6_c_1 j111.2.1.length ck111_6_c_1] j111.2.1, blkC g8 25 [.int .i64 x36.ver, .slice a36 x36.steps.length c36], owC stepsL F36 [.slice a36 x36.steps.length c36] x36.steps, blkC g9 30 [.int .i64 x38.kind, .string x38.step.name, .slice a38 x38.step.after.length c38, .bool x38.step.undo], owC strsL F38 [.slice a38 x38.step.after.length c38] x38.step.after, blkC g10 25 [.int .i64 x42.1.ver, .slice a42 x42.1.steps.length c42], owC stepsL F42 [.slice a42 x42.1.steps.length c42] x42.1.steps] (by kernel_rfl) ?_
                refine wd_take (i := 0) [0, 1, 2, 3, 4, 5, 6, 7, 8, 9] rfl rfl rfl rfl rfl (by kernel_rfl) (by kernel_rfl) (fun _ _ _ _ h => h) (yh_loadBA Tb (k := 6) rfl rfl rfl rfl rfl rfl) ?_
                refine wd_take (i := 1) [0, 1, 2, 3, 4, 5, 6, 7, 8, 9] rfl rfl rfl rfl rfl (by kernel_rfl) (by kernel_rfl) (fun _ _ _ _ h => h) (yh_loadBA Tb (k := 1) rfl rfl rfl rfl rfl rfl) ?_
                obtain ⟨x61, hx61, h⟩ := bd h
                refine wd_one 2 rfl rfl (by kernel_rfl) (ow_cN1 rfl hb17 rfl (fun w hw => c_laws_toChange N _ _ hx61 w (Lay.at_ h_u1_step_after hw)) rfl rfl (fun a61 c61 F61 => kk_wd [1, 2, 3, 4, 5, 6, 7, 8, 9, 10] (by kernel_rfl) ?_))
                obtain ⟨x62, hx62, h⟩ := bd h
                refine wd_one 3 rfl rfl (by kernel_rfl) (ow_cV rfl hb19 rfl (fun w hw => c_laws_eqChange N _ _ _ hx62 w (rdo (A := strsL) 8 rfl hw) (rdo (A := strsL) 0 rfl hw)) rfl rfl (kk_wd [1, 2, 3, 4, 5, 6, 7, 8, 9, 10] (by kernel_rfl) ?_))
                refine wd_take (i := 4) [1, 2, 3, 4, 5, 6, 7, 8, 9, 10] rfl rfl rfl rfl rfl (by kernel_rfl) (by kernel_rfl) (fun _ _ _ _ h => h) (yh_not rfl rfl) ?_
                refine wd_done (by kernel_rfl) ?_
                refine ex_seq ?_
                refine cw_split rfl (fun c13 => ?_) (fun c13 => ?_)
                · skip
                  replace h := bt c13 h
                  refine cw_seq ?_
                  refine cw_region ?_
                  refine wl_u rfl (ow_y (yh_assign rfl rfl) rfl rfl (kk_wl ?_))
                  refine wl_nil ?_
                  refine ex_seq ?_
                  refine cw_ret ?_
                  refine ex_then_ret ?_
                  obtain rfl := Option.some.inj h
                  obtain rfl := go_ret hk124
                  exact ex_r1 Tb rfl (.tmp rfl) (fun wq hq => ⟨_, rfl, hq.ext, rfl⟩)
                · skip
                  replace h := bf c13 h
                  refine cw_skip ?_
                  obtain rfl := Option.some.inj h
                  exact ex_next [1, 2, 3, 4, 5, 6, 7, 8, 9, 10] (hn124 ((), ()) rfl) ⟨rfl, rfl, rfl, rfl, rfl, rfl, rfl, rfl, trivial⟩ (by kernel_rfl)
            · skip
              have h := he120
              refine cw_seq ?_
              refine cw_dr [0, 1, 4] [] [blkC g10 25 [.int .i64 x42.1.ver, .slice a42 x42.1.steps.length c42], owC stepsL F42 [.slice a42 x42.1.steps.length c42] x42.1.steps, blkC g9 30 [.int .i64 x38.kind, .string x38.step.name, .slice a38 x38.step.after.length c38, .bool x38.step.undo], owC strsL F38 [.slice a38 x38.step.after.length c38] x38.step.after, blkC g8 25 [.int .i64 x36.ver, .slice a36 x36.steps.length c36], owC stepsL F36 [.slice a36 x36.steps.length c36] x36.steps, blkC g2 44 [.int .i64 u0.ver, .slice a_u0_steps u0.steps.length c_u0_steps], blkC g3 47 [.int .i64 u1.kind, .string u1.step.name, .slice a_u1_step_after u1.step.after.length c_u1_step_after, .bool u1.step.undo], blkC g6 25 [.int .i64 j111.1, .slice ak111_6_c_1 j111.2.1.length ck111_6_c_1], owC stepsL Fk111_6_c_1 [.slice ak111_6_c_1 j111.2.1.length ck111_6_c_1] j111.2.1] (by kernel_rfl) ?_
              refine wd_take (i := 0) [0, 1, 2, 3, 4, 5, 6, 7, 8, 9] rfl rfl rfl rfl rfl (by kernel_rfl) (by kernel_rfl) (fun _ _ _ _ h => h) (yh_loadBA Tb (k := 4) rfl rfl rfl rfl rfl rfl) ?_
              refine wd_take (i := 1) [0, 1, 2, 3, 4, 5, 6, 7, 8, 9] rfl rfl rfl rfl rfl (by kernel_rfl) (by kernel_rfl) (fun _ _ _ _ h => h) (yh_loadBA Tb (k := 6) rfl rfl rfl rfl rfl rfl) ?_
              obtain ⟨x56, hx56, h⟩ := bd h
              refine wd_one 2 rfl rfl (by kernel_rfl) (ow_cN1 rfl hb16 rfl (fun w hw => c_laws_toFlow N _ _ hx56 w (Lay.at_ h_u0_steps hw)) rfl rfl (fun a56 c56 F56 => kk_wd [1, 2, 3, 4, 5, 6, 7, 8, 9, 10] (by kernel_rfl) ?_))
              obtain ⟨x57, hx57, h⟩ := bd h
              refine wd_one 3 rfl rfl (by kernel_rfl) (ow_cV rfl hb18 rfl (fun w hw => c_laws_eqFlow N _ _ _ hx57 w (rdo (A := stepsL) 6 rfl hw) (rdo (A := stepsL) 0 rfl hw)) rfl rfl (kk_wd [1, 2, 3, 4, 5, 6, 7, 8, 9, 10] (by kernel_rfl) ?_))
              refine wd_take (i := 4) [1, 2, 3, 4, 5, 6, 7, 8, 9, 10] rfl rfl rfl rfl rfl (by kernel_rfl) (by kernel_rfl) (fun _ _ _ _ h => h) (yh_not rfl rfl) ?_
              refine wd_done (by kernel_rfl) ?_
              refine ex_seq ?_
              refine cw_split rfl (fun c14 => ?_) (fun c14 => ?_)
              · skip
                replace h := bt c14 h
                refine cw_seq ?_
                refine cw_region ?_
                refine wl_u rfl (ow_y (yh_assign rfl rfl) rfl rfl (kk_wl ?_))
                refine wl_nil ?_
                refine ex_seq ?_
                refine cw_ret ?_
                refine ex_then_ret ?_
                obtain rfl := Option.some.inj h
                obtain rfl := go_ret hk120
                exact ex_r1 Tb rfl (.tmp rfl) (fun wq hq => ⟨_, rfl, hq.ext, rfl⟩)
              · skip
                replace h := bf c14 h
                refine cw_skip ?_
                obtain rfl := Option.some.inj h
                exact ex_next [7, 8, 9, 10, 5, 6, 3, 4, 1, 2] (hn120 ((), ()) rfl) ⟨rfl, rfl, rfl, rfl, rfl, rfl, rfl, rfl, trivial⟩ (by kernel_rfl)
      · skip
        have h := he111
        refine cw_dr [0, 2, 5, 6, 7, 10] [] [blkC g3 47 [.int .i64 u1.kind, .string u1.step.name, .slice a_u1_step_after u1.step.after.length c_u1_step_after, .bool u1.step.undo], blkC g2 44 [.int .i64 u0.ver, .slice a_u0_steps u0.steps.length c_u0_steps]] (by kernel_rfl) ?_
        refine wd_take (i := 0) [0, 1] rfl rfl rfl rfl rfl (by kernel_rfl) (by kernel_rfl) (fun _ _ _ _ h => h) (yh_loadBA Tb (k := 1) rfl rfl rfl rfl rfl rfl) ?_
        refine wd_take (i := 2) [0, 1] rfl rfl rfl rfl rfl (by kernel_rfl) (by kernel_rfl) (fun _ _ _ _ h => h) (yh_loadBA Tb (k := 0) rfl rfl rfl rfl rfl rfl) ?_
        refine wd_all [1, 8] (by kernel_rfl) (by simp) (fun i hi => ?_)
        simp only [List.mem_cons, List.not_mem_nil, or_false] at hi
        rcases hi with rfl | rfl
        · refine ⟨_, rfl, rfl, ?_⟩
          obtain ⟨x29, hx29, h⟩ := bd h
          refine (ow_cN1 rfl hb16 rfl (fun w hw => c_laws_toFlow N _ _ hx29 w (Lay.at_ h_u0_steps hw)) rfl rfl (fun a29 c29 F29 => kk_wd [1, 2] (by kernel_rfl) ?_))
          refine wd_all [3, 8] (by kernel_rfl) (by simp) (fun i hi => ?_)
          simp only [List.mem_cons, List.not_mem_nil, or_false] at hi
          rcases hi with rfl | rfl
          · refine ⟨_, rfl, rfl, ?_⟩
            obtain ⟨x31, hx31, h⟩ := bd h
            refine (ow_cN1 rfl hb17 rfl (fun w hw => c_laws_toChange N _ _ hx31 w (Lay.at_ h_u1_step_after hw)) rfl rfl (fun a31 c31 F31 => kk_wd [2, 3] (by kernel_rfl) ?_))
            refine wd_all [4, 8] (by kernel_rfl) (by simp) (fun i hi => ?_)
            simp only [List.mem_cons, List.not_mem_nil, or_false] at hi
            rcases hi with rfl | rfl
            · refine ⟨_, rfl, rfl, ?_⟩
              obtain ⟨x32, hx32, h⟩ := bd h
              refine (ow_cN1 rfl hb15 rfl (fun w hw => c_spec_FlowChange N _ _ _ hx32 w (rdo (A := stepsL) 1 rfl hw) (rdo (A := strsL) 0 rfl hw)) rfl rfl (fun a32 c32 F32 => kk_wd [3, 4] (by kernel_rfl) ?_))
              refine wd_take (i := 5) [3, 4] rfl rfl rfl rfl rfl (by kernel_rfl) (by kernel_rfl) (fun _ _ _ _ h => h) (yh_move rfl rfl) ?_
              refine wd_take (i := 6) [3, 4] rfl rfl rfl rfl rfl (by kernel_rfl) (by kernel_rfl) (fun _ _ _ _ h => h) (yh_extract rfl rfl rfl) ?_
              refine wd_take (i := 7) [3, 4] rfl rfl rfl rfl rfl (by kernel_rfl) (by kernel_rfl) (fun _ _ _ _ h => h) (yh_extract rfl rfl rfl) ?_
              refine wd_one 8 rfl rfl (by kernel_rfl) (ow_allocA Tb rfl rfl rfl rfl (fun g6 => kk_wd [4, 5] (by kernel_rfl) ?_))
              refine wd_one 9 rfl rfl (by kernel_rfl) (ow_storeA Tb (k := 0) rfl rfl rfl rfl rfl rfl rfl rfl rfl (kk_wd [4, 5] (by kernel_rfl) ?_))
              refine wd_take (i := 10) [4, 5] rfl rfl rfl rfl rfl (by kernel_rfl) (by kernel_rfl) (fun _ _ _ _ h => h) (yh_assign rfl rfl) ?_
              refine wd_done (by kernel_rfl) ?_
              obtain rfl := Option.some.inj h
              exact ex_next [5, 4, 0, 1] (hn111 (g6, a32, c32, F32) trivial) ⟨rfl, rfl, rfl, rfl, trivial⟩ (by kernel_rfl)
            · refine ⟨_, rfl, rfl, ?_⟩
              refine (ow_allocA Tb rfl rfl rfl rfl (fun g6 => kk_wd [3, 4] (by kernel_rfl) ?_))
              obtain ⟨x32, hx32, h⟩ := bd h
              refine wd_one 4 rfl rfl (by kernel_rfl) (ow_cN1 rfl hb15 rfl (fun w hw => c_spec_FlowChange N _ _ _ hx32 w (rdo (A := stepsL) 2 rfl hw) (rdo (A := strsL) 1 rfl hw)) rfl rfl (fun a32 c32 F32 => kk_wd [4, 5] (by kernel_rfl) ?_))
              refine wd_take (i := 5) [4, 5] rfl rfl rfl rfl rfl (by kernel_rfl) (by kernel_rfl) (fun _ _ _ _ h => h) (yh_move rfl rfl) ?_
              refine wd_take (i := 6) [4, 5] rfl rfl rfl rfl rfl (by kernel_rfl) (by kernel_rfl) (fun _ _ _ _ h => h) (yh_extract rfl rfl rfl) ?_
              refine wd_take (i := 7) [4, 5] rfl rfl rfl rfl rfl (by kernel_rfl) (by kernel_rfl) (fun _ _ _ _ h => h) (yh_extract rfl rfl rfl) ?_
              refine wd_one 9 rfl rfl (by kernel_rfl) (ow_storeA Tb (k := 1) rfl rfl rfl rfl rfl rfl rfl rfl rfl (kk_wd [4, 5] (by kernel_rfl) ?_))
              refine wd_take (i := 10) [4, 5] rfl rfl rfl rfl rfl (by kernel_rfl) (by kernel_rfl) (fun _ _ _ _ h => h) (yh_assign rfl rfl) ?_
              refine wd_done (by kernel_rfl) ?_
              obtain rfl := Option.some.inj h
              exact ex_next [5, 4, 0, 1] (hn111 (g6, a32, c32, F32) trivial) ⟨rfl, rfl, rfl, rfl, trivial⟩ (by kernel_rfl)
          · refine ⟨_, rfl, rfl, ?_⟩
            refine (ow_allocA Tb rfl rfl rfl rfl (fun g6 => kk_wd [2, 3] (by kernel_rfl) ?_))
            obtain ⟨x31, hx31, h⟩ := bd h
            refine wd_one 3 rfl rfl (by kernel_rfl) (ow_cN1 rfl hb17 rfl (fun w hw => c_laws_toChange N _ _ hx31 w (Lay.at_ h_u1_step_after hw)) rfl rfl (fun a31 c31 F31 => kk_wd [3, 4] (by kernel_rfl) ?_))
            obtain ⟨x32, hx32, h⟩ := bd h
            refine wd_one 4 rfl rfl (by kernel_rfl) (ow_cN1 rfl hb15 rfl (fun w hw => c_spec_FlowChange N _ _ _ hx32 w (rdo (A := stepsL) 2 rfl hw) (rdo (A := strsL) 0 rfl hw)) rfl rfl (fun a32 c32 F32 => kk_wd [4, 5] (by kernel_rfl) ?_))
            refine wd_take (i := 5) [4, 5] rfl rfl rfl rfl rfl (by kernel_rfl) (by kernel_rfl) (fun _ _ _ _ h => h) (yh_move rfl rfl) ?_
            refine wd_take (i := 6) [4, 5] rfl rfl rfl rfl rfl (by kernel_rfl) (by kernel_rfl) (fun _ _ _ _ h => h) (yh_extract rfl rfl rfl) ?_
            refine wd_take (i := 7) [4, 5] rfl rfl rfl rfl rfl (by kernel_rfl) (by kernel_rfl) (fun _ _ _ _ h => h) (yh_extract rfl rfl rfl) ?_
            refine wd_one 9 rfl rfl (by kernel_rfl) (ow_storeA Tb (k := 2) rfl rfl rfl rfl rfl rfl rfl rfl rfl (kk_wd [4, 5] (by kernel_rfl) ?_))
            refine wd_take (i := 10) [4, 5] rfl rfl rfl rfl rfl (by kernel_rfl) (by kernel_rfl) (fun _ _ _ _ h => h) (yh_assign rfl rfl) ?_
            refine wd_done (by kernel_rfl) ?_
            obtain rfl := Option.some.inj h
            exact ex_next [5, 4, 0, 1] (hn111 (g6, a32, c32, F32) trivial) ⟨rfl, rfl, rfl, rfl, trivial⟩ (by kernel_rfl)
        · refine ⟨_, rfl, rfl, ?_⟩
          refine (ow_allocA Tb rfl rfl rfl rfl (fun g6 => kk_wd [1, 2] (by kernel_rfl) ?_))
          obtain ⟨x29, hx29, h⟩ := bd h
          refine wd_one 1 rfl rfl (by kernel_rfl) (ow_cN1 rfl hb16 rfl (fun w hw => c_laws_toFlow N _ _ hx29 w (Lay.at_ h_u0_steps hw)) rfl rfl (fun a29 c29 F29 => kk_wd [2, 3] (by kernel_rfl) ?_))
          obtain ⟨x31, hx31, h⟩ := bd h
          refine wd_one 3 rfl rfl (by kernel_rfl) (ow_cN1 rfl hb17 rfl (fun w hw => c_laws_toChange N _ _ hx31 w (Lay.at_ h_u1_step_after hw)) rfl rfl (fun a31 c31 F31 => kk_wd [3, 4] (by kernel_rfl) ?_))
          obtain ⟨x32, hx32, h⟩ := bd h
          refine wd_one 4 rfl rfl (by kernel_rfl) (ow_cN1 rfl hb15 rfl (fun w hw => c_spec_FlowChange N _ _ _ hx32 w (rdo (A := stepsL) 1 rfl hw) (rdo (A := strsL) 0 rfl hw)) rfl rfl (fun a32 c32 F32 => kk_wd [4, 5] (by kernel_rfl) ?_))
          refine wd_take (i := 5) [4, 5] rfl rfl rfl rfl rfl (by kernel_rfl) (by kernel_rfl) (fun _ _ _ _ h => h) (yh_move rfl rfl) ?_
          refine wd_take (i := 6) [4, 5] rfl rfl rfl rfl rfl (by kernel_rfl) (by kernel_rfl) (fun _ _ _ _ h => h) (yh_extract rfl rfl rfl) ?_
          refine wd_take (i := 7) [4, 5] rfl rfl rfl rfl rfl (by kernel_rfl) (by kernel_rfl) (fun _ _ _ _ h => h) (yh_extract rfl rfl rfl) ?_
          refine wd_one 9 rfl rfl (by kernel_rfl) (ow_storeA Tb (k := 3) rfl rfl rfl rfl rfl rfl rfl rfl rfl (kk_wd [4, 5] (by kernel_rfl) ?_))
          refine wd_take (i := 10) [4, 5] rfl rfl rfl rfl rfl (by kernel_rfl) (by kernel_rfl) (fun _ _ _ _ h => h) (yh_assign rfl rfl) ?_
          refine wd_done (by kernel_rfl) ?_
          obtain rfl := Option.some.inj h
          exact ex_next [5, 4, 0, 1] (hn111 (g6, a32, c32, F32) trivial) ⟨rfl, rfl, rfl, rfl, trivial⟩ (by kernel_rfl)

def m_laws_szRun (N : Nat) (a : Run) (left : Int) : Option (Int) := (m_laws_szStringS N a.done left).bind fun x8 => (bif ltb x8 0 then some (-1)
 else some x8)

set_option maxHeartbeats 4000000 in
theorem c_laws_szRun (N : Nat) (a : Run) (left : Int) (res : Int) (h : m_laws_szRun N a left = some res) (w : World) {a_a_done : Option Addr} {c_a_done : Nat} (h_a_done : strsL.rd w [] [.slice a_a_done a.done.length c_a_done] a.done) : Ret Tryz.prog 23 [.agg #[.int .i64 a.state, .slice a_a_done a.done.length c_a_done], .int .i64 left] w [] fun v w' => v = .int .i64 res := by
  have mh_a_done := rd_max h_a_done
  unfold m_laws_szRun at h
  refine ret_enter Tryz.func23 rfl Tryz.ntmps23 rfl (Hp.refl w _) ?_
  refine cw_seq ?_
  refine cw_region ?_
  refine wl_u rfl (ow_boxA rfl rfl rfl rfl (fun g2 => kk_wl ?_))
  refine wl_u rfl (ow_y (yh_assign rfl rfl) rfl rfl (kk_wl ?_))
  refine wl_nil ?_
  refine ex_seq ?_
  refine cw_seq ?_
  refine cw_region ?_
  refine wl_u rfl (ow_y (yh_field Tb rfl rfl rfl) rfl rfl (kk_wl ?_))
  refine wl_u rfl (ow_y (yh_loadB Tb (k := 0) rfl rfl rfl rfl rfl) rfl rfl (kk_wl ?_))
  refine wl_u rfl (ow_y (yh_move rfl rfl) rfl rfl (kk_wl ?_))
  obtain ⟨x8, hx8, h⟩ := bd h
  refine wl_u rfl (ow_cV rfl hb61 rfl (fun w hw => c_laws_szStringS N _ _ _ hx8 w (Lay.at_ h_a_done hw)) rfl rfl (kk_wl ?_))
  refine wl_u rfl (ow_y (yh_assign rfl rfl) rfl rfl (kk_wl ?_))
  refine wl_nil ?_
  refine ex_seq ?_
  refine cw_seq ?_
  refine cw_seq ?_
  refine cw_region ?_
  refine wl_u rfl (ow_y (yh_move rfl rfl) rfl rfl (kk_wl ?_))
  refine wl_u rfl (ow_y (yh_cmpI rfl rfl rfl rfl) rfl rfl (kk_wl ?_))
  refine wl_nil ?_
  refine ex_seq ?_
  refine cw_split rfl (fun c1 => ?_) (fun c1 => ?_)
  · skip
    replace h := bt c1 h
    have q1 := ltb_true.1 c1
    refine cw_seq ?_
    refine cw_region ?_
    refine wl_u rfl (ow_y (yh_assign rfl rfl) rfl rfl (kk_wl ?_))
    refine wl_nil ?_
    refine ex_seq ?_
    refine cw_ret ?_
    refine ex_then_ret ?_
    obtain rfl := Option.some.inj h
    exact ex_r1 Tb rfl (.tmp rfl) (fun wq hq => ⟨_, rfl, hq.ext, rfl⟩)
  · skip
    replace h := bf c1 h
    have q2 := ltb_false.1 c1
    refine cw_skip ?_
    refine ex_seq ?_
    refine cw_seq ?_
    refine cw_region ?_
    refine wl_u rfl (ow_y (yh_move rfl rfl) rfl rfl (kk_wl ?_))
    refine wl_u rfl (ow_y (yh_assign rfl rfl) rfl rfl (kk_wl ?_))
    refine wl_nil ?_
    refine ex_seq ?_
    refine cw_ret ?_
    obtain rfl := Option.some.inj h
    exact ex_r1 Tb rfl (.tmp rfl) (fun wq hq => ⟨_, rfl, hq.ext, rfl⟩)

def m_laws_toRun (N : Nat) (a : Run) : Option (Run) := (m_laws_toStringS N a.done).bind fun x9 => some (Run.mk a.state x9)

set_option maxHeartbeats 4000000 in
theorem c_laws_toRun (N : Nat) (a : Run) (res : Run) (h : m_laws_toRun N a = some res) (w : World) {a_a_done : Option Addr} {c_a_done : Nat} (h_a_done : strsL.rd w [] [.slice a_a_done a.done.length c_a_done] a.done) : Ret Tryz.prog 24 [.agg #[.int .i64 a.state, .slice a_a_done a.done.length c_a_done]] w [] fun v w' => ∃ a1 c1 F1, v = .agg #[.int .i64 res.state, .slice a1 res.done.length c1] ∧ NewC w w' [owC strsL F1 [.slice a1 res.done.length c1] res.done] := by
  have mh_a_done := rd_max h_a_done
  unfold m_laws_toRun at h
  refine ret_enter Tryz.func24 rfl Tryz.ntmps24 rfl (Hp.refl w _) ?_
  refine cw_seq ?_
  refine cw_region ?_
  refine wl_u rfl (ow_boxA rfl rfl rfl rfl (fun g1 => kk_wl ?_))
  refine wl_u rfl (ow_allocA Tb rfl rfl rfl rfl (fun g2 => kk_wl ?_))
  refine wl_nil ?_
  refine ex_seq ?_
  refine cw_seq ?_
  refine cw_region ?_
  refine wl_u rfl (ow_allocA Tb rfl rfl rfl rfl (fun g3 => kk_wl ?_))
  refine wl_nil ?_
  refine ex_seq ?_
  refine cw_seq ?_
  refine cw_region ?_
  refine wl_u rfl (ow_y (yh_field Tb rfl rfl rfl) rfl rfl (kk_wl ?_))
  refine wl_u rfl (ow_y (yh_loadB Tb (k := 2) rfl rfl rfl rfl rfl) rfl rfl (kk_wl ?_))
  refine wl_u rfl (ow_y (yh_field Tb rfl rfl rfl) rfl rfl (kk_wl ?_))
  refine wl_u rfl (ow_store1 Tb (k := 0) rfl rfl rfl rfl rfl rfl rfl rfl rfl (kk_wl ?_))
  refine wl_nil ?_
  refine ex_seq ?_
  refine cw_seq ?_
  refine cw_region ?_
  refine wl_u rfl (ow_y (yh_field Tb rfl rfl rfl) rfl rfl (kk_wl ?_))
  refine wl_u rfl (ow_y (yh_loadB Tb (k := 2) rfl rfl rfl rfl rfl) rfl rfl (kk_wl ?_))
  obtain ⟨x9, hx9, h⟩ := bd h
  refine wl_u rfl (ow_cN1 rfl hb62 rfl (fun w hw => c_laws_toStringS N _ _ hx9 w (Lay.at_ h_a_done hw)) rfl rfl (fun a9 c9 F9 => kk_wl ?_))
  refine wl_u rfl (ow_y (yh_field Tb rfl rfl rfl) rfl rfl (kk_wl ?_))
  refine wl_u rfl (ow_store1 Tb (k := 1) rfl rfl rfl rfl rfl rfl rfl rfl rfl (kk_wl ?_))
  refine wl_nil ?_
  refine ex_seq ?_
  refine cw_seq ?_
  refine cw_region ?_
  refine wl_u rfl (ow_y (yh_loadBA Tb (k := 0) rfl rfl rfl rfl rfl rfl) rfl rfl (kk_wl ?_))
  refine wl_u rfl (ow_storeA Tb (k := 2) rfl rfl rfl rfl rfl rfl rfl rfl rfl (kk_wl ?_))
  refine wl_nil ?_
  refine ex_seq ?_
  refine cw_ret ?_
  obtain rfl := Option.some.inj h
  exact ex_r1 Tb rfl (.cellA 0 rfl rfl rfl rfl rfl) (fun wq hq => ⟨_, rfl, hq.ext, ⟨a9, c9, F9, rfl, NewC.sel [2] hq rfl⟩⟩)

def m_spec_l3Order_L5 (N : Nat) (steps : List Step) (done : List Str) : Nat → Nat → Option (Ex (Nat) (Bool))
  | 0, _ => none
  | n + 1, s5 => (bif ltb ((s5 : Nat) : Int) ((done.length : Nat) : Int) then (done[s5]?).bind fun y16 => (m_spec_l2At N steps y16).bind fun x18 => (bif ltb x18 0 then some (Ex.ret false)
 else (m_spec_l1At N done y16).bind fun x27 => (bif ltb x27 ((s5 : Nat) : Int) then some (Ex.ret false)
 else (slTo done ((s5 : Nat) : Int)).bind fun l34 => (geti steps x18).bind fun y37 => (m_spec_l1Have N l34 y37.after).bind fun x40 => (bif !x40 then some (Ex.ret false)
 else m_spec_l3Order_L5 N steps done n (s5 + 1))))
 else some (Ex.brk (s5)))

def m_spec_l3Order (N : Nat) (steps : List Step) (done : List Str) : Option (Bool) := (m_spec_l3Order_L5 N steps done N 0).bind fun e5 => e5.go (fun r => r) fun b5 => some true

set_option maxHeartbeats 4000000 in
theorem c_spec_l3Order (N : Nat) (steps : List Step) (done : List Str) (res : Bool) (h : m_spec_l3Order N steps done = some res) (w : World) {a_done a_steps : Option Addr} {c_done c_steps : Nat} (h_steps : stepsL.rd w [] [.slice a_steps steps.length c_steps] steps) (h_done : strsL.rd w [] [.slice a_done done.length c_done] done) : Ret Tryz.prog 36 [.slice a_steps steps.length c_steps, .slice a_done done.length c_done] w [] fun v w' => v = .bool res := by
  have mh_steps := rd_max h_steps
  have mh_done := rd_max h_done
  unfold m_spec_l3Order at h
  refine ret_enter Tryz.func36 rfl Tryz.ntmps36 rfl (Hp.refl w _) ?_
  refine cw_seq ?_
  refine cw_region ?_
  refine wl_u rfl (ow_y (yh_assign rfl rfl) rfl rfl (kk_wl ?_))
  refine wl_nil ?_
  refine ex_seq ?_
  refine cw_seq ?_
  refine cw_seq ?_
  refine cw_region ?_
  refine wl_u rfl (ow_y (yh_assign rfl rfl) rfl rfl (kk_wl ?_))
  refine wl_nil ?_
  refine ex_seq ?_
  refine cw_block ?_
  obtain ⟨e5, he5, hk5⟩ := bd h
  clear h
  refine cw_loopG (σ := Nat × Nat) (fun s => m_spec_l3Order_L5 N steps done s.1 s.2 = some e5) (fun s => [(0, .slice a_steps steps.length c_steps), (1, .slice a_done done.length c_done), (5, .int .i64 ((s.2 : Nat) : Int))]) (fun s => []) (fun s => s.1) (N, 0) [] he5 ⟨rfl, rfl, rfl, trivial⟩ rfl (fun KL s he5 hn5 => ?_)
  obtain ⟨n5, s5⟩ := s
  simp only at he5 hn5 ⊢
  rcases n5 with _ | n5
  · exact nosome he5
  have h := he5; rw [m_spec_l3Order_L5] at h
  refine cw_seq ?_
  refine cw_seq ?_
  refine cw_region ?_
  refine wl_u rfl (ow_y (yh_move rfl rfl) rfl rfl (kk_wl ?_))
  refine wl_u rfl (ow_y (yh_move rfl rfl) rfl rfl (kk_wl ?_))
  refine wl_u rfl (ow_y (yh_lenS Tb rfl rfl rfl rfl) rfl rfl (kk_wl ?_))
  refine wl_u rfl (ow_y (yh_cmpI rfl rfl rfl rfl) rfl rfl (kk_wl ?_))
  refine wl_nil ?_
  refine ex_seq ?_
  refine cw_split rfl (fun c1 => ?_) (fun c1 => ?_)
  · skip
    replace h := bt c1 h
    have q1 := ltb_true.1 c1
    refine cw_skip ?_
    refine ex_seq ?_
    refine cw_seq ?_
    refine cw_block ?_
    refine cw_seq ?_
    refine cw_region ?_
    refine wl_u rfl (ow_y (yh_move rfl rfl) rfl rfl (kk_wl ?_))
    refine wl_u rfl (ow_y (yh_move rfl rfl) rfl rfl (kk_wl ?_))
    refine wl_u rfl (ow_y (yh_move rfl rfl) rfl rfl (kk_wl ?_))
    obtain ⟨y16, hy16, h⟩ := bd h
    obtain ⟨b16, o16, ha16⟩ := sl_addr h_done hy16
    subst ha16
    have hc16 := get_str h_done hy16
    refine wl_u rfl (ow_y (yh_idx Tb (k := s5) rfl rfl rfl rfl (get_lt hy16) rfl rfl) rfl rfl (kk_wl ?_))
    refine wl_u rfl (ow_y (yh_loadA0 Tb rfl rfl rfl hc16 rfl) rfl rfl (kk_wl ?_))
    obtain ⟨x18, hx18, h⟩ := bd h
    refine wl_u rfl (ow_cV rfl hb74 rfl (fun w hw => c_spec_l2At N _ _ _ hx18 w (Lay.at_ h_steps hw)) rfl rfl (kk_wl ?_))
    refine wl_u rfl (ow_y (yh_assign rfl rfl) rfl rfl (kk_wl ?_))
    refine wl_nil ?_
    refine ex_seq ?_
    refine cw_seq ?_
    refine cw_dr [0, 1, 2, 3, 4, 5, 6, 7, 9, 10, 11, 12, 13, 14, 15, 16, 17, 18, 19, 20, 22, 23] [] [] (by kernel_rfl) ?_
    refine wd_take (i := 0) [] rfl rfl rfl rfl rfl (by kernel_rfl) (by kernel_rfl) (fun _ _ _ _ h => h) (yh_move rfl rfl) ?_
    refine wd_take (i := 1) [] rfl rfl rfl rfl rfl (by kernel_rfl) (by kernel_rfl) (fun _ _ _ _ h => h) (yh_cmpI rfl rfl rfl rfl) ?_
    refine wd_take (i := 2) [] rfl rfl rfl rfl rfl (by kernel_rfl) (by kernel_rfl) (fun _ _ _ _ h => h) (yh_move rfl rfl) ?_
    refine wd_split 3 rfl rfl rfl (fun c2 => ?_) (fun c2 => ?_)
    · skip
      replace h := bt c2 h
      have q2 := ltb_true.1 c2
      refine wd_skip (i := 3) [] rfl rfl rfl rfl (by kernel_rfl) (by kernel_rfl) (fun _ _ _ h => h) ?_
      refine wd_skip (i := 4) [] rfl rfl rfl rfl (by kernel_rfl) (by kernel_rfl) (fun _ _ _ h => h) ?_
      refine wd_skip (i := 5) [] rfl rfl rfl rfl (by kernel_rfl) (by kernel_rfl) (fun _ _ _ h => h) ?_
      refine wd_skip (i := 6) [] rfl rfl rfl rfl (by kernel_rfl) (by kernel_rfl) (fun _ _ _ h => h) ?_
      refine wd_skip (i := 7) [] rfl rfl rfl rfl (by kernel_rfl) (by kernel_rfl) (fun _ _ _ h => h) ?_
      refine wd_skip (i := 9) [] rfl rfl rfl rfl (by kernel_rfl) (by kernel_rfl) (fun _ _ _ h => h) ?_
      refine wd_offD 8 rfl rfl rfl rfl (by kernel_rfl) [] (fun _ => rfl) ?_
      refine wd_skip (i := 10) [] rfl rfl rfl rfl (by kernel_rfl) (by kernel_rfl) (fun _ _ _ h => h) ?_
      refine wd_take (i := 11) [] rfl rfl rfl rfl rfl (by kernel_rfl) (by kernel_rfl) (fun _ _ _ _ h => h) (yh_pickT rfl rfl rfl) ?_
      refine wd_take (i := 12) [] rfl rfl rfl rfl rfl (by kernel_rfl) (by kernel_rfl) (fun _ _ _ _ h => h) (yh_move rfl rfl) ?_
      refine wd_split 13 rfl rfl rfl (fun _ => ?_) nofun
      refine wd_skip (i := 13) [] rfl rfl rfl rfl (by kernel_rfl) (by kernel_rfl) (fun _ _ _ h => h) ?_
      refine wd_skip (i := 14) [] rfl rfl rfl rfl (by kernel_rfl) (by kernel_rfl) (fun _ _ _ h => h) ?_
      refine wd_skip (i := 15) [] rfl rfl rfl rfl (by kernel_rfl) (by kernel_rfl) (fun _ _ _ h => h) ?_
      refine wd_skip (i := 16) [] rfl rfl rfl rfl (by kernel_rfl) (by kernel_rfl) (fun _ _ _ h => h) ?_
      refine wd_skip (i := 17) [] rfl rfl rfl rfl (by kernel_rfl) (by kernel_rfl) (fun _ _ _ h => h) ?_
      refine wd_skip (i := 18) [] rfl rfl rfl rfl (by kernel_rfl) (by kernel_rfl) (fun _ _ _ h => h) ?_
      refine wd_skip (i := 19) [] rfl rfl rfl rfl (by kernel_rfl) (by kernel_rfl) (fun _ _ _ h => h) ?_
      refine wd_skip (i := 20) [] rfl rfl rfl rfl (by kernel_rfl) (by kernel_rfl) (fun _ _ _ h => h) ?_
      refine wd_offD 21 rfl rfl rfl rfl (by kernel_rfl) [] (fun _ => rfl) ?_
      refine wd_skip (i := 22) [] rfl rfl rfl rfl (by kernel_rfl) (by kernel_rfl) (fun _ _ _ h => h) ?_
      refine wd_take (i := 23) [] rfl rfl rfl rfl rfl (by kernel_rfl) (by kernel_rfl) (fun _ _ _ _ h => h) (yh_pickT rfl rfl rfl) ?_
      refine wd_done (by kernel_rfl) ?_
      refine ex_seq ?_
      refine cw_true rfl ?_
      refine cw_seq ?_
      refine cw_region ?_
      refine wl_u rfl (ow_y (yh_assign rfl rfl) rfl rfl (kk_wl ?_))
      refine wl_nil ?_
      refine ex_seq ?_
      refine cw_ret ?_
      refine ex_block_ret ?_
      refine ex_then_ret ?_
      refine ex_then_ret ?_
      refine ex_block_ret ?_
      refine ex_then_ret ?_
      obtain rfl := Option.some.inj h
      obtain rfl := go_ret hk5
      exact ex_r1 Tb rfl (.tmp rfl) (fun wq hq => ⟨_, rfl, hq.ext, rfl⟩)
    · skip
      replace h := bf c2 h
      have q3 := ltb_false.1 c2
      refine wd_take (i := 3) [] rfl rfl rfl rfl rfl (by kernel_rfl) (by kernel_rfl) (fun _ _ _ _ h => h) (yh_move rfl rfl) ?_
      refine wd_take (i := 4) [] rfl rfl rfl rfl rfl (by kernel_rfl) (by kernel_rfl) (fun _ _ _ _ h => h) (yh_move rfl rfl) ?_
      refine wd_take (i := 5) [] rfl rfl rfl rfl rfl (by kernel_rfl) (by kernel_rfl) (fun _ _ _ _ h => h) (yh_move rfl rfl) ?_
      refine wd_take (i := 6) [] rfl rfl rfl rfl rfl (by kernel_rfl) (by kernel_rfl) (fun _ _ _ _ h => h) (yh_idx Tb (k := s5) rfl rfl rfl rfl (get_lt hy16) rfl rfl) ?_
      refine wd_take (i := 7) [] rfl rfl rfl rfl rfl (by kernel_rfl) (by kernel_rfl) (fun _ _ _ _ h => h) (yh_loadA0 Tb rfl rfl rfl hc16 rfl) ?_
      refine wd_take (i := 9) [] rfl rfl rfl rfl rfl (by kernel_rfl) (by kernel_rfl) (fun _ _ _ _ h => h) (yh_move rfl rfl) ?_
      obtain ⟨x27, hx27, h⟩ := bd h
      refine wd_one 8 rfl rfl (by kernel_rfl) (ow_cV rfl hb33 rfl (fun w hw => c_spec_l1At N _ _ _ hx27 w (Lay.at_ h_done hw)) rfl rfl (kk_wd [] (by kernel_rfl) ?_))
      refine wd_take (i := 10) [] rfl rfl rfl rfl rfl (by kernel_rfl) (by kernel_rfl) (fun _ _ _ _ h => h) (yh_cmpI rfl rfl rfl rfl) ?_
      refine wd_take (i := 11) [] rfl rfl rfl rfl rfl (by kernel_rfl) (by kernel_rfl) (fun _ _ _ _ h => h) (yh_pickF rfl rfl rfl) ?_
      refine wd_take (i := 12) [] rfl rfl rfl rfl rfl (by kernel_rfl) (by kernel_rfl) (fun _ _ _ _ h => h) (yh_move rfl rfl) ?_
      refine wd_split 13 rfl rfl rfl (fun c3 => ?_) (fun c3 => ?_)
      · skip
        replace h := bt c3 h
        have q4 := ltb_true.1 c3
        refine wd_skip (i := 13) [] rfl rfl rfl rfl (by kernel_rfl) (by kernel_rfl) (fun _ _ _ h => h) ?_
        refine wd_skip (i := 14) [] rfl rfl rfl rfl (by kernel_rfl) (by kernel_rfl) (fun _ _ _ h => h) ?_
        refine wd_skip (i := 15) [] rfl rfl rfl rfl (by kernel_rfl) (by kernel_rfl) (fun _ _ _ h => h) ?_
        refine wd_skip (i := 16) [] rfl rfl rfl rfl (by kernel_rfl) (by kernel_rfl) (fun _ _ _ h => h) ?_
        refine wd_skip (i := 17) [] rfl rfl rfl rfl (by kernel_rfl) (by kernel_rfl) (fun _ _ _ h => h) ?_
        refine wd_skip (i := 18) [] rfl rfl rfl rfl (by kernel_rfl) (by kernel_rfl) (fun _ _ _ h => h) ?_
        refine wd_skip (i := 19) [] rfl rfl rfl rfl (by kernel_rfl) (by kernel_rfl) (fun _ _ _ h => h) ?_
        refine wd_skip (i := 20) [] rfl rfl rfl rfl (by kernel_rfl) (by kernel_rfl) (fun _ _ _ h => h) ?_
        refine wd_offD 21 rfl rfl rfl rfl (by kernel_rfl) [] (fun _ => rfl) ?_
        refine wd_skip (i := 22) [] rfl rfl rfl rfl (by kernel_rfl) (by kernel_rfl) (fun _ _ _ h => h) ?_
        refine wd_take (i := 23) [] rfl rfl rfl rfl rfl (by kernel_rfl) (by kernel_rfl) (fun _ _ _ _ h => h) (yh_pickT rfl rfl rfl) ?_
        refine wd_done (by kernel_rfl) ?_
        refine ex_seq ?_
        refine cw_true rfl ?_
        refine cw_seq ?_
        refine cw_region ?_
        refine wl_u rfl (ow_y (yh_assign rfl rfl) rfl rfl (kk_wl ?_))
        refine wl_nil ?_
        refine ex_seq ?_
        refine cw_ret ?_
        refine ex_block_ret ?_
        refine ex_then_ret ?_
        refine ex_then_ret ?_
        refine ex_block_ret ?_
        refine ex_then_ret ?_
        obtain rfl := Option.some.inj h
        obtain rfl := go_ret hk5
        exact ex_r1 Tb rfl (.tmp rfl) (fun wq hq => ⟨_, rfl, hq.ext, rfl⟩)
      · skip
        replace h := bf c3 h
        have q5 := ltb_false.1 c3
        refine wd_take (i := 13) [] rfl rfl rfl rfl rfl (by kernel_rfl) (by kernel_rfl) (fun _ _ _ _ h => h) (yh_move rfl rfl) ?_
        refine wd_take (i := 14) [] rfl rfl rfl rfl rfl (by kernel_rfl) (by kernel_rfl) (fun _ _ _ _ h => h) (yh_move rfl rfl) ?_
        obtain ⟨l34, zl34, h⟩ := bd h
        obtain ⟨il34, jl34⟩ := slTo_K zl34
        have hf34 := sl_takeK h_done zl34
        have mx34 := rd_max hf34
        refine wd_take (i := 15) [] rfl rfl rfl rfl rfl (by kernel_rfl) (by kernel_rfl) (fun _ _ _ _ h => h) (yh_sliceH Tb (k := l34.length) rfl rfl rfl il34 (Nat.le_trans jl34 (rd_cap h_done)) rfl rfl) ?_
        refine wd_take (i := 16) [] rfl rfl rfl rfl rfl (by kernel_rfl) (by kernel_rfl) (fun _ _ _ _ h => h) (yh_move rfl rfl) ?_
        refine wd_take (i := 17) [] rfl rfl rfl rfl rfl (by kernel_rfl) (by kernel_rfl) (fun _ _ _ _ h => h) (yh_move rfl rfl) ?_
        obtain ⟨y37, zy37, h⟩ := bd h
        obtain ⟨iy37, hy37⟩ := geti_some zy37
        obtain ⟨b37, o37, ha37⟩ := sl_addr h_steps hy37
        subst ha37
        obtain ⟨a37, e37, hc37, hf37⟩ := get_step h_steps hy37
        have mx37 := rd_max hf37
        refine wd_take (i := 18) [] rfl rfl rfl rfl rfl (by kernel_rfl) (by kernel_rfl) (fun _ _ _ _ h => h) (yh_idx Tb (k := x18.toNat) rfl rfl rfl iy37 (get_lt hy37) rfl rfl) ?_
        refine wd_take (i := 19) [] rfl rfl rfl rfl rfl (by kernel_rfl) (by kernel_rfl) (fun _ _ _ _ h => h) (yh_field Tb rfl rfl rfl) ?_
        refine wd_take (i := 20) [] rfl rfl rfl rfl rfl (by kernel_rfl) (by kernel_rfl) (fun _ _ _ _ h => h) (yh_loadAF Tb (j := 1) rfl rfl rfl hc37 rfl) ?_
        obtain ⟨x40, hx40, h⟩ := bd h
        refine wd_one 21 rfl rfl (by kernel_rfl) (ow_cV rfl hb77 rfl (fun w hw => c_spec_l1Have N _ _ _ hx40 w (Lay.at_ hf34 hw) (Lay.at_ hf37 hw)) rfl rfl (kk_wd [] (by kernel_rfl) ?_))
        refine wd_take (i := 22) [] rfl rfl rfl rfl rfl (by kernel_rfl) (by kernel_rfl) (fun _ _ _ _ h => h) (yh_not rfl rfl) ?_
        refine wd_take (i := 23) [] rfl rfl rfl rfl rfl (by kernel_rfl) (by kernel_rfl) (fun _ _ _ _ h => h) (yh_pickF rfl rfl rfl) ?_
        refine wd_done (by kernel_rfl) ?_
        refine ex_seq ?_
        refine cw_split rfl (fun c4 => ?_) (fun c4 => ?_)
        · skip
          replace h := bt c4 h
          refine cw_seq ?_
          refine cw_region ?_
          refine wl_u rfl (ow_y (yh_assign rfl rfl) rfl rfl (kk_wl ?_))
          refine wl_nil ?_
          refine ex_seq ?_
          refine cw_ret ?_
          refine ex_block_ret ?_
          refine ex_then_ret ?_
          refine ex_then_ret ?_
          refine ex_block_ret ?_
          refine ex_then_ret ?_
          obtain rfl := Option.some.inj h
          obtain rfl := go_ret hk5
          exact ex_r1 Tb rfl (.tmp rfl) (fun wq hq => ⟨_, rfl, hq.ext, rfl⟩)
        · skip
          replace h := bf c4 h
          refine cw_skip ?_
          refine ex_block_normal ?_
          refine ex_seq ?_
          refine cw_region ?_
          refine wl_u rfl (ow_y (yh_move rfl rfl) rfl rfl (kk_wl ?_))
          refine wl_u rfl (ow_y (yh_arI rfl rfl rfl rfl (by omega)) rfl rfl (kk_wl ?_))
          refine wl_u rfl (ow_y (yh_assign rfl rfl) rfl rfl (kk_wl ?_))
          refine wl_nil ?_
          exact ex_next [] (hn5 (n5, s5 + 1) (Nat.lt_succ_self _) h) ⟨rfl, rfl, rfl, trivial⟩ (by kernel_rfl)
  · skip
    replace h := bf c1 h
    have q6 := ltb_false.1 c1
    refine cw_exit ?_
    refine ex_then_exit ?_
    refine ex_then_exit ?_
    obtain rfl := Option.some.inj h
    have h := go_brk hk5
    refine ex_block_exit ?_
    refine ex_seq ?_
    refine cw_seq ?_
    refine cw_region ?_
    refine wl_u rfl (ow_y (yh_assign rfl rfl) rfl rfl (kk_wl ?_))
    refine wl_nil ?_
    refine ex_seq ?_
    refine cw_ret ?_
    obtain rfl := Option.some.inj h
    exact ex_r1 Tb rfl (.tmp rfl) (fun wq hq => ⟨_, rfl, hq.ext, rfl⟩)

def m_spec_l3Left_L4 (N : Nat) (steps : List Step) (done : List Str) : Nat → Int → Option (Ex (Int) (Int))
  | 0, _ => none
  | n + 1, s5 => (bif ltb 0 s5 then (geti done (w64 (s5 - 1))).bind fun y16 => (m_spec_l2At N steps y16).bind fun x18 => (geti steps x18).bind fun y19 => (bif y19.undo then m_spec_l3Left_L4 N steps done n (w64 (s5 - 1))
 else some (Ex.brk (s5)))
 else some (Ex.brk (s5)))

def m_spec_l3Left (N : Nat) (steps : List Step) (done : List Str) : Option (Int) := (m_spec_l3Left_L4 N steps done N done.length).bind fun e4 => e4.go (fun r => r) fun b4 => some b4

set_option maxHeartbeats 4000000 in
theorem c_spec_l3Left (N : Nat) (steps : List Step) (done : List Str) (res : Int) (h : m_spec_l3Left N steps done = some res) (w : World) {a_done a_steps : Option Addr} {c_done c_steps : Nat} (h_steps : stepsL.rd w [] [.slice a_steps steps.length c_steps] steps) (h_done : strsL.rd w [] [.slice a_done done.length c_done] done) : Ret Tryz.prog 37 [.slice a_steps steps.length c_steps, .slice a_done done.length c_done] w [] fun v w' => v = .int .i64 res := by
  have mh_steps := rd_max h_steps
  have mh_done := rd_max h_done
  unfold m_spec_l3Left at h
  refine ret_enter Tryz.func37 rfl Tryz.ntmps37 rfl (Hp.refl w _) ?_
  refine cw_seq ?_
  refine cw_region ?_
  refine wl_u rfl (ow_y (yh_assign rfl rfl) rfl rfl (kk_wl ?_))
  refine wl_nil ?_
  refine ex_seq ?_
  refine cw_seq ?_
  refine cw_region ?_
  refine wl_u rfl (ow_y (yh_move rfl rfl) rfl rfl (kk_wl ?_))
  refine wl_u rfl (ow_y (yh_lenS Tb rfl rfl rfl rfl) rfl rfl (kk_wl ?_))
  refine wl_u rfl (ow_y (yh_assign rfl rfl) rfl rfl (kk_wl ?_))
  refine wl_nil ?_
  refine ex_seq ?_
  refine cw_seq ?_
  refine cw_block ?_
  obtain ⟨e4, he4, hk4⟩ := bd h
  clear h
  refine cw_loopG (σ := Nat × Int) (fun s => m_spec_l3Left_L4 N steps done s.1 s.2 = some e4) (fun s => [(0, .slice a_steps steps.length c_steps), (1, .slice a_done done.length c_done), (5, .int .i64 s.2)]) (fun s => []) (fun s => s.1) (N, done.length) [] he4 ⟨rfl, rfl, rfl, trivial⟩ rfl (fun KL s he4 hn4 => ?_)
  obtain ⟨n4, s5⟩ := s
  simp only at he4 hn4 ⊢
  rcases n4 with _ | n4
  · exact nosome he4
  have h := he4; rw [m_spec_l3Left_L4] at h
  refine cw_seq ?_
  refine cw_seq ?_
  refine cw_region ?_
  refine wl_u rfl (ow_y (yh_move rfl rfl) rfl rfl (kk_wl ?_))
  refine wl_u rfl (ow_y (yh_cmpI rfl rfl rfl rfl) rfl rfl (kk_wl ?_))
  refine wl_u rfl (ow_y (yh_move rfl rfl) rfl rfl (kk_wl ?_))
  refine wl_s rfl rfl (fun c1 => ?_) (fun c1 => ?_)
  · skip
    replace h := bt c1 h
    have q1 := ltb_true.1 c1
    refine wl_g rfl rfl (ow_y (yh_move rfl rfl) rfl rfl (kk_wl ?_))
    refine wl_g rfl rfl (ow_y (yh_move rfl rfl) rfl rfl (kk_wl ?_))
    refine wl_g rfl rfl (ow_y (yh_move rfl rfl) rfl rfl (kk_wl ?_))
    refine wl_g rfl rfl (ow_y (yh_move rfl rfl) rfl rfl (kk_wl ?_))
    refine wl_g rfl rfl (ow_y (yh_arW rfl rfl rfl rfl) rfl rfl (kk_wl ?_))
    obtain ⟨y16, zy16, h⟩ := bd h
    obtain ⟨iy16, hy16⟩ := geti_some zy16
    obtain ⟨b16, o16, ha16⟩ := sl_addr h_done hy16
    subst ha16
    have hc16 := get_str h_done hy16
    refine wl_g rfl rfl (ow_y (yh_idx Tb (k := (w64 (s5 - 1)).toNat) rfl rfl rfl iy16 (get_lt hy16) rfl rfl) rfl rfl (kk_wl ?_))
    refine wl_g rfl rfl (ow_y (yh_loadA0 Tb rfl rfl rfl hc16 rfl) rfl rfl (kk_wl ?_))
    obtain ⟨x18, hx18, h⟩ := bd h
    refine wl_g rfl rfl (ow_cV rfl hb74 rfl (fun w hw => c_spec_l2At N _ _ _ hx18 w (Lay.at_ h_steps hw)) rfl rfl (kk_wl ?_))
    obtain ⟨y19, zy19, h⟩ := bd h
    obtain ⟨iy19, hy19⟩ := geti_some zy19
    obtain ⟨b19, o19, ha19⟩ := sl_addr h_steps hy19
    subst ha19
    obtain ⟨a19, e19, hc19, hf19⟩ := get_step h_steps hy19
    have mx19 := rd_max hf19
    refine wl_g rfl rfl (ow_y (yh_idx Tb (k := x18.toNat) rfl rfl rfl iy19 (get_lt hy19) rfl rfl) rfl rfl (kk_wl ?_))
    refine wl_g rfl rfl (ow_y (yh_field Tb rfl rfl rfl) rfl rfl (kk_wl ?_))
    refine wl_g rfl rfl (ow_y (yh_loadAF Tb (j := 2) rfl rfl rfl hc19 rfl) rfl rfl (kk_wl ?_))
    refine wl_u rfl (ow_y (yh_pickT rfl rfl rfl) rfl rfl (kk_wl ?_))
    refine wl_nil ?_
    refine ex_seq ?_
    refine cw_split rfl (fun c2 => ?_) (fun c2 => ?_)
    · skip
      replace h := bt c2 h
      refine cw_skip ?_
      refine ex_seq ?_
      refine cw_block ?_
      refine cw_region ?_
      refine wl_u rfl (ow_y (yh_move rfl rfl) rfl rfl (kk_wl ?_))
      refine wl_u rfl (ow_y (yh_arW rfl rfl rfl rfl) rfl rfl (kk_wl ?_))
      refine wl_u rfl (ow_y (yh_assign rfl rfl) rfl rfl (kk_wl ?_))
      refine wl_nil ?_
      refine ex_block_normal ?_
      exact ex_next [] (hn4 (n4, w64 (s5 - 1)) (Nat.lt_succ_self _) h) ⟨rfl, rfl, rfl, trivial⟩ (by kernel_rfl)
    · skip
      replace h := bf c2 h
      refine cw_exit ?_
      refine ex_then_exit ?_
      refine ex_then_exit ?_
      obtain rfl := Option.some.inj h
      have h := go_brk hk4
      refine ex_block_exit ?_
      refine ex_seq ?_
      refine cw_seq ?_
      refine cw_region ?_
      refine wl_u rfl (ow_y (yh_move rfl rfl) rfl rfl (kk_wl ?_))
      refine wl_u rfl (ow_y (yh_assign rfl rfl) rfl rfl (kk_wl ?_))
      refine wl_nil ?_
      refine ex_seq ?_
      refine cw_ret ?_
      obtain rfl := Option.some.inj h
      exact ex_r1 Tb rfl (.tmp rfl) (fun wq hq => ⟨_, rfl, hq.ext, rfl⟩)
  · skip
    replace h := bf c1 h
    have q2 := ltb_false.1 c1
    refine wl_n rfl rfl rfl rfl ?_
    refine wl_n rfl rfl rfl rfl ?_
    refine wl_n rfl rfl rfl rfl ?_
    refine wl_n rfl rfl rfl rfl ?_
    refine wl_n rfl rfl rfl rfl ?_
    refine wl_n rfl rfl rfl rfl ?_
    refine wl_n rfl rfl rfl rfl ?_
    refine wl_n rfl rfl rfl rfl ?_
    refine wl_n rfl rfl rfl rfl ?_
    refine wl_n rfl rfl rfl rfl ?_
    refine wl_n rfl rfl rfl rfl ?_
    refine wl_u rfl (ow_y (yh_pickF rfl rfl rfl) rfl rfl (kk_wl ?_))
    refine wl_nil ?_
    refine ex_seq ?_
    refine cw_false rfl ?_
    refine cw_exit ?_
    refine ex_then_exit ?_
    refine ex_then_exit ?_
    obtain rfl := Option.some.inj h
    have h := go_brk hk4
    refine ex_block_exit ?_
    refine ex_seq ?_
    refine cw_seq ?_
    refine cw_region ?_
    refine wl_u rfl (ow_y (yh_move rfl rfl) rfl rfl (kk_wl ?_))
    refine wl_u rfl (ow_y (yh_assign rfl rfl) rfl rfl (kk_wl ?_))
    refine wl_nil ?_
    refine ex_seq ?_
    refine cw_ret ?_
    obtain rfl := Option.some.inj h
    exact ex_r1 Tb rfl (.tmp rfl) (fun wq hq => ⟨_, rfl, hq.ext, rfl⟩)

def m_spec_RunValid (N : Nat) (u0 : Flow) (u1 : Run) : Option (Bool) := (m_spec_FlowValid N u0).bind fun x6 => (bif !x6 then some false
 else (m_spec_l3Order N u0.steps u1.done).bind fun x13 => (bif !x13 then some false
 else (bif eqb u1.state 0 then some (ltb ((u1.done.length : Nat) : Int) ((u0.steps.length : Nat) : Int))
 else (bif eqb u1.state 2 then some (eqb ((u1.done.length : Nat) : Int) ((u0.steps.length : Nat) : Int))
 else (bif eqb u1.state 1 then (bif ltb ((u1.done.length : Nat) : Int) ((u0.steps.length : Nat) : Int) then (m_spec_l3Left N u0.steps u1.done).bind fun x50 => some (ltb x50 ((u1.done.length : Nat) : Int))
 else some false)
 else (bif eqb u1.state 3 then (bif ltb ((u1.done.length : Nat) : Int) ((u0.steps.length : Nat) : Int) then (m_spec_l3Left N u0.steps u1.done).bind fun x70 => some (eqb x70 ((u1.done.length : Nat) : Int))
 else some false)
 else some false))))))

set_option maxHeartbeats 4000000 in
theorem c_spec_RunValid (N : Nat) (u0 : Flow) (u1 : Run) (res : Bool) (h : m_spec_RunValid N u0 u1 = some res) (w : World) {a_u0_steps a_u1_done : Option Addr} {c_u0_steps c_u1_done : Nat} (h_u0_steps : stepsL.rd w [] [.slice a_u0_steps u0.steps.length c_u0_steps] u0.steps) (h_u1_done : strsL.rd w [] [.slice a_u1_done u1.done.length c_u1_done] u1.done) : Ret Tryz.prog 10 [.agg #[.int .i64 u0.ver, .slice a_u0_steps u0.steps.length c_u0_steps], .agg #[.int .i64 u1.state, .slice a_u1_done u1.done.length c_u1_done]] w [] fun v w' => v = .bool res := by
  have mh_u0_steps := rd_max h_u0_steps
  have mh_u1_done := rd_max h_u1_done
  unfold m_spec_RunValid at h
  refine ret_enter Tryz.func10 rfl Tryz.ntmps10 rfl (Hp.refl w _) ?_
  refine cw_seq ?_
  refine cw_region ?_
  refine wl_u rfl (ow_boxA rfl rfl rfl rfl (fun g2 => kk_wl ?_))
  refine wl_u rfl (ow_boxA rfl rfl rfl rfl (fun g3 => kk_wl ?_))
  refine wl_u rfl (ow_y (yh_assign rfl rfl) rfl rfl (kk_wl ?_))
  refine wl_nil ?_
  refine ex_seq ?_
  refine cw_seq ?_
  refine cw_seq ?_
  refine cw_region ?_
  refine wl_u rfl (ow_y (yh_loadBA Tb (k := 1) rfl rfl rfl rfl rfl rfl) rfl rfl (kk_wl ?_))
  obtain ⟨x6, hx6, h⟩ := bd h
  refine wl_u rfl (ow_cV rfl hb35 rfl (fun w hw => c_spec_FlowValid N _ _ hx6 w (Lay.at_ h_u0_steps hw)) rfl rfl (kk_wl ?_))
  refine wl_u rfl (ow_y (yh_not rfl rfl) rfl rfl (kk_wl ?_))
  refine wl_u rfl (ow_y (yh_move rfl rfl) rfl rfl (kk_wl ?_))
  refine wl_s rfl rfl (fun c1 => ?_) (fun c1 => ?_)
  · skip
    replace h := bt c1 h
    refine wl_n rfl rfl rfl rfl ?_
    refine wl_n rfl rfl rfl rfl ?_
    refine wl_n rfl rfl rfl rfl ?_
    refine wl_n rfl rfl rfl rfl ?_
    refine wl_n rfl rfl rfl rfl ?_
    refine wl_n rfl rfl rfl rfl ?_
    refine wl_u rfl (ow_y (yh_pickT rfl rfl rfl) rfl rfl (kk_wl ?_))
    refine wl_nil ?_
    refine ex_seq ?_
    refine cw_true rfl ?_
    refine cw_seq ?_
    refine cw_region ?_
    refine wl_u rfl (ow_y (yh_assign rfl rfl) rfl rfl (kk_wl ?_))
    refine wl_nil ?_
    refine ex_seq ?_
    refine cw_ret ?_
    refine ex_then_ret ?_
    obtain rfl := Option.some.inj h
    exact ex_r1 Tb rfl (.tmp rfl) (fun wq hq => ⟨_, rfl, hq.ext, rfl⟩)
  · skip
    replace h := bf c1 h
    refine wl_g rfl rfl (ow_y (yh_field Tb rfl rfl rfl) rfl rfl (kk_wl ?_))
    refine wl_g rfl rfl (ow_y (yh_loadB Tb (k := 1) rfl rfl rfl rfl rfl) rfl rfl (kk_wl ?_))
    refine wl_g rfl rfl (ow_y (yh_field Tb rfl rfl rfl) rfl rfl (kk_wl ?_))
    refine wl_g rfl rfl (ow_y (yh_loadB Tb (k := 0) rfl rfl rfl rfl rfl) rfl rfl (kk_wl ?_))
    obtain ⟨x13, hx13, h⟩ := bd h
    refine wl_g rfl rfl (ow_cV rfl hb36 rfl (fun w hw => c_spec_l3Order N _ _ _ hx13 w (Lay.at_ h_u0_steps hw) (Lay.at_ h_u1_done hw)) rfl rfl (kk_wl ?_))
    refine wl_g rfl rfl (ow_y (yh_not rfl rfl) rfl rfl (kk_wl ?_))
    refine wl_u rfl (ow_y (yh_pickF rfl rfl rfl) rfl rfl (kk_wl ?_))
    refine wl_nil ?_
    refine ex_seq ?_
    refine cw_split rfl (fun c2 => ?_) (fun c2 => ?_)
    · skip
      replace h := bt c2 h
      refine cw_seq ?_
      refine cw_region ?_
      refine wl_u rfl (ow_y (yh_assign rfl rfl) rfl rfl (kk_wl ?_))
      refine wl_nil ?_
      refine ex_seq ?_
      refine cw_ret ?_
      refine ex_then_ret ?_
      obtain rfl := Option.some.inj h
      exact ex_r1 Tb rfl (.tmp rfl) (fun wq hq => ⟨_, rfl, hq.ext, rfl⟩)
    · skip
      replace h := bf c2 h
      refine cw_skip ?_
      refine ex_seq ?_
      refine cw_seq ?_
      refine cw_seq ?_
      refine cw_region ?_
      refine wl_u rfl (ow_y (yh_field Tb rfl rfl rfl) rfl rfl (kk_wl ?_))
      refine wl_u rfl (ow_y (yh_loadB Tb (k := 0) rfl rfl rfl rfl rfl) rfl rfl (kk_wl ?_))
      refine wl_nil ?_
      refine ex_seq ?_
      refine cw_block ?_
      refine cw_seq ?_
      refine cw_region ?_
      refine wl_u rfl (ow_y (yh_cmpI rfl rfl rfl rfl) rfl rfl (kk_wl ?_))
      refine wl_u rfl (ow_y (yh_assign rfl rfl) rfl rfl (kk_wl ?_))
      refine wl_nil ?_
      refine ex_seq ?_
      refine cw_split rfl (fun c3 => ?_) (fun c3 => ?_)
      · skip
        replace h := bt c3 h
        have q1 := eqb_true.1 c3
        refine cw_seq ?_
        refine cw_region ?_
        refine wl_u rfl (ow_y (yh_field Tb rfl rfl rfl) rfl rfl (kk_wl ?_))
        refine wl_u rfl (ow_y (yh_loadB Tb (k := 0) rfl rfl rfl rfl rfl) rfl rfl (kk_wl ?_))
        refine wl_u rfl (ow_y (yh_lenS Tb rfl rfl rfl rfl) rfl rfl (kk_wl ?_))
        refine wl_u rfl (ow_y (yh_field Tb rfl rfl rfl) rfl rfl (kk_wl ?_))
        refine wl_u rfl (ow_y (yh_loadB Tb (k := 1) rfl rfl rfl rfl rfl) rfl rfl (kk_wl ?_))
        refine wl_u rfl (ow_y (yh_lenS Tb rfl rfl rfl rfl) rfl rfl (kk_wl ?_))
        refine wl_u rfl (ow_y (yh_cmpI rfl rfl rfl rfl) rfl rfl (kk_wl ?_))
        refine wl_u rfl (ow_y (yh_assign rfl rfl) rfl rfl (kk_wl ?_))
        refine wl_nil ?_
        refine ex_seq ?_
        refine cw_ret ?_
        refine ex_block_ret ?_
        refine ex_then_ret ?_
        obtain rfl := Option.some.inj h
        exact ex_r1 Tb rfl (.tmp rfl) (fun wq hq => ⟨_, rfl, hq.ext, rfl⟩)
      · skip
        replace h := bf c3 h
        have q2 := eqb_false.1 c3
        refine cw_seq ?_
        refine cw_region ?_
        refine wl_u rfl (ow_y (yh_cmpI rfl rfl rfl rfl) rfl rfl (kk_wl ?_))
        refine wl_u rfl (ow_y (yh_assign rfl rfl) rfl rfl (kk_wl ?_))
        refine wl_nil ?_
        refine ex_seq ?_
        refine cw_split rfl (fun c4 => ?_) (fun c4 => ?_)
        · skip
          replace h := bt c4 h
          have q3 := eqb_true.1 c4
          refine cw_seq ?_
          refine cw_region ?_
          refine wl_u rfl (ow_y (yh_field Tb rfl rfl rfl) rfl rfl (kk_wl ?_))
          refine wl_u rfl (ow_y (yh_loadB Tb (k := 0) rfl rfl rfl rfl rfl) rfl rfl (kk_wl ?_))
          refine wl_u rfl (ow_y (yh_lenS Tb rfl rfl rfl rfl) rfl rfl (kk_wl ?_))
          refine wl_u rfl (ow_y (yh_field Tb rfl rfl rfl) rfl rfl (kk_wl ?_))
          refine wl_u rfl (ow_y (yh_loadB Tb (k := 1) rfl rfl rfl rfl rfl) rfl rfl (kk_wl ?_))
          refine wl_u rfl (ow_y (yh_lenS Tb rfl rfl rfl rfl) rfl rfl (kk_wl ?_))
          refine wl_u rfl (ow_y (yh_cmpI rfl rfl rfl rfl) rfl rfl (kk_wl ?_))
          refine wl_u rfl (ow_y (yh_assign rfl rfl) rfl rfl (kk_wl ?_))
          refine wl_nil ?_
          refine ex_seq ?_
          refine cw_ret ?_
          refine ex_block_ret ?_
          refine ex_then_ret ?_
          obtain rfl := Option.some.inj h
          exact ex_r1 Tb rfl (.tmp rfl) (fun wq hq => ⟨_, rfl, hq.ext, rfl⟩)
        · skip
          replace h := bf c4 h
          have q4 := eqb_false.1 c4
          refine cw_seq ?_
          refine cw_region ?_
          refine wl_u rfl (ow_y (yh_cmpI rfl rfl rfl rfl) rfl rfl (kk_wl ?_))
          refine wl_u rfl (ow_y (yh_assign rfl rfl) rfl rfl (kk_wl ?_))
          refine wl_nil ?_
          refine ex_seq ?_
          refine cw_split rfl (fun c5 => ?_) (fun c5 => ?_)
          · skip
            replace h := bt c5 h
            have q5 := eqb_true.1 c5
            refine cw_seq ?_
            refine cw_dr [0, 1, 2, 3, 4, 5, 6, 7, 8, 9, 10, 11, 13, 14, 15, 16, 17, 18] [] [blkC g3 32 [.int .i64 u1.state, .slice a_u1_done u1.done.length c_u1_done], blkC g2 25 [.int .i64 u0.ver, .slice a_u0_steps u0.steps.length c_u0_steps]] (by kernel_rfl) ?_
            refine wd_take (i := 0) [0, 1] rfl rfl rfl rfl rfl (by kernel_rfl) (by kernel_rfl) (fun _ _ _ _ h => h) (yh_field Tb rfl rfl rfl) ?_
            refine wd_take (i := 1) [0, 1] rfl rfl rfl rfl rfl (by kernel_rfl) (by kernel_rfl) (fun _ _ _ _ h => h) (yh_loadB Tb (k := 0) rfl rfl rfl rfl rfl) ?_
            refine wd_take (i := 2) [0, 1] rfl rfl rfl rfl rfl (by kernel_rfl) (by kernel_rfl) (fun _ _ _ _ h => h) (yh_lenS Tb rfl rfl rfl rfl) ?_
            refine wd_take (i := 3) [0, 1] rfl rfl rfl rfl rfl (by kernel_rfl) (by kernel_rfl) (fun _ _ _ _ h => h) (yh_field Tb rfl rfl rfl) ?_
            refine wd_take (i := 4) [0, 1] rfl rfl rfl rfl rfl (by kernel_rfl) (by kernel_rfl) (fun _ _ _ _ h => h) (yh_loadB Tb (k := 1) rfl rfl rfl rfl rfl) ?_
            refine wd_take (i := 5) [0, 1] rfl rfl rfl rfl rfl (by kernel_rfl) (by kernel_rfl) (fun _ _ _ _ h => h) (yh_lenS Tb rfl rfl rfl rfl) ?_
            refine wd_take (i := 6) [0, 1] rfl rfl rfl rfl rfl (by kernel_rfl) (by kernel_rfl) (fun _ _ _ _ h => h) (yh_cmpI rfl rfl rfl rfl) ?_
            refine wd_take (i := 7) [0, 1] rfl rfl rfl rfl rfl (by kernel_rfl) (by kernel_rfl) (fun _ _ _ _ h => h) (yh_move rfl rfl) ?_
            refine wd_split 8 rfl rfl rfl (fun c6 => ?_) (fun c6 => ?_)
            · skip
              replace h := bt c6 h
              have q6 := ltb_true.1 c6
              refine wd_take (i := 8) [0, 1] rfl rfl rfl rfl rfl (by kernel_rfl) (by kernel_rfl) (fun _ _ _ _ h => h) (yh_field Tb rfl rfl rfl) ?_
              refine wd_take (i := 9) [0, 1] rfl rfl rfl rfl rfl (by kernel_rfl) (by kernel_rfl) (fun _ _ _ _ h => h) (yh_loadB Tb (k := 1) rfl rfl rfl rfl rfl) ?_
              refine wd_take (i := 10) [0, 1] rfl rfl rfl rfl rfl (by kernel_rfl) (by kernel_rfl) (fun _ _ _ _ h => h) (yh_field Tb rfl rfl rfl) ?_
              refine wd_take (i := 11) [0, 1] rfl rfl rfl rfl rfl (by kernel_rfl) (by kernel_rfl) (fun _ _ _ _ h => h) (yh_loadB Tb (k := 0) rfl rfl rfl rfl rfl) ?_
              refine wd_take (i := 13) [0, 1] rfl rfl rfl rfl rfl (by kernel_rfl) (by kernel_rfl) (fun _ _ _ _ h => h) (yh_field Tb rfl rfl rfl) ?_
              refine wd_take (i := 14) [0, 1] rfl rfl rfl rfl rfl (by kernel_rfl) (by kernel_rfl) (fun _ _ _ _ h => h) (yh_loadB Tb (k := 0) rfl rfl rfl rfl rfl) ?_
              refine wd_take (i := 15) [0, 1] rfl rfl rfl rfl rfl (by kernel_rfl) (by kernel_rfl) (fun _ _ _ _ h => h) (yh_lenS Tb rfl rfl rfl rfl) ?_
              obtain ⟨x50, hx50, h⟩ := bd h
              refine wd_one 12 rfl rfl (by kernel_rfl) (ow_cV rfl hb37 rfl (fun w hw => c_spec_l3Left N _ _ _ hx50 w (Lay.at_ h_u0_steps hw) (Lay.at_ h_u1_done hw)) rfl rfl (kk_wd [0, 1] (by kernel_rfl) ?_))
              refine wd_take (i := 16) [0, 1] rfl rfl rfl rfl rfl (by kernel_rfl) (by kernel_rfl) (fun _ _ _ _ h => h) (yh_cmpI rfl rfl rfl rfl) ?_
              refine wd_take (i := 17) [0, 1] rfl rfl rfl rfl rfl (by kernel_rfl) (by kernel_rfl) (fun _ _ _ _ h => h) (yh_pickT rfl rfl rfl) ?_
              refine wd_take (i := 18) [0, 1] rfl rfl rfl rfl rfl (by kernel_rfl) (by kernel_rfl) (fun _ _ _ _ h => h) (yh_assign rfl rfl) ?_
              refine wd_done (by kernel_rfl) ?_
              refine ex_seq ?_
              refine cw_ret ?_
              refine ex_block_ret ?_
              refine ex_then_ret ?_
              obtain rfl := Option.some.inj h
              exact ex_r1 Tb rfl (.tmp rfl) (fun wq hq => ⟨_, rfl, hq.ext, rfl⟩)
            · skip
              replace h := bf c6 h
              have q7 := ltb_false.1 c6
              refine wd_skip (i := 8) [0, 1] rfl rfl rfl rfl (by kernel_rfl) (by kernel_rfl) (fun _ _ _ h => h) ?_
              refine wd_skip (i := 9) [0, 1] rfl rfl rfl rfl (by kernel_rfl) (by kernel_rfl) (fun _ _ _ h => h) ?_
              refine wd_skip (i := 10) [0, 1] rfl rfl rfl rfl (by kernel_rfl) (by kernel_rfl) (fun _ _ _ h => h) ?_
              refine wd_skip (i := 11) [0, 1] rfl rfl rfl rfl (by kernel_rfl) (by kernel_rfl) (fun _ _ _ h => h) ?_
              refine wd_skip (i := 13) [0, 1] rfl rfl rfl rfl (by kernel_rfl) (by kernel_rfl) (fun _ _ _ h => h) ?_
              refine wd_skip (i := 14) [0, 1] rfl rfl rfl rfl (by kernel_rfl) (by kernel_rfl) (fun _ _ _ h => h) ?_
              refine wd_skip (i := 15) [0, 1] rfl rfl rfl rfl (by kernel_rfl) (by kernel_rfl) (fun _ _ _ h => h) ?_
              refine wd_offD 12 rfl rfl rfl rfl (by kernel_rfl) [0, 1] (fun _ => rfl) ?_
              refine wd_skip (i := 16) [0, 1] rfl rfl rfl rfl (by kernel_rfl) (by kernel_rfl) (fun _ _ _ h => h) ?_
              refine wd_take (i := 17) [0, 1] rfl rfl rfl rfl rfl (by kernel_rfl) (by kernel_rfl) (fun _ _ _ _ h => h) (yh_pickF rfl rfl rfl) ?_
              refine wd_take (i := 18) [0, 1] rfl rfl rfl rfl rfl (by kernel_rfl) (by kernel_rfl) (fun _ _ _ _ h => h) (yh_assign rfl rfl) ?_
              refine wd_done (by kernel_rfl) ?_
              refine ex_seq ?_
              refine cw_ret ?_
              refine ex_block_ret ?_
              refine ex_then_ret ?_
              obtain rfl := Option.some.inj h
              exact ex_r1 Tb rfl (.tmp rfl) (fun wq hq => ⟨_, rfl, hq.ext, rfl⟩)
          · skip
            replace h := bf c5 h
            have q8 := eqb_false.1 c5
            refine cw_seq ?_
            refine cw_region ?_
            refine wl_u rfl (ow_y (yh_cmpI rfl rfl rfl rfl) rfl rfl (kk_wl ?_))
            refine wl_u rfl (ow_y (yh_assign rfl rfl) rfl rfl (kk_wl ?_))
            refine wl_nil ?_
            refine ex_seq ?_
            refine cw_split rfl (fun c7 => ?_) (fun c7 => ?_)
            · skip
              replace h := bt c7 h
              have q9 := eqb_true.1 c7
              refine cw_seq ?_
              refine cw_dr [0, 1, 2, 3, 4, 5, 6, 7, 8, 9, 10, 11, 13, 14, 15, 16, 17, 18] [] [blkC g3 32 [.int .i64 u1.state, .slice a_u1_done u1.done.length c_u1_done], blkC g2 25 [.int .i64 u0.ver, .slice a_u0_steps u0.steps.length c_u0_steps]] (by kernel_rfl) ?_
              refine wd_take (i := 0) [0, 1] rfl rfl rfl rfl rfl (by kernel_rfl) (by kernel_rfl) (fun _ _ _ _ h => h) (yh_field Tb rfl rfl rfl) ?_
              refine wd_take (i := 1) [0, 1] rfl rfl rfl rfl rfl (by kernel_rfl) (by kernel_rfl) (fun _ _ _ _ h => h) (yh_loadB Tb (k := 0) rfl rfl rfl rfl rfl) ?_
              refine wd_take (i := 2) [0, 1] rfl rfl rfl rfl rfl (by kernel_rfl) (by kernel_rfl) (fun _ _ _ _ h => h) (yh_lenS Tb rfl rfl rfl rfl) ?_
              refine wd_take (i := 3) [0, 1] rfl rfl rfl rfl rfl (by kernel_rfl) (by kernel_rfl) (fun _ _ _ _ h => h) (yh_field Tb rfl rfl rfl) ?_
              refine wd_take (i := 4) [0, 1] rfl rfl rfl rfl rfl (by kernel_rfl) (by kernel_rfl) (fun _ _ _ _ h => h) (yh_loadB Tb (k := 1) rfl rfl rfl rfl rfl) ?_
              refine wd_take (i := 5) [0, 1] rfl rfl rfl rfl rfl (by kernel_rfl) (by kernel_rfl) (fun _ _ _ _ h => h) (yh_lenS Tb rfl rfl rfl rfl) ?_
              refine wd_take (i := 6) [0, 1] rfl rfl rfl rfl rfl (by kernel_rfl) (by kernel_rfl) (fun _ _ _ _ h => h) (yh_cmpI rfl rfl rfl rfl) ?_
              refine wd_take (i := 7) [0, 1] rfl rfl rfl rfl rfl (by kernel_rfl) (by kernel_rfl) (fun _ _ _ _ h => h) (yh_move rfl rfl) ?_
              refine wd_split 8 rfl rfl rfl (fun c8 => ?_) (fun c8 => ?_)
              · skip
                replace h := bt c8 h
                have q10 := ltb_true.1 c8
                refine wd_take (i := 8) [0, 1] rfl rfl rfl rfl rfl (by kernel_rfl) (by kernel_rfl) (fun _ _ _ _ h => h) (yh_field Tb rfl rfl rfl) ?_
                refine wd_take (i := 9) [0, 1] rfl rfl rfl rfl rfl (by kernel_rfl) (by kernel_rfl) (fun _ _ _ _ h => h) (yh_loadB Tb (k := 1) rfl rfl rfl rfl rfl) ?_
                refine wd_take (i := 10) [0, 1] rfl rfl rfl rfl rfl (by kernel_rfl) (by kernel_rfl) (fun _ _ _ _ h => h) (yh_field Tb rfl rfl rfl) ?_
                refine wd_take (i := 11) [0, 1] rfl rfl rfl rfl rfl (by kernel_rfl) (by kernel_rfl) (fun _ _ _ _ h => h) (yh_loadB Tb (k := 0) rfl rfl rfl rfl rfl) ?_
                refine wd_take (i := 13) [0, 1] rfl rfl rfl rfl rfl (by kernel_rfl) (by kernel_rfl) (fun _ _ _ _ h => h) (yh_field Tb rfl rfl rfl) ?_
                refine wd_take (i := 14) [0, 1] rfl rfl rfl rfl rfl (by kernel_rfl) (by kernel_rfl) (fun _ _ _ _ h => h) (yh_loadB Tb (k := 0) rfl rfl rfl rfl rfl) ?_
                refine wd_take (i := 15) [0, 1] rfl rfl rfl rfl rfl (by kernel_rfl) (by kernel_rfl) (fun _ _ _ _ h => h) (yh_lenS Tb rfl rfl rfl rfl) ?_
                obtain ⟨x70, hx70, h⟩ := bd h
                refine wd_one 12 rfl rfl (by kernel_rfl) (ow_cV rfl hb37 rfl (fun w hw => c_spec_l3Left N _ _ _ hx70 w (Lay.at_ h_u0_steps hw) (Lay.at_ h_u1_done hw)) rfl rfl (kk_wd [0, 1] (by kernel_rfl) ?_))
                refine wd_take (i := 16) [0, 1] rfl rfl rfl rfl rfl (by kernel_rfl) (by kernel_rfl) (fun _ _ _ _ h => h) (yh_cmpI rfl rfl rfl rfl) ?_
                refine wd_take (i := 17) [0, 1] rfl rfl rfl rfl rfl (by kernel_rfl) (by kernel_rfl) (fun _ _ _ _ h => h) (yh_pickT rfl rfl rfl) ?_
                refine wd_take (i := 18) [0, 1] rfl rfl rfl rfl rfl (by kernel_rfl) (by kernel_rfl) (fun _ _ _ _ h => h) (yh_assign rfl rfl) ?_
                refine wd_done (by kernel_rfl) ?_
                refine ex_seq ?_
                refine cw_ret ?_
                refine ex_block_ret ?_
                refine ex_then_ret ?_
                obtain rfl := Option.some.inj h
                exact ex_r1 Tb rfl (.tmp rfl) (fun wq hq => ⟨_, rfl, hq.ext, rfl⟩)
              · skip
                replace h := bf c8 h
                have q11 := ltb_false.1 c8
                refine wd_skip (i := 8) [0, 1] rfl rfl rfl rfl (by kernel_rfl) (by kernel_rfl) (fun _ _ _ h => h) ?_
                refine wd_skip (i := 9) [0, 1] rfl rfl rfl rfl (by kernel_rfl) (by kernel_rfl) (fun _ _ _ h => h) ?_
                refine wd_skip (i := 10) [0, 1] rfl rfl rfl rfl (by kernel_rfl) (by kernel_rfl) (fun _ _ _ h => h) ?_
                refine wd_skip (i := 11) [0, 1] rfl rfl rfl rfl (by kernel_rfl) (by kernel_rfl) (fun _ _ _ h => h) ?_
                refine wd_skip (i := 13) [0, 1] rfl rfl rfl rfl (by kernel_rfl) (by kernel_rfl) (fun _ _ _ h => h) ?_
                refine wd_skip (i := 14) [0, 1] rfl rfl rfl rfl (by kernel_rfl) (by kernel_rfl) (fun _ _ _ h => h) ?_
                refine wd_skip (i := 15) [0, 1] rfl rfl rfl rfl (by kernel_rfl) (by kernel_rfl) (fun _ _ _ h => h) ?_
                refine wd_offD 12 rfl rfl rfl rfl (by kernel_rfl) [0, 1] (fun _ => rfl) ?_
                refine wd_skip (i := 16) [0, 1] rfl rfl rfl rfl (by kernel_rfl) (by kernel_rfl) (fun _ _ _ h => h) ?_
                refine wd_take (i := 17) [0, 1] rfl rfl rfl rfl rfl (by kernel_rfl) (by kernel_rfl) (fun _ _ _ _ h => h) (yh_pickF rfl rfl rfl) ?_
                refine wd_take (i := 18) [0, 1] rfl rfl rfl rfl rfl (by kernel_rfl) (by kernel_rfl) (fun _ _ _ _ h => h) (yh_assign rfl rfl) ?_
                refine wd_done (by kernel_rfl) ?_
                refine ex_seq ?_
                refine cw_ret ?_
                refine ex_block_ret ?_
                refine ex_then_ret ?_
                obtain rfl := Option.some.inj h
                exact ex_r1 Tb rfl (.tmp rfl) (fun wq hq => ⟨_, rfl, hq.ext, rfl⟩)
            · skip
              replace h := bf c7 h
              have q12 := eqb_false.1 c7
              refine cw_skip ?_
              refine ex_block_normal ?_
              refine ex_seq ?_
              refine cw_seq ?_
              refine cw_region ?_
              refine wl_u rfl (ow_y (yh_assign rfl rfl) rfl rfl (kk_wl ?_))
              refine wl_nil ?_
              refine ex_seq ?_
              refine cw_ret ?_
              obtain rfl := Option.some.inj h
              exact ex_r1 Tb rfl (.tmp rfl) (fun wq hq => ⟨_, rfl, hq.ext, rfl⟩)

def m_spec_l13Place (N : Nat) (list_ : List Str) (name : Str) : Option (Int) := (m_spec_l1At N list_ name).bind fun x8 => (bif ltb x8 0 then some ((list_.length : Nat) : Int)
 else some x8)

set_option maxHeartbeats 4000000 in
theorem c_spec_l13Place (N : Nat) (list_ : List Str) (name : Str) (res : Int) (h : m_spec_l13Place N list_ name = some res) (w : World) {a_list_ : Option Addr} {c_list_ : Nat} (h_list_ : strsL.rd w [] [.slice a_list_ list_.length c_list_] list_) : Ret Tryz.prog 73 [.slice a_list_ list_.length c_list_, .string name] w [] fun v w' => v = .int .i64 res := by
  have mh_list_ := rd_max h_list_
  unfold m_spec_l13Place at h
  refine ret_enter Tryz.func73 rfl Tryz.ntmps73 rfl (Hp.refl w _) ?_
  refine cw_seq ?_
  refine cw_region ?_
  refine wl_u rfl (ow_y (yh_assign rfl rfl) rfl rfl (kk_wl ?_))
  refine wl_nil ?_
  refine ex_seq ?_
  refine cw_seq ?_
  refine cw_region ?_
  refine wl_u rfl (ow_y (yh_move rfl rfl) rfl rfl (kk_wl ?_))
  refine wl_u rfl (ow_y (yh_move rfl rfl) rfl rfl (kk_wl ?_))
  obtain ⟨x8, hx8, h⟩ := bd h
  refine wl_u rfl (ow_cV rfl hb33 rfl (fun w hw => c_spec_l1At N _ _ _ hx8 w (Lay.at_ h_list_ hw)) rfl rfl (kk_wl ?_))
  refine wl_u rfl (ow_y (yh_assign rfl rfl) rfl rfl (kk_wl ?_))
  refine wl_nil ?_
  refine ex_seq ?_
  refine cw_seq ?_
  refine cw_seq ?_
  refine cw_region ?_
  refine wl_u rfl (ow_y (yh_move rfl rfl) rfl rfl (kk_wl ?_))
  refine wl_u rfl (ow_y (yh_cmpI rfl rfl rfl rfl) rfl rfl (kk_wl ?_))
  refine wl_nil ?_
  refine ex_seq ?_
  refine cw_split rfl (fun c1 => ?_) (fun c1 => ?_)
  · skip
    replace h := bt c1 h
    have q1 := ltb_true.1 c1
    refine cw_seq ?_
    refine cw_region ?_
    refine wl_u rfl (ow_y (yh_move rfl rfl) rfl rfl (kk_wl ?_))
    refine wl_u rfl (ow_y (yh_lenS Tb rfl rfl rfl rfl) rfl rfl (kk_wl ?_))
    refine wl_u rfl (ow_y (yh_assign rfl rfl) rfl rfl (kk_wl ?_))
    refine wl_nil ?_
    refine ex_seq ?_
    refine cw_ret ?_
    refine ex_then_ret ?_
    obtain rfl := Option.some.inj h
    exact ex_r1 Tb rfl (.tmp rfl) (fun wq hq => ⟨_, rfl, hq.ext, rfl⟩)
  · skip
    replace h := bf c1 h
    have q2 := ltb_false.1 c1
    refine cw_skip ?_
    refine ex_seq ?_
    refine cw_seq ?_
    refine cw_region ?_
    refine wl_u rfl (ow_y (yh_move rfl rfl) rfl rfl (kk_wl ?_))
    refine wl_u rfl (ow_y (yh_assign rfl rfl) rfl rfl (kk_wl ?_))
    refine wl_nil ?_
    refine ex_seq ?_
    refine cw_ret ?_
    obtain rfl := Option.some.inj h
    exact ex_r1 Tb rfl (.tmp rfl) (fun wq hq => ⟨_, rfl, hq.ext, rfl⟩)

def m_spec_l13After_L5 (N : Nat) (done : List Str) (s_ : Step) (x10 : Int) : Nat → Nat → Option (Ex (Nat) (Bool))
  | 0, _ => none
  | n + 1, s6 => (bif ltb ((s6 : Nat) : Int) ((s_.after.length : Nat) : Int) then (bif leb 0 x10 then (s_.after[s6]?).bind fun y25 => (m_spec_l13Place N done y25).bind fun x27 => (bif ltb x10 x27 then some (Ex.ret false)
 else m_spec_l13After_L5 N done s_ x10 n (s6 + 1))
 else m_spec_l13After_L5 N done s_ x10 n (s6 + 1))
 else some (Ex.brk (s6)))

def m_spec_l13After (N : Nat) (done : List Str) (s_ : Step) : Option (Bool) := (m_spec_l1At N done s_.name).bind fun x10 => (m_spec_l13After_L5 N done s_ x10 N 0).bind fun e5 => e5.go (fun r => r) fun b5 => some true

set_option maxHeartbeats 4000000 in
theorem c_spec_l13After (N : Nat) (done : List Str) (s_ : Step) (res : Bool) (h : m_spec_l13After N done s_ = some res) (w : World) {a_done a_s__after : Option Addr} {c_done c_s__after : Nat} (h_done : strsL.rd w [] [.slice a_done done.length c_done] done) (h_s__after : strsL.rd w [] [.slice a_s__after s_.after.length c_s__after] s_.after) : Ret Tryz.prog 34 [.slice a_done done.length c_done, .agg #[.string s_.name, .slice a_s__after s_.after.length c_s__after, .bool s_.undo]] w [] fun v w' => v = .bool res := by
  have mh_done := rd_max h_done
  have mh_s__after := rd_max h_s__after
  unfold m_spec_l13After at h
  refine ret_enter Tryz.func34 rfl Tryz.ntmps34 rfl (Hp.refl w _) ?_
  refine cw_seq ?_
  refine cw_region ?_
  refine wl_u rfl (ow_boxA rfl rfl rfl rfl (fun g3 => kk_wl ?_))
  refine wl_u rfl (ow_y (yh_assign rfl rfl) rfl rfl (kk_wl ?_))
  refine wl_nil ?_
  refine ex_seq ?_
  refine cw_seq ?_
  refine cw_region ?_
  refine wl_u rfl (ow_y (yh_move rfl rfl) rfl rfl (kk_wl ?_))
  refine wl_u rfl (ow_y (yh_field Tb rfl rfl rfl) rfl rfl (kk_wl ?_))
  refine wl_u rfl (ow_y (yh_loadB Tb (k := 0) rfl rfl rfl rfl rfl) rfl rfl (kk_wl ?_))
  obtain ⟨x10, hx10, h⟩ := bd h
  refine wl_u rfl (ow_cV rfl hb33 rfl (fun w hw => c_spec_l1At N _ _ _ hx10 w (Lay.at_ h_done hw)) rfl rfl (kk_wl ?_))
  refine wl_u rfl (ow_y (yh_assign rfl rfl) rfl rfl (kk_wl ?_))
  refine wl_nil ?_
  refine ex_seq ?_
  refine cw_seq ?_
  refine cw_seq ?_
  refine cw_region ?_
  refine wl_u rfl (ow_y (yh_assign rfl rfl) rfl rfl (kk_wl ?_))
  refine wl_nil ?_
  refine ex_seq ?_
  refine cw_block ?_
  obtain ⟨e5, he5, hk5⟩ := bd h
  clear h
  refine cw_loopG (σ := Nat × Nat) (fun s => m_spec_l13After_L5 N done s_ x10 s.1 s.2 = some e5) (fun s => [(0, .slice a_done done.length c_done), (3, .pointer (some ⟨g3, 0, none⟩)), (5, .int .i64 x10), (6, .int .i64 ((s.2 : Nat) : Int))]) (fun s => [blkC g3 28 [.string s_.name, .slice a_s__after s_.after.length c_s__after, .bool s_.undo]]) (fun s => s.1) (N, 0) [0] he5 ⟨rfl, rfl, rfl, rfl, trivial⟩ rfl (fun KL s he5 hn5 => ?_)
  obtain ⟨n5, s6⟩ := s
  simp only at he5 hn5 ⊢
  rcases n5 with _ | n5
  · exact nosome he5
  have h := he5; rw [m_spec_l13After_L5] at h
  refine cw_seq ?_
  refine cw_seq ?_
  refine cw_region ?_
  refine wl_u rfl (ow_y (yh_move rfl rfl) rfl rfl (kk_wl ?_))
  refine wl_u rfl (ow_y (yh_field Tb rfl rfl rfl) rfl rfl (kk_wl ?_))
  refine wl_u rfl (ow_y (yh_loadB Tb (k := 0) rfl rfl rfl rfl rfl) rfl rfl (kk_wl ?_))
  refine wl_u rfl (ow_y (yh_lenS Tb rfl rfl rfl rfl) rfl rfl (kk_wl ?_))
  refine wl_u rfl (ow_y (yh_cmpI rfl rfl rfl rfl) rfl rfl (kk_wl ?_))
  refine wl_nil ?_
  refine ex_seq ?_
  refine cw_split rfl (fun c1 => ?_) (fun c1 => ?_)
  · skip
    replace h := bt c1 h
    have q1 := ltb_true.1 c1
    refine cw_skip ?_
    refine ex_seq ?_
    refine cw_seq ?_
    refine cw_block ?_
    refine cw_seq ?_
    refine cw_region ?_
    refine wl_u rfl (ow_y (yh_move rfl rfl) rfl rfl (kk_wl ?_))
    refine wl_u rfl (ow_y (yh_cmpI rfl rfl rfl rfl) rfl rfl (kk_wl ?_))
    refine wl_u rfl (ow_y (yh_move rfl rfl) rfl rfl (kk_wl ?_))
    refine wl_s rfl rfl (fun c2 => ?_) (fun c2 => ?_)
    · skip
      replace h := bt c2 h
      have q2 := leb_true.1 c2
      refine wl_g rfl rfl (ow_y (yh_move rfl rfl) rfl rfl (kk_wl ?_))
      refine wl_g rfl rfl (ow_y (yh_field Tb rfl rfl rfl) rfl rfl (kk_wl ?_))
      refine wl_g rfl rfl (ow_y (yh_loadB Tb (k := 0) rfl rfl rfl rfl rfl) rfl rfl (kk_wl ?_))
      refine wl_g rfl rfl (ow_y (yh_move rfl rfl) rfl rfl (kk_wl ?_))
      obtain ⟨y25, hy25, h⟩ := bd h
      obtain ⟨b25, o25, ha25⟩ := sl_addr h_s__after hy25
      subst ha25
      have hc25 := get_str h_s__after hy25
      refine wl_g rfl rfl (ow_y (yh_idx Tb (k := s6) rfl rfl rfl rfl (get_lt hy25) rfl rfl) rfl rfl (kk_wl ?_))
      refine wl_g rfl rfl (ow_y (yh_loadA0 Tb rfl rfl rfl hc25 rfl) rfl rfl (kk_wl ?_))
      obtain ⟨x27, hx27, h⟩ := bd h
      refine wl_g rfl rfl (ow_cV rfl hb73 rfl (fun w hw => c_spec_l13Place N _ _ _ hx27 w (Lay.at_ h_done hw)) rfl rfl (kk_wl ?_))
      refine wl_g rfl rfl (ow_y (yh_move rfl rfl) rfl rfl (kk_wl ?_))
      refine wl_g rfl rfl (ow_y (yh_cmpI rfl rfl rfl rfl) rfl rfl (kk_wl ?_))
      refine wl_u rfl (ow_y (yh_pickT rfl rfl rfl) rfl rfl (kk_wl ?_))
      refine wl_nil ?_
      refine ex_seq ?_
      refine cw_split rfl (fun c3 => ?_) (fun c3 => ?_)
      · skip
        replace h := bt c3 h
        have q3 := ltb_true.1 c3
        refine cw_seq ?_
        refine cw_region ?_
        refine wl_u rfl (ow_y (yh_assign rfl rfl) rfl rfl (kk_wl ?_))
        refine wl_nil ?_
        refine ex_seq ?_
        refine cw_ret ?_
        refine ex_block_ret ?_
        refine ex_then_ret ?_
        refine ex_then_ret ?_
        refine ex_block_ret ?_
        refine ex_then_ret ?_
        obtain rfl := Option.some.inj h
        obtain rfl := go_ret hk5
        exact ex_r1 Tb rfl (.tmp rfl) (fun wq hq => ⟨_, rfl, hq.ext, rfl⟩)
      · skip
        replace h := bf c3 h
        have q4 := ltb_false.1 c3
        refine cw_skip ?_
        refine ex_block_normal ?_
        refine ex_seq ?_
        refine cw_region ?_
        refine wl_u rfl (ow_y (yh_move rfl rfl) rfl rfl (kk_wl ?_))
        refine wl_u rfl (ow_y (yh_arI rfl rfl rfl rfl (by omega)) rfl rfl (kk_wl ?_))
        refine wl_u rfl (ow_y (yh_assign rfl rfl) rfl rfl (kk_wl ?_))
        refine wl_nil ?_
        exact ex_next [0] (hn5 (n5, s6 + 1) (Nat.lt_succ_self _) h) ⟨rfl, rfl, rfl, rfl, trivial⟩ (by kernel_rfl)
    · skip
      replace h := bf c2 h
      have q5 := leb_false.1 c2
      refine wl_n rfl rfl rfl rfl ?_
      refine wl_n rfl rfl rfl rfl ?_
      refine wl_n rfl rfl rfl rfl ?_
      refine wl_n rfl rfl rfl rfl ?_
      refine wl_n rfl rfl rfl rfl ?_
      refine wl_n rfl rfl rfl rfl ?_
      refine wl_n rfl rfl rfl rfl ?_
      refine wl_n rfl rfl rfl rfl ?_
      refine wl_n rfl rfl rfl rfl ?_
      refine wl_u rfl (ow_y (yh_pickF rfl rfl rfl) rfl rfl (kk_wl ?_))
      refine wl_nil ?_
      refine ex_seq ?_
      refine cw_false rfl ?_
      refine cw_skip ?_
      refine ex_block_normal ?_
      refine ex_seq ?_
      refine cw_region ?_
      refine wl_u rfl (ow_y (yh_move rfl rfl) rfl rfl (kk_wl ?_))
      refine wl_u rfl (ow_y (yh_arI rfl rfl rfl rfl (by omega)) rfl rfl (kk_wl ?_))
      refine wl_u rfl (ow_y (yh_assign rfl rfl) rfl rfl (kk_wl ?_))
      refine wl_nil ?_
      exact ex_next [0] (hn5 (n5, s6 + 1) (Nat.lt_succ_self _) h) ⟨rfl, rfl, rfl, rfl, trivial⟩ (by kernel_rfl)
  · skip
    replace h := bf c1 h
    have q6 := ltb_false.1 c1
    refine cw_exit ?_
    refine ex_then_exit ?_
    refine ex_then_exit ?_
    obtain rfl := Option.some.inj h
    have h := go_brk hk5
    refine ex_block_exit ?_
    refine ex_seq ?_
    refine cw_seq ?_
    refine cw_region ?_
    refine wl_u rfl (ow_y (yh_assign rfl rfl) rfl rfl (kk_wl ?_))
    refine wl_nil ?_
    refine ex_seq ?_
    refine cw_ret ?_
    obtain rfl := Option.some.inj h
    exact ex_r1 Tb rfl (.tmp rfl) (fun wq hq => ⟨_, rfl, hq.ext, rfl⟩)

def m_spec_MoveMay (N : Nat) (f : Flow) (c : Change) (r : Run) : Option (Bool) := (m_spec_FlowChange N f c).bind fun x12 => (bif !x12.2 then some false
 else (m_spec_RunValid N f r).bind fun x20 => (bif !x20 then some false
 else (bif eqb r.state 1 then some false
 else (bif eqb r.state 3 then some false
 else (bif eqb c.kind 2 then (m_spec_l1At N r.done c.step.name).bind fun x42 => some (ltb x42 0)
 else (bif eqb c.kind 3 then (m_spec_l13After N r.done c.step).bind fun x50 => some x50
 else some true))))))

set_option maxHeartbeats 4000000 in
theorem c_spec_MoveMay (N : Nat) (f : Flow) (c : Change) (r : Run) (res : Bool) (h : m_spec_MoveMay N f c r = some res) (w : World) {a_c_step_after a_f_steps a_r_done : Option Addr} {c_c_step_after c_f_steps c_r_done : Nat} (h_f_steps : stepsL.rd w [] [.slice a_f_steps f.steps.length c_f_steps] f.steps) (h_c_step_after : strsL.rd w [] [.slice a_c_step_after c.step.after.length c_c_step_after] c.step.after) (h_r_done : strsL.rd w [] [.slice a_r_done r.done.length c_r_done] r.done) : Ret Tryz.prog 9 [.agg #[.int .i64 f.ver, .slice a_f_steps f.steps.length c_f_steps], .agg #[.int .i64 c.kind, .string c.step.name, .slice a_c_step_after c.step.after.length c_c_step_after, .bool c.step.undo], .agg #[.int .i64 r.state, .slice a_r_done r.done.length c_r_done]] w [] fun v w' => v = .bool res := by
  have mh_f_steps := rd_max h_f_steps
  have mh_c_step_after := rd_max h_c_step_after
  have mh_r_done := rd_max h_r_done
  unfold m_spec_MoveMay at h
  refine ret_enter Tryz.func9 rfl Tryz.ntmps9 rfl (Hp.refl w _) ?_
  refine cw_seq ?_
  refine cw_region ?_
  refine wl_u rfl (ow_boxA rfl rfl rfl rfl (fun g3 => kk_wl ?_))
  refine wl_u rfl (ow_boxA rfl rfl rfl rfl (fun g4 => kk_wl ?_))
  refine wl_u rfl (ow_boxA rfl rfl rfl rfl (fun g5 => kk_wl ?_))
  refine wl_u rfl (ow_y (yh_assign rfl rfl) rfl rfl (kk_wl ?_))
  refine wl_nil ?_
  refine ex_seq ?_
  refine cw_seq ?_
  refine cw_region ?_
  refine wl_u rfl (ow_y (yh_loadBA Tb (k := 2) rfl rfl rfl rfl rfl rfl) rfl rfl (kk_wl ?_))
  refine wl_u rfl (ow_y (yh_loadBA Tb (k := 1) rfl rfl rfl rfl rfl rfl) rfl rfl (kk_wl ?_))
  obtain ⟨x12, hx12, h⟩ := bd h
  refine wl_u rfl (ow_cN1 rfl hb15 rfl (fun w hw => c_spec_FlowChange N _ _ _ hx12 w (Lay.at_ h_f_steps hw) (Lay.at_ h_c_step_after hw)) rfl rfl (fun a12 c12 F12 => kk_wl ?_))
  refine wl_u rfl (ow_y (yh_move rfl rfl) rfl rfl (kk_wl ?_))
  refine wl_u rfl (ow_y (yh_extract rfl rfl rfl) rfl rfl (kk_wl ?_))
  refine wl_u rfl (ow_y (yh_extract rfl rfl rfl) rfl rfl (kk_wl ?_))
  refine wl_u rfl (ow_allocA Tb rfl rfl rfl rfl (fun g7 => kk_wl ?_))
  refine wl_u rfl (ow_storeA Tb (k := 0) rfl rfl rfl rfl rfl rfl rfl rfl rfl (kk_wl ?_))
  refine wl_u rfl (ow_y (yh_assign rfl rfl) rfl rfl (kk_wl ?_))
  refine wl_nil ?_
  refine ex_seq ?_
  refine cw_seq ?_
  refine cw_seq ?_
  refine cw_region ?_
  refine wl_u rfl (ow_y (yh_move rfl rfl) rfl rfl (kk_wl ?_))
  refine wl_u rfl (ow_y (yh_not rfl rfl) rfl rfl (kk_wl ?_))
  refine wl_u rfl (ow_y (yh_move rfl rfl) rfl rfl (kk_wl ?_))
  refine wl_s rfl rfl (fun c1 => ?_) (fun c1 => ?_)
  · skip
    replace h := bt c1 h
    refine wl_n rfl rfl rfl rfl ?_
    refine wl_n rfl rfl rfl rfl ?_
    refine wl_n rfl rfl rfl rfl ?_
    refine wl_n rfl rfl rfl rfl ?_
    refine wl_u rfl (ow_y (yh_pickT rfl rfl rfl) rfl rfl (kk_wl ?_))
    refine wl_u rfl (ow_y (yh_move rfl rfl) rfl rfl (kk_wl ?_))
    refine wl_s rfl rfl (fun _ => ?_) nofun
    refine wl_n rfl rfl rfl rfl ?_
    refine wl_n rfl rfl rfl rfl ?_
    refine wl_n rfl rfl rfl rfl ?_
    refine wl_u rfl (ow_y (yh_pickT rfl rfl rfl) rfl rfl (kk_wl ?_))
    refine wl_u rfl (ow_y (yh_move rfl rfl) rfl rfl (kk_wl ?_))
    refine wl_s rfl rfl (fun _ => ?_) nofun
    refine wl_n rfl rfl rfl rfl ?_
    refine wl_n rfl rfl rfl rfl ?_
    refine wl_n rfl rfl rfl rfl ?_
    refine wl_u rfl (ow_y (yh_pickT rfl rfl rfl) rfl rfl (kk_wl ?_))
    refine wl_nil ?_
    refine ex_seq ?_
    refine cw_true rfl ?_
    refine cw_seq ?_
    refine cw_region ?_
    refine wl_u rfl (ow_y (yh_assign rfl rfl) rfl rfl (kk_wl ?_))
    refine wl_nil ?_
    refine ex_seq ?_
    refine cw_ret ?_
    refine ex_then_ret ?_
    obtain rfl := Option.some.inj h
    exact ex_r1 Tb rfl (.tmp rfl) (fun wq hq => ⟨_, rfl, hq.ext, rfl⟩)
  · skip
    replace h := bf c1 h
    refine wl_g rfl rfl (ow_y (yh_loadBA Tb (k := 4) rfl rfl rfl rfl rfl rfl) rfl rfl (kk_wl ?_))
    refine wl_g rfl rfl (ow_y (yh_loadBA Tb (k := 2) rfl rfl rfl rfl rfl rfl) rfl rfl (kk_wl ?_))
    obtain ⟨x20, hx20, h⟩ := bd h
    refine wl_g rfl rfl (ow_cV rfl hb10 rfl (fun w hw => c_spec_RunValid N _ _ _ hx20 w (Lay.at_ h_f_steps hw) (Lay.at_ h_r_done hw)) rfl rfl (kk_wl ?_))
    refine wl_g rfl rfl (ow_y (yh_not rfl rfl) rfl rfl (kk_wl ?_))
    refine wl_u rfl (ow_y (yh_pickF rfl rfl rfl) rfl rfl (kk_wl ?_))
    refine wl_u rfl (ow_y (yh_move rfl rfl) rfl rfl (kk_wl ?_))
    refine wl_s rfl rfl (fun c2 => ?_) (fun c2 => ?_)
    · skip
      replace h := bt c2 h
      refine wl_n rfl rfl rfl rfl ?_
      refine wl_n rfl rfl rfl rfl ?_
      refine wl_n rfl rfl rfl rfl ?_
      refine wl_u rfl (ow_y (yh_pickT rfl rfl rfl) rfl rfl (kk_wl ?_))
      refine wl_u rfl (ow_y (yh_move rfl rfl) rfl rfl (kk_wl ?_))
      refine wl_s rfl rfl (fun _ => ?_) nofun
      refine wl_n rfl rfl rfl rfl ?_
      refine wl_n rfl rfl rfl rfl ?_
      refine wl_n rfl rfl rfl rfl ?_
      refine wl_u rfl (ow_y (yh_pickT rfl rfl rfl) rfl rfl (kk_wl ?_))
      refine wl_nil ?_
      refine ex_seq ?_
      refine cw_true rfl ?_
      refine cw_seq ?_
      refine cw_region ?_
      refine wl_u rfl (ow_y (yh_assign rfl rfl) rfl rfl (kk_wl ?_))
      refine wl_nil ?_
      refine ex_seq ?_
      refine cw_ret ?_
      refine ex_then_ret ?_
      obtain rfl := Option.some.inj h
      exact ex_r1 Tb rfl (.tmp rfl) (fun wq hq => ⟨_, rfl, hq.ext, rfl⟩)
    · skip
      replace h := bf c2 h
      refine wl_g rfl rfl (ow_y (yh_field Tb rfl rfl rfl) rfl rfl (kk_wl ?_))
      refine wl_g rfl rfl (ow_y (yh_loadB Tb (k := 2) rfl rfl rfl rfl rfl) rfl rfl (kk_wl ?_))
      refine wl_g rfl rfl (ow_y (yh_cmpI rfl rfl rfl rfl) rfl rfl (kk_wl ?_))
      refine wl_u rfl (ow_y (yh_pickF rfl rfl rfl) rfl rfl (kk_wl ?_))
      refine wl_u rfl (ow_y (yh_move rfl rfl) rfl rfl (kk_wl ?_))
      refine wl_s rfl rfl (fun c3 => ?_) (fun c3 => ?_)
      · skip
        replace h := bt c3 h
        have q1 := eqb_true.1 c3
        refine wl_n rfl rfl rfl rfl ?_
        refine wl_n rfl rfl rfl rfl ?_
        refine wl_n rfl rfl rfl rfl ?_
        refine wl_u rfl (ow_y (yh_pickT rfl rfl rfl) rfl rfl (kk_wl ?_))
        refine wl_nil ?_
        refine ex_seq ?_
        refine cw_true rfl ?_
        refine cw_seq ?_
        refine cw_region ?_
        refine wl_u rfl (ow_y (yh_assign rfl rfl) rfl rfl (kk_wl ?_))
        refine wl_nil ?_
        refine ex_seq ?_
        refine cw_ret ?_
        refine ex_then_ret ?_
        obtain rfl := Option.some.inj h
        exact ex_r1 Tb rfl (.tmp rfl) (fun wq hq => ⟨_, rfl, hq.ext, rfl⟩)
      · skip
        replace h := bf c3 h
        have q2 := eqb_false.1 c3
        refine wl_g rfl rfl (ow_y (yh_field Tb rfl rfl rfl) rfl rfl (kk_wl ?_))
        refine wl_g rfl rfl (ow_y (yh_loadB Tb (k := 2) rfl rfl rfl rfl rfl) rfl rfl (kk_wl ?_))
        refine wl_g rfl rfl (ow_y (yh_cmpI rfl rfl rfl rfl) rfl rfl (kk_wl ?_))
        refine wl_u rfl (ow_y (yh_pickF rfl rfl rfl) rfl rfl (kk_wl ?_))
        refine wl_nil ?_
        refine ex_seq ?_
        refine cw_split rfl (fun c4 => ?_) (fun c4 => ?_)
        · skip
          replace h := bt c4 h
          have q3 := eqb_true.1 c4
          refine cw_seq ?_
          refine cw_region ?_
          refine wl_u rfl (ow_y (yh_assign rfl rfl) rfl rfl (kk_wl ?_))
          refine wl_nil ?_
          refine ex_seq ?_
          refine cw_ret ?_
          refine ex_then_ret ?_
          obtain rfl := Option.some.inj h
          exact ex_r1 Tb rfl (.tmp rfl) (fun wq hq => ⟨_, rfl, hq.ext, rfl⟩)
        · skip
          replace h := bf c4 h
          have q4 := eqb_false.1 c4
          refine cw_skip ?_
          refine ex_seq ?_
          refine cw_seq ?_
          refine cw_seq ?_
          refine cw_region ?_
          refine wl_u rfl (ow_y (yh_field Tb rfl rfl rfl) rfl rfl (kk_wl ?_))
          refine wl_u rfl (ow_y (yh_loadB Tb (k := 3) rfl rfl rfl rfl rfl) rfl rfl (kk_wl ?_))
          refine wl_nil ?_
          refine ex_seq ?_
          refine cw_block ?_
          refine cw_seq ?_
          refine cw_region ?_
          refine wl_u rfl (ow_y (yh_cmpI rfl rfl rfl rfl) rfl rfl (kk_wl ?_))
          refine wl_u rfl (ow_y (yh_assign rfl rfl) rfl rfl (kk_wl ?_))
          refine wl_nil ?_
          refine ex_seq ?_
          refine cw_split rfl (fun c5 => ?_) (fun c5 => ?_)
          · skip
            replace h := bt c5 h
            have q5 := eqb_true.1 c5
            refine cw_seq ?_
            refine cw_region ?_
            refine wl_u rfl (ow_y (yh_field Tb rfl rfl rfl) rfl rfl (kk_wl ?_))
            refine wl_u rfl (ow_y (yh_loadB Tb (k := 2) rfl rfl rfl rfl rfl) rfl rfl (kk_wl ?_))
            refine wl_u rfl (ow_y (yh_field Tb rfl rfl rfl) rfl rfl (kk_wl ?_))
            refine wl_u rfl (ow_y (yh_field Tb rfl rfl rfl) rfl rfl (kk_wl ?_))
            refine wl_u rfl (ow_y (yh_loadB Tb (k := 3) rfl rfl rfl rfl rfl) rfl rfl (kk_wl ?_))
            obtain ⟨x42, hx42, h⟩ := bd h
            refine wl_u rfl (ow_cV rfl hb33 rfl (fun w hw => c_spec_l1At N _ _ _ hx42 w (Lay.at_ h_r_done hw)) rfl rfl (kk_wl ?_))
            refine wl_u rfl (ow_y (yh_cmpI rfl rfl rfl rfl) rfl rfl (kk_wl ?_))
            refine wl_u rfl (ow_y (yh_assign rfl rfl) rfl rfl (kk_wl ?_))
            refine wl_nil ?_
            refine ex_seq ?_
            refine cw_ret ?_
            refine ex_block_ret ?_
            refine ex_then_ret ?_
            obtain rfl := Option.some.inj h
            exact ex_r1 Tb rfl (.tmp rfl) (fun wq hq => ⟨_, rfl, hq.ext, rfl⟩)
          · skip
            replace h := bf c5 h
            have q6 := eqb_false.1 c5
            refine cw_seq ?_
            refine cw_region ?_
            refine wl_u rfl (ow_y (yh_cmpI rfl rfl rfl rfl) rfl rfl (kk_wl ?_))
            refine wl_u rfl (ow_y (yh_assign rfl rfl) rfl rfl (kk_wl ?_))
            refine wl_nil ?_
            refine ex_seq ?_
            refine cw_split rfl (fun c6 => ?_) (fun c6 => ?_)
            · skip
              replace h := bt c6 h
              have q7 := eqb_true.1 c6
              refine cw_seq ?_
              refine cw_region ?_
              refine wl_u rfl (ow_y (yh_field Tb rfl rfl rfl) rfl rfl (kk_wl ?_))
              refine wl_u rfl (ow_y (yh_loadB Tb (k := 2) rfl rfl rfl rfl rfl) rfl rfl (kk_wl ?_))
              refine wl_u rfl (ow_y (yh_field Tb rfl rfl rfl) rfl rfl (kk_wl ?_))
              refine wl_u rfl (ow_y (yh_loadBN Tb (k := 3) rfl rfl rfl rfl rfl rfl rfl) rfl rfl (kk_wl ?_))
              obtain ⟨x50, hx50, h⟩ := bd h
              refine wl_u rfl (ow_cV rfl hb34 rfl (fun w hw => c_spec_l13After N _ _ _ hx50 w (Lay.at_ h_r_done hw) (Lay.at_ h_c_step_after hw)) rfl rfl (kk_wl ?_))
              refine wl_u rfl (ow_y (yh_assign rfl rfl) rfl rfl (kk_wl ?_))
              refine wl_nil ?_
              refine ex_seq ?_
              refine cw_ret ?_
              refine ex_block_ret ?_
              refine ex_then_ret ?_
              obtain rfl := Option.some.inj h
              exact ex_r1 Tb rfl (.tmp rfl) (fun wq hq => ⟨_, rfl, hq.ext, rfl⟩)
            · skip
              replace h := bf c6 h
              have q8 := eqb_false.1 c6
              refine cw_skip ?_
              refine ex_block_normal ?_
              refine ex_seq ?_
              refine cw_seq ?_
              refine cw_region ?_
              refine wl_u rfl (ow_y (yh_assign rfl rfl) rfl rfl (kk_wl ?_))
              refine wl_nil ?_
              refine ex_seq ?_
              refine cw_ret ?_
              obtain rfl := Option.some.inj h
              exact ex_r1 Tb rfl (.tmp rfl) (fun wq hq => ⟨_, rfl, hq.ext, rfl⟩)

def m_impl_Flow_forth (N : Nat) (f : Flow) (done : List Str) : Option (Int) := (bif eqb ((done.length : Nat) : Int) ((f.steps.length : Nat) : Int) then some 2
 else some 0)

set_option maxHeartbeats 4000000 in
theorem c_impl_Flow_forth (N : Nat) (f : Flow) (done : List Str) (res : Int) (h : m_impl_Flow_forth N f done = some res) (w : World) {a_done a_f_steps : Option Addr} {c_done c_f_steps : Nat} (h_f_steps : stepsL.rd w [] [.slice a_f_steps f.steps.length c_f_steps] f.steps) (h_done : strsL.rd w [] [.slice a_done done.length c_done] done) : Ret Tryz.prog 48 [.agg #[.int .i64 f.ver, .slice a_f_steps f.steps.length c_f_steps], .slice a_done done.length c_done] w [] fun v w' => v = .int .i64 res := by
  have mh_f_steps := rd_max h_f_steps
  have mh_done := rd_max h_done
  unfold m_impl_Flow_forth at h
  refine ret_enter Tryz.func48 rfl Tryz.ntmps48 rfl (Hp.refl w _) ?_
  refine cw_seq ?_
  refine cw_region ?_
  refine wl_u rfl (ow_boxA rfl rfl rfl rfl (fun g2 => kk_wl ?_))
  refine wl_u rfl (ow_y (yh_assign rfl rfl) rfl rfl (kk_wl ?_))
  refine wl_nil ?_
  refine ex_seq ?_
  refine cw_seq ?_
  refine cw_seq ?_
  refine cw_region ?_
  refine wl_u rfl (ow_y (yh_move rfl rfl) rfl rfl (kk_wl ?_))
  refine wl_u rfl (ow_y (yh_lenS Tb rfl rfl rfl rfl) rfl rfl (kk_wl ?_))
  refine wl_u rfl (ow_y (yh_field Tb rfl rfl rfl) rfl rfl (kk_wl ?_))
  refine wl_u rfl (ow_y (yh_loadB Tb (k := 0) rfl rfl rfl rfl rfl) rfl rfl (kk_wl ?_))
  refine wl_u rfl (ow_y (yh_lenS Tb rfl rfl rfl rfl) rfl rfl (kk_wl ?_))
  refine wl_u rfl (ow_y (yh_cmpI rfl rfl rfl rfl) rfl rfl (kk_wl ?_))
  refine wl_nil ?_
  refine ex_seq ?_
  refine cw_split rfl (fun c1 => ?_) (fun c1 => ?_)
  · skip
    replace h := bt c1 h
    have q1 := eqb_true.1 c1
    refine cw_seq ?_
    refine cw_region ?_
    refine wl_u rfl (ow_y (yh_assign rfl rfl) rfl rfl (kk_wl ?_))
    refine wl_nil ?_
    refine ex_seq ?_
    refine cw_ret ?_
    refine ex_then_ret ?_
    obtain rfl := Option.some.inj h
    exact ex_r1 Tb rfl (.tmp rfl) (fun wq hq => ⟨_, rfl, hq.ext, rfl⟩)
  · skip
    replace h := bf c1 h
    have q2 := eqb_false.1 c1
    refine cw_skip ?_
    refine ex_seq ?_
    refine cw_seq ?_
    refine cw_region ?_
    refine wl_u rfl (ow_y (yh_assign rfl rfl) rfl rfl (kk_wl ?_))
    refine wl_nil ?_
    refine ex_seq ?_
    refine cw_ret ?_
    obtain rfl := Option.some.inj h
    exact ex_r1 Tb rfl (.tmp rfl) (fun wq hq => ⟨_, rfl, hq.ext, rfl⟩)

def m_impl_Flow_back (N : Nat) (f : Flow) (done : List Str) : Option (Int) := (bif ltb 0 ((done.length : Nat) : Int) then (geti done (((done.length : Nat) : Int) - 1)).bind fun y16 => (m_impl_Flow_at N f y16).bind fun x18 => (geti f.steps x18).bind fun y19 => (bif y19.undo then some 1
 else some 3)
 else some 3)

set_option maxHeartbeats 4000000 in
theorem c_impl_Flow_back (N : Nat) (f : Flow) (done : List Str) (res : Int) (h : m_impl_Flow_back N f done = some res) (w : World) {a_done a_f_steps : Option Addr} {c_done c_f_steps : Nat} (h_f_steps : stepsL.rd w [] [.slice a_f_steps f.steps.length c_f_steps] f.steps) (h_done : strsL.rd w [] [.slice a_done done.length c_done] done) : Ret Tryz.prog 49 [.agg #[.int .i64 f.ver, .slice a_f_steps f.steps.length c_f_steps], .slice a_done done.length c_done] w [] fun v w' => v = .int .i64 res := by
  have mh_f_steps := rd_max h_f_steps
  have mh_done := rd_max h_done
  unfold m_impl_Flow_back at h
  refine ret_enter Tryz.func49 rfl Tryz.ntmps49 rfl (Hp.refl w _) ?_
  refine cw_seq ?_
  refine cw_region ?_
  refine wl_u rfl (ow_boxA rfl rfl rfl rfl (fun g2 => kk_wl ?_))
  refine wl_u rfl (ow_y (yh_assign rfl rfl) rfl rfl (kk_wl ?_))
  refine wl_nil ?_
  refine ex_seq ?_
  refine cw_seq ?_
  refine cw_seq ?_
  refine cw_dr [0, 1, 2, 3, 4, 5, 6, 7, 8, 9, 10, 11, 12, 14, 15, 16, 17] [] [blkC g2 25 [.int .i64 f.ver, .slice a_f_steps f.steps.length c_f_steps]] (by kernel_rfl) ?_
  refine wd_take (i := 0) [0] rfl rfl rfl rfl rfl (by kernel_rfl) (by kernel_rfl) (fun _ _ _ _ h => h) (yh_move rfl rfl) ?_
  refine wd_take (i := 1) [0] rfl rfl rfl rfl rfl (by kernel_rfl) (by kernel_rfl) (fun _ _ _ _ h => h) (yh_lenS Tb rfl rfl rfl rfl) ?_
  refine wd_take (i := 2) [0] rfl rfl rfl rfl rfl (by kernel_rfl) (by kernel_rfl) (fun _ _ _ _ h => h) (yh_cmpI rfl rfl rfl rfl) ?_
  refine wd_take (i := 3) [0] rfl rfl rfl rfl rfl (by kernel_rfl) (by kernel_rfl) (fun _ _ _ _ h => h) (yh_move rfl rfl) ?_
  refine wd_split 4 rfl rfl rfl (fun c1 => ?_) (fun c1 => ?_)
  · skip
    replace h := bt c1 h
    have q1 := ltb_true.1 c1
    refine wd_take (i := 4) [0] rfl rfl rfl rfl rfl (by kernel_rfl) (by kernel_rfl) (fun _ _ _ _ h => h) (yh_field Tb rfl rfl rfl) ?_
    refine wd_take (i := 5) [0] rfl rfl rfl rfl rfl (by kernel_rfl) (by kernel_rfl) (fun _ _ _ _ h => h) (yh_loadB Tb (k := 0) rfl rfl rfl rfl rfl) ?_
    refine wd_take (i := 6) [0] rfl rfl rfl rfl rfl (by kernel_rfl) (by kernel_rfl) (fun _ _ _ _ h => h) (yh_loadBA Tb (k := 0) rfl rfl rfl rfl rfl rfl) ?_
    refine wd_take (i := 7) [0] rfl rfl rfl rfl rfl (by kernel_rfl) (by kernel_rfl) (fun _ _ _ _ h => h) (yh_move rfl rfl) ?_
    refine wd_take (i := 8) [0] rfl rfl rfl rfl rfl (by kernel_rfl) (by kernel_rfl) (fun _ _ _ _ h => h) (yh_move rfl rfl) ?_
    refine wd_take (i := 9) [0] rfl rfl rfl rfl rfl (by kernel_rfl) (by kernel_rfl) (fun _ _ _ _ h => h) (yh_lenS Tb rfl rfl rfl rfl) ?_
    refine wd_take (i := 10) [0] rfl rfl rfl rfl rfl (by kernel_rfl) (by kernel_rfl) (fun _ _ _ _ h => h) (yh_arI rfl rfl rfl rfl (by omega)) ?_
    obtain ⟨y16, zy16, h⟩ := bd h
    obtain ⟨iy16, hy16⟩ := geti_some zy16
    obtain ⟨b16, o16, ha16⟩ := sl_addr h_done hy16
    subst ha16
    have hc16 := get_str h_done hy16
    refine wd_take (i := 11) [0] rfl rfl rfl rfl rfl (by kernel_rfl) (by kernel_rfl) (fun _ _ _ _ h => h) (yh_idx Tb (k := (((done.length : Nat) : Int) - 1).toNat) rfl rfl rfl iy16 (get_lt hy16) rfl rfl) ?_
    refine wd_take (i := 12) [0] rfl rfl rfl rfl rfl (by kernel_rfl) (by kernel_rfl) (fun _ _ _ _ h => h) (yh_loadA0 Tb rfl rfl rfl hc16 rfl) ?_
    obtain ⟨x18, hx18, h⟩ := bd h
    refine wd_one 13 rfl rfl (by kernel_rfl) (ow_cV rfl hb31 rfl (fun w hw => c_impl_Flow_at N _ _ _ hx18 w (Lay.at_ h_f_steps hw)) rfl rfl (kk_wd [0] (by kernel_rfl) ?_))
    obtain ⟨y19, zy19, h⟩ := bd h
    obtain ⟨iy19, hy19⟩ := geti_some zy19
    obtain ⟨b19, o19, ha19⟩ := sl_addr h_f_steps hy19
    subst ha19
    obtain ⟨a19, e19, hc19, hf19⟩ := get_step h_f_steps hy19
    have mx19 := rd_max hf19
    refine wd_take (i := 14) [0] rfl rfl rfl rfl rfl (by kernel_rfl) (by kernel_rfl) (fun _ _ _ _ h => h) (yh_idx Tb (k := x18.toNat) rfl rfl rfl iy19 (get_lt hy19) rfl rfl) ?_
    refine wd_take (i := 15) [0] rfl rfl rfl rfl rfl (by kernel_rfl) (by kernel_rfl) (fun _ _ _ _ h => h) (yh_field Tb rfl rfl rfl) ?_
    refine wd_take (i := 16) [0] rfl rfl rfl rfl rfl (by kernel_rfl) (by kernel_rfl) (fun _ _ _ _ h => h) (yh_loadAF Tb (j := 2) rfl rfl rfl hc19 rfl) ?_
    refine wd_take (i := 17) [0] rfl rfl rfl rfl rfl (by kernel_rfl) (by kernel_rfl) (fun _ _ _ _ h => h) (yh_pickT rfl rfl rfl) ?_
    refine wd_done (by kernel_rfl) ?_
    refine ex_seq ?_
    refine cw_split rfl (fun c2 => ?_) (fun c2 => ?_)
    · skip
      replace h := bt c2 h
      refine cw_seq ?_
      refine cw_region ?_
      refine wl_u rfl (ow_y (yh_assign rfl rfl) rfl rfl (kk_wl ?_))
      refine wl_nil ?_
      refine ex_seq ?_
      refine cw_ret ?_
      refine ex_then_ret ?_
      obtain rfl := Option.some.inj h
      exact ex_r1 Tb rfl (.tmp rfl) (fun wq hq => ⟨_, rfl, hq.ext, rfl⟩)
    · skip
      replace h := bf c2 h
      refine cw_skip ?_
      refine ex_seq ?_
      refine cw_seq ?_
      refine cw_region ?_
      refine wl_u rfl (ow_y (yh_assign rfl rfl) rfl rfl (kk_wl ?_))
      refine wl_nil ?_
      refine ex_seq ?_
      refine cw_ret ?_
      obtain rfl := Option.some.inj h
      exact ex_r1 Tb rfl (.tmp rfl) (fun wq hq => ⟨_, rfl, hq.ext, rfl⟩)
  · skip
    replace h := bf c1 h
    have q2 := ltb_false.1 c1
    refine wd_skip (i := 4) [0] rfl rfl rfl rfl (by kernel_rfl) (by kernel_rfl) (fun _ _ _ h => h) ?_
    refine wd_skip (i := 5) [0] rfl rfl rfl rfl (by kernel_rfl) (by kernel_rfl) (fun _ _ _ h => h) ?_
    refine wd_skip (i := 6) [0] rfl rfl rfl rfl (by kernel_rfl) (by kernel_rfl) (fun _ _ _ h => h) ?_
    refine wd_skip (i := 7) [0] rfl rfl rfl rfl (by kernel_rfl) (by kernel_rfl) (fun _ _ _ h => h) ?_
    refine wd_skip (i := 8) [0] rfl rfl rfl rfl (by kernel_rfl) (by kernel_rfl) (fun _ _ _ h => h) ?_
    refine wd_skip (i := 9) [0] rfl rfl rfl rfl (by kernel_rfl) (by kernel_rfl) (fun _ _ _ h => h) ?_
    refine wd_skip (i := 10) [0] rfl rfl rfl rfl (by kernel_rfl) (by kernel_rfl) (fun _ _ _ h => h) ?_
    refine wd_skip (i := 11) [0] rfl rfl rfl rfl (by kernel_rfl) (by kernel_rfl) (fun _ _ _ h => h) ?_
    refine wd_skip (i := 12) [0] rfl rfl rfl rfl (by kernel_rfl) (by kernel_rfl) (fun _ _ _ h => h) ?_
    refine wd_offD 13 rfl rfl rfl rfl (by kernel_rfl) [0] (fun _ => rfl) ?_
    refine wd_skip (i := 14) [0] rfl rfl rfl rfl (by kernel_rfl) (by kernel_rfl) (fun _ _ _ h => h) ?_
    refine wd_skip (i := 15) [0] rfl rfl rfl rfl (by kernel_rfl) (by kernel_rfl) (fun _ _ _ h => h) ?_
    refine wd_skip (i := 16) [0] rfl rfl rfl rfl (by kernel_rfl) (by kernel_rfl) (fun _ _ _ h => h) ?_
    refine wd_take (i := 17) [0] rfl rfl rfl rfl rfl (by kernel_rfl) (by kernel_rfl) (fun _ _ _ _ h => h) (yh_pickF rfl rfl rfl) ?_
    refine wd_done (by kernel_rfl) ?_
    refine ex_seq ?_
    refine cw_false rfl ?_
    refine cw_skip ?_
    refine ex_seq ?_
    refine cw_seq ?_
    refine cw_region ?_
    refine wl_u rfl (ow_y (yh_assign rfl rfl) rfl rfl (kk_wl ?_))
    refine wl_nil ?_
    refine ex_seq ?_
    refine cw_ret ?_
    obtain rfl := Option.some.inj h
    exact ex_r1 Tb rfl (.tmp rfl) (fun wq hq => ⟨_, rfl, hq.ext, rfl⟩)

def m_impl_RunValid_L8 (N : Nat) (f : Flow) (r : Run) : Nat → Nat → Option (Ex (Nat) (Bool))
  | 0, _ => none
  | n + 1, s13 => (bif ltb ((s13 : Nat) : Int) ((r.done.length : Nat) : Int) then (r.done[s13]?).bind fun y16 => (slTo r.done ((s13 : Nat) : Int)).bind fun l22 => (m_impl_Flow_ready N f l22).bind fun x23 => (m_slices_Contains_string N x23 y16).bind fun x25 => (bif !x25 then some (Ex.ret false)
 else m_impl_RunValid_L8 N f r n (s13 + 1))
 else some (Ex.brk (s13)))

def m_impl_RunValid (N : Nat) (f : Flow) (r : Run) : Option (Bool) := (m_impl_FlowValid N f).bind fun x8 => (bif !x8 then some false
 else (m_impl_RunValid_L8 N f r N 0).bind fun e8 => e8.go (fun r => r) fun b8 => ((bif eqb r.state 0 then some (eqb r.state 0)
 else some (eqb r.state 2)) : Option (Bool)).bind fun j118 => (bif j118 then (m_impl_Flow_forth N f r.done).bind fun x38 => some (eqb r.state x38)
 else ((bif eqb r.state 1 then some (eqb r.state 1)
 else some (eqb r.state 3)) : Option (Bool)).bind fun j122 => (bif j122 then (bif ltb ((r.done.length : Nat) : Int) ((f.steps.length : Nat) : Int) then (m_impl_Flow_back N f r.done).bind fun x56 => some (eqb r.state x56)
 else some false)
 else some false)))

set_option maxHeartbeats 4000000 in
theorem c_impl_RunValid (N : Nat) (f : Flow) (r : Run) (res : Bool) (h : m_impl_RunValid N f r = some res) (w : World) {a_f_steps a_r_done : Option Addr} {c_f_steps c_r_done : Nat} (h_f_steps : stepsL.rd w [] [.slice a_f_steps f.steps.length c_f_steps] f.steps) (h_r_done : strsL.rd w [] [.slice a_r_done r.done.length c_r_done] r.done) : Ret Tryz.prog 30 [.agg #[.int .i64 f.ver, .slice a_f_steps f.steps.length c_f_steps], .agg #[.int .i64 r.state, .slice a_r_done r.done.length c_r_done]] w [] fun v w' => v = .bool res := by
  have mh_f_steps := rd_max h_f_steps
  have mh_r_done := rd_max h_r_done
  unfold m_impl_RunValid at h
  refine ret_enter Tryz.func30 rfl Tryz.ntmps30 rfl (Hp.refl w _) ?_
  refine cw_seq ?_
  refine cw_region ?_
  refine wl_u rfl (ow_boxA rfl rfl rfl rfl (fun g2 => kk_wl ?_))
  refine wl_u rfl (ow_boxA rfl rfl rfl rfl (fun g3 => kk_wl ?_))
  refine wl_u rfl (ow_y (yh_assign rfl rfl) rfl rfl (kk_wl ?_))
  refine wl_nil ?_
  refine ex_seq ?_
  refine cw_seq ?_
  refine cw_seq ?_
  refine cw_region ?_
  refine wl_u rfl (ow_y (yh_loadBA Tb (k := 1) rfl rfl rfl rfl rfl rfl) rfl rfl (kk_wl ?_))
  obtain ⟨x8, hx8, h⟩ := bd h
  refine wl_u rfl (ow_cV rfl hb38 rfl (fun w hw => c_impl_FlowValid N _ _ hx8 w (Lay.at_ h_f_steps hw)) rfl rfl (kk_wl ?_))
  refine wl_u rfl (ow_y (yh_not rfl rfl) rfl rfl (kk_wl ?_))
  refine wl_nil ?_
  refine ex_seq ?_
  refine cw_split rfl (fun c1 => ?_) (fun c1 => ?_)
  · skip
    replace h := bt c1 h
    refine cw_seq ?_
    refine cw_region ?_
    refine wl_u rfl (ow_y (yh_assign rfl rfl) rfl rfl (kk_wl ?_))
    refine wl_nil ?_
    refine ex_seq ?_
    refine cw_ret ?_
    refine ex_then_ret ?_
    obtain rfl := Option.some.inj h
    exact ex_r1 Tb rfl (.tmp rfl) (fun wq hq => ⟨_, rfl, hq.ext, rfl⟩)
  · skip
    replace h := bf c1 h
    refine cw_skip ?_
    refine ex_seq ?_
    refine cw_seq ?_
    refine cw_seq ?_
    refine cw_region ?_
    refine wl_u rfl (ow_y (yh_field Tb rfl rfl rfl) rfl rfl (kk_wl ?_))
    refine wl_u rfl (ow_y (yh_loadB Tb (k := 0) rfl rfl rfl rfl rfl) rfl rfl (kk_wl ?_))
    refine wl_u rfl (ow_y (yh_lenS Tb rfl rfl rfl rfl) rfl rfl (kk_wl ?_))
    refine wl_u rfl (ow_y (yh_move rfl rfl) rfl rfl (kk_wl ?_))
    refine wl_nil ?_
    refine ex_seq ?_
    refine cw_block ?_
    obtain ⟨e8, he8, hk8⟩ := bd h
    clear h
    refine cw_loopG (σ := Nat × Nat) (fun s => m_impl_RunValid_L8 N f r s.1 s.2 = some e8) (fun s => [(2, .pointer (some ⟨g2, 0, none⟩)), (3, .pointer (some ⟨g3, 0, none⟩)), (11, .slice a_r_done r.done.length c_r_done), (12, .int .i64 ((r.done.length : Nat) : Int)), (13, .int .i64 ((s.2 : Nat) : Int))]) (fun s => [blkC g2 25 [.int .i64 f.ver, .slice a_f_steps f.steps.length c_f_steps], blkC g3 32 [.int .i64 r.state, .slice a_r_done r.done.length c_r_done]]) (fun s => s.1) (N, 0) [1, 0] he8 ⟨rfl, rfl, rfl, rfl, rfl, trivial⟩ rfl (fun KL s he8 hn8 => ?_)
    obtain ⟨n8, s13⟩ := s
    simp only at he8 hn8 ⊢
    rcases n8 with _ | n8
    · exact nosome he8
    have h := he8; rw [m_impl_RunValid_L8] at h
    refine cw_seq ?_
    refine cw_region ?_
    refine wl_u rfl (ow_y (yh_cmpI rfl rfl rfl rfl) rfl rfl (kk_wl ?_))
    refine wl_nil ?_
    refine ex_seq ?_
    refine cw_seq ?_
    refine cw_split rfl (fun c2 => ?_) (fun c2 => ?_)
    · skip
      replace h := bt c2 h
      have q1 := ltb_true.1 c2
      refine cw_skip ?_
      refine ex_seq ?_
      refine cw_seq ?_
      refine cw_block ?_
      refine cw_seq ?_
      refine cw_region ?_
      refine wl_u rfl (ow_y (yh_move rfl rfl) rfl rfl (kk_wl ?_))
      obtain ⟨y16, hy16, h⟩ := bd h
      obtain ⟨b16, o16, ha16⟩ := sl_addr h_r_done hy16
      subst ha16
      have hc16 := get_str h_r_done hy16
      refine wl_u rfl (ow_y (yh_idx Tb (k := s13) rfl rfl rfl rfl (get_lt hy16) rfl rfl) rfl rfl (kk_wl ?_))
      refine wl_u rfl (ow_y (yh_loadA0 Tb rfl rfl rfl hc16 rfl) rfl rfl (kk_wl ?_))
      refine wl_u rfl (ow_y (yh_assign rfl rfl) rfl rfl (kk_wl ?_))
      refine wl_u rfl (ow_y (yh_assign rfl rfl) rfl rfl (kk_wl ?_))
      refine wl_nil ?_
      refine ex_seq ?_
      refine cw_seq ?_
      refine cw_dr [0, 1, 2, 3, 4, 6, 8] [] [blkC g2 25 [.int .i64 f.ver, .slice a_f_steps f.steps.length c_f_steps], blkC g3 32 [.int .i64 r.state, .slice (some ⟨b16, o16, none⟩) r.done.length c_r_done]] (by kernel_rfl) ?_
      refine wd_take (i := 0) [0, 1] rfl rfl rfl rfl rfl (by kernel_rfl) (by kernel_rfl) (fun _ _ _ _ h => h) (yh_loadBA Tb (k := 0) rfl rfl rfl rfl rfl rfl) ?_
      refine wd_take (i := 1) [0, 1] rfl rfl rfl rfl rfl (by kernel_rfl) (by kernel_rfl) (fun _ _ _ _ h => h) (yh_field Tb rfl rfl rfl) ?_
      refine wd_take (i := 2) [0, 1] rfl rfl rfl rfl rfl (by kernel_rfl) (by kernel_rfl) (fun _ _ _ _ h => h) (yh_loadB Tb (k := 1) rfl rfl rfl rfl rfl) ?_
      refine wd_take (i := 3) [0, 1] rfl rfl rfl rfl rfl (by kernel_rfl) (by kernel_rfl) (fun _ _ _ _ h => h) (yh_move rfl rfl) ?_
      obtain ⟨l22, zl22, h⟩ := bd h
      obtain ⟨il22, jl22⟩ := slTo_K zl22
      have hf22 := sl_takeK h_r_done zl22
      have mx22 := rd_max hf22
      refine wd_take (i := 4) [0, 1] rfl rfl rfl rfl rfl (by kernel_rfl) (by kernel_rfl) (fun _ _ _ _ h => h) (yh_sliceH Tb (k := l22.length) rfl rfl rfl il22 (Nat.le_trans jl22 (rd_cap h_r_done)) rfl rfl) ?_
      refine wd_take (i := 6) [0, 1] rfl rfl rfl rfl rfl (by kernel_rfl) (by kernel_rfl) (fun _ _ _ _ h => h) (yh_move rfl rfl) ?_
      obtain ⟨x23, hx23, h⟩ := bd h
      refine wd_one 5 rfl rfl (by kernel_rfl) (ow_cN1 rfl hb70 rfl (fun w hw => c_impl_Flow_ready N _ _ _ hx23 w (Lay.at_ h_f_steps hw) (Lay.at_ hf22 hw)) rfl rfl (fun a23 c23 F23 => kk_wd [1, 2] (by kernel_rfl) ?_))
      obtain ⟨x25, hx25, h⟩ := bd h
      refine wd_one 7 rfl rfl (by kernel_rfl) (ow_cV rfl hb69 rfl (fun w hw => c_slices_Contains_string N _ _ _ hx25 w (rdo (A := strsL) 0 rfl hw)) rfl rfl (kk_wd [1, 2] (by kernel_rfl) ?_))
      refine wd_take (i := 8) [1, 2] rfl rfl rfl rfl rfl (by kernel_rfl) (by kernel_rfl) (fun _ _ _ _ h => h) (yh_not rfl rfl) ?_
      refine wd_done (by kernel_rfl) ?_
      refine ex_seq ?_
      refine cw_split rfl (fun c3 => ?_) (fun c3 => ?_)
      · skip
        replace h := bt c3 h
        refine cw_seq ?_
        refine cw_region ?_
        refine wl_u rfl (ow_y (yh_assign rfl rfl) rfl rfl (kk_wl ?_))
        refine wl_nil ?_
        refine ex_seq ?_
        refine cw_ret ?_
        refine ex_block_ret ?_
        refine ex_then_ret ?_
        refine ex_then_ret ?_
        refine ex_block_ret ?_
        refine ex_then_ret ?_
        obtain rfl := Option.some.inj h
        obtain rfl := go_ret hk8
        exact ex_r1 Tb rfl (.tmp rfl) (fun wq hq => ⟨_, rfl, hq.ext, rfl⟩)
      · skip
        replace h := bf c3 h
        refine cw_skip ?_
        refine ex_block_normal ?_
        refine ex_seq ?_
        refine cw_region ?_
        refine wl_u rfl (ow_y (yh_arI rfl rfl rfl rfl (by omega)) rfl rfl (kk_wl ?_))
        refine wl_u rfl (ow_y (yh_move rfl rfl) rfl rfl (kk_wl ?_))
        refine wl_nil ?_
        exact ex_next [1, 2] (hn8 (n8, s13 + 1) (Nat.lt_succ_self _) h) ⟨rfl, rfl, rfl, rfl, rfl, trivial⟩ (by kernel_rfl)
    · skip
      replace h := bf c2 h
      have q2 := ltb_false.1 c2
      refine cw_exit ?_
      refine ex_then_exit ?_
      refine ex_then_exit ?_
      obtain rfl := Option.some.inj h
      have h := go_brk hk8
      refine ex_block_exit ?_
      refine ex_seq ?_
      refine cw_seq ?_
      refine cw_seq ?_
      refine cw_region ?_
      refine wl_u rfl (ow_y (yh_field Tb rfl rfl rfl) rfl rfl (kk_wl ?_))
      refine wl_u rfl (ow_y (yh_loadB Tb (k := 1) rfl rfl rfl rfl rfl) rfl rfl (kk_wl ?_))
      refine wl_nil ?_
      refine ex_seq ?_
      refine cw_block ?_
      obtain ⟨j118, he118, hk118⟩ := bd h
      clear h
      refine cw_cut (σ := Unit) (fun s => True) (fun s => [(2, .pointer (some ⟨g2, 0, none⟩)), (3, .pointer (some ⟨g3, 0, none⟩)), (29, .int .i64 r.state), (30, .bool j118)]) (fun s => [blkC g2 25 [.int .i64 f.ver, .slice a_f_steps f.steps.length c_f_steps], blkC g3 32 [.int .i64 r.state, .slice a_r_done r.done.length c_r_done]]) (fun s hI => ?_) (fun KL hn118 => ?_)
      · skip
        have h := hk118
        refine cw_split rfl (fun c4 => ?_) (fun c4 => ?_)
        · skip
          replace h := bt c4 h
          refine cw_seq ?_
          refine cw_dr [0, 1, 2, 3, 4, 6, 7] [] [blkC g2 25 [.int .i64 f.ver, .slice a_f_steps f.steps.length c_f_steps], blkC g3 32 [.int .i64 r.state, .slice a_r_done r.done.length c_r_done]] (by kernel_rfl) ?_
          refine wd_take (i := 0) [0, 1] rfl rfl rfl rfl rfl (by kernel_rfl) (by kernel_rfl) (fun _ _ _ _ h => h) (yh_field Tb rfl rfl rfl) ?_
          refine wd_take (i := 1) [0, 1] rfl rfl rfl rfl rfl (by kernel_rfl) (by kernel_rfl) (fun _ _ _ _ h => h) (yh_loadB Tb (k := 1) rfl rfl rfl rfl rfl) ?_
          refine wd_take (i := 2) [0, 1] rfl rfl rfl rfl rfl (by kernel_rfl) (by kernel_rfl) (fun _ _ _ _ h => h) (yh_loadBA Tb (k := 0) rfl rfl rfl rfl rfl rfl) ?_
          refine wd_take (i := 3) [0, 1] rfl rfl rfl rfl rfl (by kernel_rfl) (by kernel_rfl) (fun _ _ _ _ h => h) (yh_field Tb rfl rfl rfl) ?_
          refine wd_take (i := 4) [0, 1] rfl rfl rfl rfl rfl (by kernel_rfl) (by kernel_rfl) (fun _ _ _ _ h => h) (yh_loadB Tb (k := 1) rfl rfl rfl rfl rfl) ?_
          obtain ⟨x38, hx38, h⟩ := bd h
          refine wd_one 5 rfl rfl (by kernel_rfl) (ow_cV rfl hb48 rfl (fun w hw => c_impl_Flow_forth N _ _ _ hx38 w (Lay.at_ h_f_steps hw) (Lay.at_ h_r_done hw)) rfl rfl (kk_wd [0, 1] (by kernel_rfl) ?_))
          refine wd_take (i := 6) [0, 1] rfl rfl rfl rfl rfl (by kernel_rfl) (by kernel_rfl) (fun _ _ _ _ h => h) (yh_cmpI rfl rfl rfl rfl) ?_
          refine wd_take (i := 7) [0, 1] rfl rfl rfl rfl rfl (by kernel_rfl) (by kernel_rfl) (fun _ _ _ _ h => h) (yh_assign rfl rfl) ?_
          refine wd_done (by kernel_rfl) ?_
          refine ex_seq ?_
          refine cw_ret ?_
          refine ex_block_ret ?_
          refine ex_then_ret ?_
          obtain rfl := Option.some.inj h
          exact ex_r1 Tb rfl (.tmp rfl) (fun wq hq => ⟨_, rfl, hq.ext, rfl⟩)
        · skip
          replace h := bf c4 h
          obtain ⟨j122, he122, hk122⟩ := bd h
          clear h
          refine cw_cut (σ := Unit) (fun s => True) (fun s => [(2, .pointer (some ⟨g2, 0, none⟩)), (3, .pointer (some ⟨g3, 0, none⟩)), (40, .bool j122)]) (fun s => [blkC g2 25 [.int .i64 f.ver, .slice a_f_steps f.steps.length c_f_steps], blkC g3 32 [.int .i64 r.state, .slice a_r_done r.done.length c_r_done]]) (fun s hI => ?_) (fun KL hn122 => ?_)
          · skip
            have h := hk122
            refine cw_split rfl (fun c5 => ?_) (fun c5 => ?_)
            · skip
              replace h := bt c5 h
              refine cw_seq ?_
              refine cw_dr [0, 1, 2, 3, 4, 5, 6, 7, 8, 9, 10, 11, 12, 14, 15, 16] [] [blkC g2 25 [.int .i64 f.ver, .slice a_f_steps f.steps.length c_f_steps], blkC g3 32 [.int .i64 r.state, .slice a_r_done r.done.length c_r_done]] (by kernel_rfl) ?_
              refine wd_take (i := 0) [0, 1] rfl rfl rfl rfl rfl (by kernel_rfl) (by kernel_rfl) (fun _ _ _ _ h => h) (yh_field Tb rfl rfl rfl) ?_
              refine wd_take (i := 1) [0, 1] rfl rfl rfl rfl rfl (by kernel_rfl) (by kernel_rfl) (fun _ _ _ _ h => h) (yh_loadB Tb (k := 1) rfl rfl rfl rfl rfl) ?_
              refine wd_take (i := 2) [0, 1] rfl rfl rfl rfl rfl (by kernel_rfl) (by kernel_rfl) (fun _ _ _ _ h => h) (yh_lenS Tb rfl rfl rfl rfl) ?_
              refine wd_take (i := 3) [0, 1] rfl rfl rfl rfl rfl (by kernel_rfl) (by kernel_rfl) (fun _ _ _ _ h => h) (yh_field Tb rfl rfl rfl) ?_
              refine wd_take (i := 4) [0, 1] rfl rfl rfl rfl rfl (by kernel_rfl) (by kernel_rfl) (fun _ _ _ _ h => h) (yh_loadB Tb (k := 0) rfl rfl rfl rfl rfl) ?_
              refine wd_take (i := 5) [0, 1] rfl rfl rfl rfl rfl (by kernel_rfl) (by kernel_rfl) (fun _ _ _ _ h => h) (yh_lenS Tb rfl rfl rfl rfl) ?_
              refine wd_take (i := 6) [0, 1] rfl rfl rfl rfl rfl (by kernel_rfl) (by kernel_rfl) (fun _ _ _ _ h => h) (yh_cmpI rfl rfl rfl rfl) ?_
              refine wd_take (i := 7) [0, 1] rfl rfl rfl rfl rfl (by kernel_rfl) (by kernel_rfl) (fun _ _ _ _ h => h) (yh_move rfl rfl) ?_
              refine wd_split 8 rfl rfl rfl (fun c6 => ?_) (fun c6 => ?_)
              · skip
                replace h := bt c6 h
                have q3 := ltb_true.1 c6
                refine wd_take (i := 8) [0, 1] rfl rfl rfl rfl rfl (by kernel_rfl) (by kernel_rfl) (fun _ _ _ _ h => h) (yh_field Tb rfl rfl rfl) ?_
                refine wd_take (i := 9) [0, 1] rfl rfl rfl rfl rfl (by kernel_rfl) (by kernel_rfl) (fun _ _ _ _ h => h) (yh_loadB Tb (k := 1) rfl rfl rfl rfl rfl) ?_
                refine wd_take (i := 10) [0, 1] rfl rfl rfl rfl rfl (by kernel_rfl) (by kernel_rfl) (fun _ _ _ _ h => h) (yh_loadBA Tb (k := 0) rfl rfl rfl rfl rfl rfl) ?_
                refine wd_take (i := 11) [0, 1] rfl rfl rfl rfl rfl (by kernel_rfl) (by kernel_rfl) (fun _ _ _ _ h => h) (yh_field Tb rfl rfl rfl) ?_
                refine wd_take (i := 12) [0, 1] rfl rfl rfl rfl rfl (by kernel_rfl) (by kernel_rfl) (fun _ _ _ _ h => h) (yh_loadB Tb (k := 1) rfl rfl rfl rfl rfl) ?_
                obtain ⟨x56, hx56, h⟩ := bd h
                refine wd_one 13 rfl rfl (by kernel_rfl) (ow_cV rfl hb49 rfl (fun w hw => c_impl_Flow_back N _ _ _ hx56 w (Lay.at_ h_f_steps hw) (Lay.at_ h_r_done hw)) rfl rfl (kk_wd [0, 1] (by kernel_rfl) ?_))
                refine wd_take (i := 14) [0, 1] rfl rfl rfl rfl rfl (by kernel_rfl) (by kernel_rfl) (fun _ _ _ _ h => h) (yh_cmpI rfl rfl rfl rfl) ?_
                refine wd_take (i := 15) [0, 1] rfl rfl rfl rfl rfl (by kernel_rfl) (by kernel_rfl) (fun _ _ _ _ h => h) (yh_pickT rfl rfl rfl) ?_
                refine wd_take (i := 16) [0, 1] rfl rfl rfl rfl rfl (by kernel_rfl) (by kernel_rfl) (fun _ _ _ _ h => h) (yh_assign rfl rfl) ?_
                refine wd_done (by kernel_rfl) ?_
                refine ex_seq ?_
                refine cw_ret ?_
                refine ex_block_ret ?_
                refine ex_then_ret ?_
                obtain rfl := Option.some.inj h
                exact ex_r1 Tb rfl (.tmp rfl) (fun wq hq => ⟨_, rfl, hq.ext, rfl⟩)
              · skip
                replace h := bf c6 h
                have q4 := ltb_false.1 c6
                refine wd_skip (i := 8) [0, 1] rfl rfl rfl rfl (by kernel_rfl) (by kernel_rfl) (fun _ _ _ h => h) ?_
                refine wd_skip (i := 9) [0, 1] rfl rfl rfl rfl (by kernel_rfl) (by kernel_rfl) (fun _ _ _ h => h) ?_
                refine wd_skip (i := 10) [0, 1] rfl rfl rfl rfl (by kernel_rfl) (by kernel_rfl) (fun _ _ _ h => h) ?_
                refine wd_skip (i := 11) [0, 1] rfl rfl rfl rfl (by kernel_rfl) (by kernel_rfl) (fun _ _ _ h => h) ?_
                refine wd_skip (i := 12) [0, 1] rfl rfl rfl rfl (by kernel_rfl) (by kernel_rfl) (fun _ _ _ h => h) ?_
                refine wd_offD 13 rfl rfl rfl rfl (by kernel_rfl) [0, 1] (fun _ => rfl) ?_
                refine wd_skip (i := 14) [0, 1] rfl rfl rfl rfl (by kernel_rfl) (by kernel_rfl) (fun _ _ _ h => h) ?_
                refine wd_take (i := 15) [0, 1] rfl rfl rfl rfl rfl (by kernel_rfl) (by kernel_rfl) (fun _ _ _ _ h => h) (yh_pickF rfl rfl rfl) ?_
                refine wd_take (i := 16) [0, 1] rfl rfl rfl rfl rfl (by kernel_rfl) (by kernel_rfl) (fun _ _ _ _ h => h) (yh_assign rfl rfl) ?_
                refine wd_done (by kernel_rfl) ?_
                refine ex_seq ?_
                refine cw_ret ?_
                refine ex_block_ret ?_
                refine ex_then_ret ?_
                obtain rfl := Option.some.inj h
                exact ex_r1 Tb rfl (.tmp rfl) (fun wq hq => ⟨_, rfl, hq.ext, rfl⟩)
            · skip
              replace h := bf c5 h
              refine cw_skip ?_
              refine ex_block_normal ?_
              refine ex_seq ?_
              refine cw_seq ?_
              refine cw_region ?_
              refine wl_u rfl (ow_y (yh_assign rfl rfl) rfl rfl (kk_wl ?_))
              refine wl_nil ?_
              refine ex_seq ?_
              refine cw_ret ?_
              obtain rfl := Option.some.inj h
              exact ex_r1 Tb rfl (.tmp rfl) (fun wq hq => ⟨_, rfl, hq.ext, rfl⟩)
          · skip
            have h := he122
            refine cw_seq ?_
            refine cw_region ?_
            refine wl_u rfl (ow_y (yh_cmpI rfl rfl rfl rfl) rfl rfl (kk_wl ?_))
            refine wl_u rfl (ow_y (yh_assign rfl rfl) rfl rfl (kk_wl ?_))
            refine wl_nil ?_
            refine ex_seq ?_
            refine cw_split rfl (fun c7 => ?_) (fun c7 => ?_)
            · skip
              replace h := bt c7 h
              have q5 := eqb_true.1 c7
              refine cw_skip ?_
              obtain rfl := Option.some.inj h
              exact ex_next [0, 1] (hn122 () trivial) ⟨rfl, rfl, rfl, trivial⟩ (by kernel_rfl)
            · skip
              replace h := bf c7 h
              have q6 := eqb_false.1 c7
              refine cw_region ?_
              refine wl_u rfl (ow_y (yh_cmpI rfl rfl rfl rfl) rfl rfl (kk_wl ?_))
              refine wl_u rfl (ow_y (yh_assign rfl rfl) rfl rfl (kk_wl ?_))
              refine wl_nil ?_
              obtain rfl := Option.some.inj h
              exact ex_next [0, 1] (hn122 () trivial) ⟨rfl, rfl, rfl, trivial⟩ (by kernel_rfl)
      · skip
        have h := he118
        refine cw_seq ?_
        refine cw_region ?_
        refine wl_u rfl (ow_y (yh_cmpI rfl rfl rfl rfl) rfl rfl (kk_wl ?_))
        refine wl_u rfl (ow_y (yh_assign rfl rfl) rfl rfl (kk_wl ?_))
        refine wl_nil ?_
        refine ex_seq ?_
        refine cw_split rfl (fun c8 => ?_) (fun c8 => ?_)
        · skip
          replace h := bt c8 h
          have q7 := eqb_true.1 c8
          refine cw_skip ?_
          obtain rfl := Option.some.inj h
          exact ex_next [0, 1] (hn118 () trivial) ⟨rfl, rfl, rfl, rfl, trivial⟩ (by kernel_rfl)
        · skip
          replace h := bf c8 h
          have q8 := eqb_false.1 c8
          refine cw_region ?_
          refine wl_u rfl (ow_y (yh_cmpI rfl rfl rfl rfl) rfl rfl (kk_wl ?_))
          refine wl_u rfl (ow_y (yh_assign rfl rfl) rfl rfl (kk_wl ?_))
          refine wl_nil ?_
          obtain rfl := Option.some.inj h
          exact ex_next [0, 1] (hn118 () trivial) ⟨rfl, rfl, rfl, rfl, trivial⟩ (by kernel_rfl)

def m_impl_MoveMay_L11 (N : Nat) (r : Run) (x15 : Flow × Bool) : Nat → Nat → Option (Ex (Nat) (Bool))
  | 0, _ => none
  | n + 1, s39 => (bif ltb ((s39 : Nat) : Int) ((r.done.length : Nat) : Int) then (r.done[s39]?).bind fun y42 => (m_impl_Flow_at N x15.1 y42).bind fun x46 => (bif ltb x46 0 then some (Ex.ret false)
 else (slTo r.done ((s39 : Nat) : Int)).bind fun l53 => (geti x15.1.steps x46).bind fun y57 => (m_impl_NamesHave N l53 y57.after).bind fun x60 => (bif !x60 then some (Ex.ret false)
 else m_impl_MoveMay_L11 N r x15 n (s39 + 1)))
 else some (Ex.brk (s39)))

def m_impl_MoveMay_L25 (N : Nat) (r : Run) (x15 : Flow × Bool) : Nat → Nat → Option (Ex (Nat) (Bool))
  | 0, _ => none
  | n + 1, s39 => (bif ltb ((s39 : Nat) : Int) ((r.done.length : Nat) : Int) then (r.done[s39]?).bind fun y42 => (m_impl_Flow_at N x15.1 y42).bind fun x46 => (bif ltb x46 0 then some (Ex.ret false)
 else (slTo r.done ((s39 : Nat) : Int)).bind fun l53 => (geti x15.1.steps x46).bind fun y57 => (m_impl_NamesHave N l53 y57.after).bind fun x60 => (bif !x60 then some (Ex.ret false)
 else m_impl_MoveMay_L25 N r x15 n (s39 + 1)))
 else some (Ex.brk (s39)))

def m_impl_MoveMay (N : Nat) (f : Flow) (c : Change) (r : Run) : Option (Bool) := (m_impl_FlowChange N f c).bind fun x15 => (bif !x15.2 then some false
 else (m_impl_RunValid N f r).bind fun x23 => (bif !x23 then some false
 else (bif !(eqb r.state 0) then (bif !(eqb r.state 2) then some false
 else (m_impl_MoveMay_L11 N r x15 N 0).bind fun e11 => e11.go (fun r => r) fun b11 => some true)
 else (m_impl_MoveMay_L25 N r x15 N 0).bind fun e25 => e25.go (fun r => r) fun b25 => some true)))

set_option maxHeartbeats 4000000 in
theorem c_impl_MoveMay (N : Nat) (f : Flow) (c : Change) (r : Run) (res : Bool) (h : m_impl_MoveMay N f c r = some res) (w : World) {a_c_step_after a_f_steps a_r_done : Option Addr} {c_c_step_after c_f_steps c_r_done : Nat} (h_f_steps : stepsL.rd w [] [.slice a_f_steps f.steps.length c_f_steps] f.steps) (h_c_step_after : strsL.rd w [] [.slice a_c_step_after c.step.after.length c_c_step_after] c.step.after) (h_r_done : strsL.rd w [] [.slice a_r_done r.done.length c_r_done] r.done) : Ret Tryz.prog 8 [.agg #[.int .i64 f.ver, .slice a_f_steps f.steps.length c_f_steps], .agg #[.int .i64 c.kind, .string c.step.name, .slice a_c_step_after c.step.after.length c_c_step_after, .bool c.step.undo], .agg #[.int .i64 r.state, .slice a_r_done r.done.length c_r_done]] w [] fun v w' => v = .bool res := by
  have mh_f_steps := rd_max h_f_steps
  have mh_c_step_after := rd_max h_c_step_after
  have mh_r_done := rd_max h_r_done
  unfold m_impl_MoveMay at h
  refine ret_enter Tryz.func8 rfl Tryz.ntmps8 rfl (Hp.refl w _) ?_
  refine cw_seq ?_
  refine cw_region ?_
  refine wl_u rfl (ow_boxA rfl rfl rfl rfl (fun g3 => kk_wl ?_))
  refine wl_u rfl (ow_boxA rfl rfl rfl rfl (fun g4 => kk_wl ?_))
  refine wl_u rfl (ow_boxA rfl rfl rfl rfl (fun g5 => kk_wl ?_))
  refine wl_u rfl (ow_y (yh_assign rfl rfl) rfl rfl (kk_wl ?_))
  refine wl_nil ?_
  refine ex_seq ?_
  refine cw_seq ?_
  refine cw_region ?_
  refine wl_u rfl (ow_y (yh_loadBA Tb (k := 2) rfl rfl rfl rfl rfl rfl) rfl rfl (kk_wl ?_))
  refine wl_u rfl (ow_y (yh_loadBA Tb (k := 1) rfl rfl rfl rfl rfl rfl) rfl rfl (kk_wl ?_))
  obtain ⟨x15, hx15, h⟩ := bd h
  refine wl_u rfl (ow_cN1 rfl hb11 rfl (fun w hw => c_impl_FlowChange N _ _ _ hx15 w (Lay.at_ h_f_steps hw) (Lay.at_ h_c_step_after hw)) rfl rfl (fun a15 c15 F15 => kk_wl ?_))
  refine wl_u rfl (ow_y (yh_move rfl rfl) rfl rfl (kk_wl ?_))
  refine wl_u rfl (ow_y (yh_extract rfl rfl rfl) rfl rfl (kk_wl ?_))
  refine wl_u rfl (ow_y (yh_extract rfl rfl rfl) rfl rfl (kk_wl ?_))
  refine wl_u rfl (ow_allocA Tb rfl rfl rfl rfl (fun g7 => kk_wl ?_))
  refine wl_u rfl (ow_storeA Tb (k := 0) rfl rfl rfl rfl rfl rfl rfl rfl rfl (kk_wl ?_))
  refine wl_u rfl (ow_y (yh_assign rfl rfl) rfl rfl (kk_wl ?_))
  refine wl_nil ?_
  refine ex_seq ?_
  refine cw_seq ?_
  refine cw_seq ?_
  refine cw_freeze 1 rfl (fun w1 M1 hb1_ hz1 => ?_)
  replace h_f_steps := Lay.rb h_f_steps hb1_
  replace h_c_step_after := Lay.rb h_c_step_after hb1_
  replace h_r_done := Lay.rb h_r_done hb1_
  have hB1 := hb1_
  have mz1 := rd_max hz1
  refine cw_region ?_
  refine wl_u rfl (ow_y (yh_move rfl rfl) rfl rfl (kk_wl ?_))
  refine wl_u rfl (ow_y (yh_not rfl rfl) rfl rfl (kk_wl ?_))
  refine wl_u rfl (ow_y (yh_move rfl rfl) rfl rfl (kk_wl ?_))
  refine wl_s rfl rfl (fun c1 => ?_) (fun c1 => ?_)
  · skip
    replace h := bt c1 h
    refine wl_n rfl rfl rfl rfl ?_
    refine wl_n rfl rfl rfl rfl ?_
    refine wl_n rfl rfl rfl rfl ?_
    refine wl_n rfl rfl rfl rfl ?_
    refine wl_u rfl (ow_y (yh_pickT rfl rfl rfl) rfl rfl (kk_wl ?_))
    refine wl_u rfl (ow_y (yh_move rfl rfl) rfl rfl (kk_wl ?_))
    refine wl_s rfl rfl (fun _ => ?_) nofun
    refine wl_n rfl rfl rfl rfl ?_
    refine wl_n rfl rfl rfl rfl ?_
    refine wl_n rfl rfl rfl rfl ?_
    refine wl_n rfl rfl rfl rfl ?_
    refine wl_n rfl rfl rfl rfl ?_
    refine wl_n rfl rfl rfl rfl ?_
    refine wl_n rfl rfl rfl rfl ?_
    refine wl_n rfl rfl rfl rfl ?_
    refine wl_u rfl (ow_y (yh_pickT rfl rfl rfl) rfl rfl (kk_wl ?_))
    refine wl_nil ?_
    refine ex_seq ?_
    refine cw_true rfl ?_
    refine cw_seq ?_
    refine cw_region ?_
    refine wl_u rfl (ow_y (yh_assign rfl rfl) rfl rfl (kk_wl ?_))
    refine wl_nil ?_
    refine ex_seq ?_
    refine cw_ret ?_
    refine ex_then_ret ?_
    obtain rfl := Option.some.inj h
    exact ex_r1 Tb rfl (.tmp rfl) (fun wq hq => ⟨_, rfl, (hB1.back hq).ext, rfl⟩)
  · skip
    replace h := bf c1 h
    refine wl_g rfl rfl (ow_y (yh_loadBA Tb (k := 3) rfl rfl rfl rfl rfl rfl) rfl rfl (kk_wl ?_))
    refine wl_g rfl rfl (ow_y (yh_loadBA Tb (k := 1) rfl rfl rfl rfl rfl rfl) rfl rfl (kk_wl ?_))
    obtain ⟨x23, hx23, h⟩ := bd h
    refine wl_g rfl rfl (ow_cV rfl hb30 rfl (fun w hw => c_impl_RunValid N _ _ _ hx23 w (Lay.at_ h_f_steps hw) (Lay.at_ h_r_done hw)) rfl rfl (kk_wl ?_))
    refine wl_g rfl rfl (ow_y (yh_not rfl rfl) rfl rfl (kk_wl ?_))
    refine wl_u rfl (ow_y (yh_pickF rfl rfl rfl) rfl rfl (kk_wl ?_))
    refine wl_u rfl (ow_y (yh_move rfl rfl) rfl rfl (kk_wl ?_))
    refine wl_s rfl rfl (fun c2 => ?_) (fun c2 => ?_)
    · skip
      replace h := bt c2 h
      refine wl_n rfl rfl rfl rfl ?_
      refine wl_n rfl rfl rfl rfl ?_
      refine wl_n rfl rfl rfl rfl ?_
      refine wl_n rfl rfl rfl rfl ?_
      refine wl_n rfl rfl rfl rfl ?_
      refine wl_n rfl rfl rfl rfl ?_
      refine wl_n rfl rfl rfl rfl ?_
      refine wl_n rfl rfl rfl rfl ?_
      refine wl_u rfl (ow_y (yh_pickT rfl rfl rfl) rfl rfl (kk_wl ?_))
      refine wl_nil ?_
      refine ex_seq ?_
      refine cw_true rfl ?_
      refine cw_seq ?_
      refine cw_region ?_
      refine wl_u rfl (ow_y (yh_assign rfl rfl) rfl rfl (kk_wl ?_))
      refine wl_nil ?_
      refine ex_seq ?_
      refine cw_ret ?_
      refine ex_then_ret ?_
      obtain rfl := Option.some.inj h
      exact ex_r1 Tb rfl (.tmp rfl) (fun wq hq => ⟨_, rfl, (hB1.back hq).ext, rfl⟩)
    · skip
      replace h := bf c2 h
      refine wl_g rfl rfl (ow_y (yh_field Tb rfl rfl rfl) rfl rfl (kk_wl ?_))
      refine wl_g rfl rfl (ow_y (yh_loadB Tb (k := 1) rfl rfl rfl rfl rfl) rfl rfl (kk_wl ?_))
      refine wl_g rfl rfl (ow_y (yh_cmpI rfl rfl rfl rfl) rfl rfl (kk_wl ?_))
      refine wl_g rfl rfl (ow_y (yh_move rfl rfl) rfl rfl (kk_wl ?_))
      refine wl_s rfl rfl (fun c3 => ?_) (fun c3 => ?_)
      · skip
        replace h := bt c3 h
        have q1 := eqb_false.1 (nt c3)
        refine wl_g rfl rfl (ow_y (yh_field Tb rfl rfl rfl) rfl rfl (kk_wl ?_))
        refine wl_g rfl rfl (ow_y (yh_loadB Tb (k := 1) rfl rfl rfl rfl rfl) rfl rfl (kk_wl ?_))
        refine wl_g rfl rfl (ow_y (yh_cmpI rfl rfl rfl rfl) rfl rfl (kk_wl ?_))
        refine wl_g rfl rfl (ow_y (yh_pickT rfl rfl rfl) rfl rfl (kk_wl ?_))
        refine wl_u rfl (ow_y (yh_pickF rfl rfl rfl) rfl rfl (kk_wl ?_))
        refine wl_nil ?_
        refine ex_seq ?_
        refine cw_split rfl (fun c4 => ?_) (fun c4 => ?_)
        · skip
          replace h := bt c4 h
          have q2 := eqb_false.1 (nt c4)
          refine cw_seq ?_
          refine cw_region ?_
          refine wl_u rfl (ow_y (yh_assign rfl rfl) rfl rfl (kk_wl ?_))
          refine wl_nil ?_
          refine ex_seq ?_
          refine cw_ret ?_
          refine ex_then_ret ?_
          obtain rfl := Option.some.inj h
          exact ex_r1 Tb rfl (.tmp rfl) (fun wq hq => ⟨_, rfl, (hB1.back hq).ext, rfl⟩)
        · skip
          replace h := bf c4 h
          have q3 := eqb_true.1 (nf c4)
          refine cw_skip ?_
          refine ex_seq ?_
          refine cw_seq ?_
          refine cw_seq ?_
          refine cw_region ?_
          refine wl_u rfl (ow_y (yh_field Tb rfl rfl rfl) rfl rfl (kk_wl ?_))
          refine wl_u rfl (ow_y (yh_loadB Tb (k := 1) rfl rfl rfl rfl rfl) rfl rfl (kk_wl ?_))
          refine wl_u rfl (ow_y (yh_lenS Tb rfl rfl rfl rfl) rfl rfl (kk_wl ?_))
          refine wl_u rfl (ow_y (yh_move rfl rfl) rfl rfl (kk_wl ?_))
          refine wl_nil ?_
          refine ex_seq ?_
          refine cw_block ?_
          obtain ⟨e11, he11, hk11⟩ := bd h
          clear h
          refine cw_loopG (σ := Nat × Nat) (fun s => m_impl_MoveMay_L11 N r x15 s.1 s.2 = some e11) (fun s => [(5, .pointer (some ⟨g5, 0, none⟩)), (7, .pointer (some ⟨g7, 0, none⟩)), (37, .slice a_r_done r.done.length c_r_done), (38, .int .i64 ((r.done.length : Nat) : Int)), (39, .int .i64 ((s.2 : Nat) : Int))]) (fun s => [blkC g5 32 [.int .i64 r.state, .slice a_r_done r.done.length c_r_done], blkC g7 25 [.int .i64 x15.1.ver, .slice a15 x15.1.steps.length c15]]) (fun s => s.1) (N, 0) [1, 0] he11 ⟨rfl, rfl, rfl, rfl, rfl, trivial⟩ rfl (fun KL s he11 hn11 => ?_)
          obtain ⟨n11, s39⟩ := s
          simp only at he11 hn11 ⊢
          rcases n11 with _ | n11
          · exact nosome he11
          have h := he11; rw [m_impl_MoveMay_L11] at h
          refine cw_seq ?_
          refine cw_region ?_
          refine wl_u rfl (ow_y (yh_cmpI rfl rfl rfl rfl) rfl rfl (kk_wl ?_))
          refine wl_nil ?_
          refine ex_seq ?_
          refine cw_seq ?_
          refine cw_split rfl (fun c5 => ?_) (fun c5 => ?_)
          · skip
            replace h := bt c5 h
            have q4 := ltb_true.1 c5
            refine cw_skip ?_
            refine ex_seq ?_
            refine cw_seq ?_
            refine cw_block ?_
            refine cw_seq ?_
            refine cw_region ?_
            refine wl_u rfl (ow_y (yh_move rfl rfl) rfl rfl (kk_wl ?_))
            obtain ⟨y42, hy42, h⟩ := bd h
            obtain ⟨b42, o42, ha42⟩ := sl_addr h_r_done hy42
            subst ha42
            have hc42 := get_str h_r_done hy42
            refine wl_u rfl (ow_y (yh_idx Tb (k := s39) rfl rfl rfl rfl (get_lt hy42) rfl rfl) rfl rfl (kk_wl ?_))
            refine wl_u rfl (ow_y (yh_loadA0 Tb rfl rfl rfl hc42 rfl) rfl rfl (kk_wl ?_))
            refine wl_u rfl (ow_y (yh_assign rfl rfl) rfl rfl (kk_wl ?_))
            refine wl_u rfl (ow_y (yh_assign rfl rfl) rfl rfl (kk_wl ?_))
            refine wl_nil ?_
            refine ex_seq ?_
            refine cw_seq ?_
            refine cw_region ?_
            refine wl_u rfl (ow_y (yh_loadBA Tb (k := 1) rfl rfl rfl rfl rfl rfl) rfl rfl (kk_wl ?_))
            refine wl_u rfl (ow_y (yh_move rfl rfl) rfl rfl (kk_wl ?_))
            obtain ⟨x46, hx46, h⟩ := bd h
            refine wl_u rfl (ow_cV rfl hb31 rfl (fun w hw => c_impl_Flow_at N _ _ _ hx46 w (Lay.at_ hz1 hw)) rfl rfl (kk_wl ?_))
            refine wl_u rfl (ow_y (yh_assign rfl rfl) rfl rfl (kk_wl ?_))
            refine wl_nil ?_
            refine ex_seq ?_
            refine cw_seq ?_
            refine cw_dr [0, 1, 2, 3, 4, 5, 6, 7, 8, 9, 10, 11, 12, 14, 15] [] [blkC g5 32 [.int .i64 r.state, .slice (some ⟨b42, o42, none⟩) r.done.length c_r_done], blkC g7 25 [.int .i64 x15.1.ver, .slice a15 x15.1.steps.length c15]] (by kernel_rfl) ?_
            refine wd_take (i := 0) [0, 1] rfl rfl rfl rfl rfl (by kernel_rfl) (by kernel_rfl) (fun _ _ _ _ h => h) (yh_move rfl rfl) ?_
            refine wd_take (i := 1) [0, 1] rfl rfl rfl rfl rfl (by kernel_rfl) (by kernel_rfl) (fun _ _ _ _ h => h) (yh_cmpI rfl rfl rfl rfl) ?_
            refine wd_take (i := 2) [0, 1] rfl rfl rfl rfl rfl (by kernel_rfl) (by kernel_rfl) (fun _ _ _ _ h => h) (yh_move rfl rfl) ?_
            refine wd_split 3 rfl rfl rfl (fun c6 => ?_) (fun c6 => ?_)
            · skip
              replace h := bt c6 h
              have q5 := ltb_true.1 c6
              refine wd_skip (i := 3) [0, 1] rfl rfl rfl rfl (by kernel_rfl) (by kernel_rfl) (fun _ _ _ h => h) ?_
              refine wd_skip (i := 4) [0, 1] rfl rfl rfl rfl (by kernel_rfl) (by kernel_rfl) (fun _ _ _ h => h) ?_
              refine wd_skip (i := 5) [0, 1] rfl rfl rfl rfl (by kernel_rfl) (by kernel_rfl) (fun _ _ _ h => h) ?_
              refine wd_skip (i := 6) [0, 1] rfl rfl rfl rfl (by kernel_rfl) (by kernel_rfl) (fun _ _ _ h => h) ?_
              refine wd_skip (i := 7) [0, 1] rfl rfl rfl rfl (by kernel_rfl) (by kernel_rfl) (fun _ _ _ h => h) ?_
              refine wd_skip (i := 8) [0, 1] rfl rfl rfl rfl (by kernel_rfl) (by kernel_rfl) (fun _ _ _ h => h) ?_
              refine wd_skip (i := 9) [0, 1] rfl rfl rfl rfl (by kernel_rfl) (by kernel_rfl) (fun _ _ _ h => h) ?_
              refine wd_skip (i := 10) [0, 1] rfl rfl rfl rfl (by kernel_rfl) (by kernel_rfl) (fun _ _ _ h => h) ?_
              refine wd_skip (i := 11) [0, 1] rfl rfl rfl rfl (by kernel_rfl) (by kernel_rfl) (fun _ _ _ h => h) ?_
              refine wd_skip (i := 12) [0, 1] rfl rfl rfl rfl (by kernel_rfl) (by kernel_rfl) (fun _ _ _ h => h) ?_
              refine wd_offD 13 rfl rfl rfl rfl (by kernel_rfl) [0, 1] (fun _ => rfl) ?_
              refine wd_skip (i := 14) [0, 1] rfl rfl rfl rfl (by kernel_rfl) (by kernel_rfl) (fun _ _ _ h => h) ?_
              refine wd_take (i := 15) [0, 1] rfl rfl rfl rfl rfl (by kernel_rfl) (by kernel_rfl) (fun _ _ _ _ h => h) (yh_pickT rfl rfl rfl) ?_
              refine wd_done (by kernel_rfl) ?_
              refine ex_seq ?_
              refine cw_true rfl ?_
              refine cw_seq ?_
              refine cw_region ?_
              refine wl_u rfl (ow_y (yh_assign rfl rfl) rfl rfl (kk_wl ?_))
              refine wl_nil ?_
              refine ex_seq ?_
              refine cw_ret ?_
              refine ex_block_ret ?_
              refine ex_then_ret ?_
              refine ex_then_ret ?_
              refine ex_block_ret ?_
              refine ex_then_ret ?_
              obtain rfl := Option.some.inj h
              obtain rfl := go_ret hk11
              exact ex_r1 Tb rfl (.tmp rfl) (fun wq hq => ⟨_, rfl, (hB1.back hq).ext, rfl⟩)
            · skip
              replace h := bf c6 h
              have q6 := ltb_false.1 c6
              refine wd_take (i := 3) [0, 1] rfl rfl rfl rfl rfl (by kernel_rfl) (by kernel_rfl) (fun _ _ _ _ h => h) (yh_field Tb rfl rfl rfl) ?_
              refine wd_take (i := 4) [0, 1] rfl rfl rfl rfl rfl (by kernel_rfl) (by kernel_rfl) (fun _ _ _ _ h => h) (yh_loadB Tb (k := 0) rfl rfl rfl rfl rfl) ?_
              refine wd_take (i := 5) [0, 1] rfl rfl rfl rfl rfl (by kernel_rfl) (by kernel_rfl) (fun _ _ _ _ h => h) (yh_move rfl rfl) ?_
              obtain ⟨l53, zl53, h⟩ := bd h
              obtain ⟨il53, jl53⟩ := slTo_K zl53
              have hf53 := sl_takeK h_r_done zl53
              have mx53 := rd_max hf53
              refine wd_take (i := 6) [0, 1] rfl rfl rfl rfl rfl (by kernel_rfl) (by kernel_rfl) (fun _ _ _ _ h => h) (yh_sliceH Tb (k := l53.length) rfl rfl rfl il53 (Nat.le_trans jl53 (rd_cap h_r_done)) rfl rfl) ?_
              refine wd_take (i := 7) [0, 1] rfl rfl rfl rfl rfl (by kernel_rfl) (by kernel_rfl) (fun _ _ _ _ h => h) (yh_field Tb rfl rfl rfl) ?_
              refine wd_take (i := 8) [0, 1] rfl rfl rfl rfl rfl (by kernel_rfl) (by kernel_rfl) (fun _ _ _ _ h => h) (yh_loadB Tb (k := 1) rfl rfl rfl rfl rfl) ?_
              refine wd_take (i := 9) [0, 1] rfl rfl rfl rfl rfl (by kernel_rfl) (by kernel_rfl) (fun _ _ _ _ h => h) (yh_move rfl rfl) ?_
              obtain ⟨y57, zy57, h⟩ := bd h
              obtain ⟨iy57, hy57⟩ := geti_some zy57
              obtain ⟨b57, o57, ha57⟩ := sl_addr hz1 hy57
              subst ha57
              obtain ⟨a57, e57, hc57, hf57⟩ := get_step hz1 hy57
              have mx57 := rd_max hf57
              refine wd_take (i := 10) [0, 1] rfl rfl rfl rfl rfl (by kernel_rfl) (by kernel_rfl) (fun _ _ _ _ h => h) (yh_idx Tb (k := x46.toNat) rfl rfl rfl iy57 (get_lt hy57) rfl rfl) ?_
              refine wd_take (i := 11) [0, 1] rfl rfl rfl rfl rfl (by kernel_rfl) (by kernel_rfl) (fun _ _ _ _ h => h) (yh_field Tb rfl rfl rfl) ?_
              refine wd_take (i := 12) [0, 1] rfl rfl rfl rfl rfl (by kernel_rfl) (by kernel_rfl) (fun _ _ _ _ h => h) (yh_loadAF Tb (j := 1) rfl rfl rfl hc57 rfl) ?_
              obtain ⟨x60, hx60, h⟩ := bd h
              refine wd_one 13 rfl rfl (by kernel_rfl) (ow_cV rfl hb32 rfl (fun w hw => c_impl_NamesHave N _ _ _ hx60 w (Lay.at_ hf53 hw) (Lay.at_ hf57 hw)) rfl rfl (kk_wd [0, 1] (by kernel_rfl) ?_))
              refine wd_take (i := 14) [0, 1] rfl rfl rfl rfl rfl (by kernel_rfl) (by kernel_rfl) (fun _ _ _ _ h => h) (yh_not rfl rfl) ?_
              refine wd_take (i := 15) [0, 1] rfl rfl rfl rfl rfl (by kernel_rfl) (by kernel_rfl) (fun _ _ _ _ h => h) (yh_pickF rfl rfl rfl) ?_
              refine wd_done (by kernel_rfl) ?_
              refine ex_seq ?_
              refine cw_split rfl (fun c7 => ?_) (fun c7 => ?_)
              · skip
                replace h := bt c7 h
                refine cw_seq ?_
                refine cw_region ?_
                refine wl_u rfl (ow_y (yh_assign rfl rfl) rfl rfl (kk_wl ?_))
                refine wl_nil ?_
                refine ex_seq ?_
                refine cw_ret ?_
                refine ex_block_ret ?_
                refine ex_then_ret ?_
                refine ex_then_ret ?_
                refine ex_block_ret ?_
                refine ex_then_ret ?_
                obtain rfl := Option.some.inj h
                obtain rfl := go_ret hk11
                exact ex_r1 Tb rfl (.tmp rfl) (fun wq hq => ⟨_, rfl, (hB1.back hq).ext, rfl⟩)
              · skip
                replace h := bf c7 h
                refine cw_skip ?_
                refine ex_block_normal ?_
                refine ex_seq ?_
                refine cw_region ?_
                refine wl_u rfl (ow_y (yh_arI rfl rfl rfl rfl (by omega)) rfl rfl (kk_wl ?_))
                refine wl_u rfl (ow_y (yh_move rfl rfl) rfl rfl (kk_wl ?_))
                refine wl_nil ?_
                exact ex_next [0, 1] (hn11 (n11, s39 + 1) (Nat.lt_succ_self _) h) ⟨rfl, rfl, rfl, rfl, rfl, trivial⟩ (by kernel_rfl)
          · skip
            replace h := bf c5 h
            have q7 := ltb_false.1 c5
            refine cw_exit ?_
            refine ex_then_exit ?_
            refine ex_then_exit ?_
            obtain rfl := Option.some.inj h
            have h := go_brk hk11
            refine ex_block_exit ?_
            refine ex_seq ?_
            refine cw_seq ?_
            refine cw_region ?_
            refine wl_u rfl (ow_y (yh_assign rfl rfl) rfl rfl (kk_wl ?_))
            refine wl_nil ?_
            refine ex_seq ?_
            refine cw_ret ?_
            obtain rfl := Option.some.inj h
            exact ex_r1 Tb rfl (.tmp rfl) (fun wq hq => ⟨_, rfl, (hB1.back hq).ext, rfl⟩)
      · skip
        replace h := bf c3 h
        have q8 := eqb_true.1 (nf c3)
        refine wl_n rfl rfl rfl rfl ?_
        refine wl_n rfl rfl rfl rfl ?_
        refine wl_n rfl rfl rfl rfl ?_
        refine wl_g rfl rfl (ow_y (yh_pickF rfl rfl rfl) rfl rfl (kk_wl ?_))
        refine wl_u rfl (ow_y (yh_pickF rfl rfl rfl) rfl rfl (kk_wl ?_))
        refine wl_nil ?_
        refine ex_seq ?_
        refine cw_false rfl ?_
        refine cw_skip ?_
        refine ex_seq ?_
        refine cw_seq ?_
        refine cw_seq ?_
        refine cw_region ?_
        refine wl_u rfl (ow_y (yh_field Tb rfl rfl rfl) rfl rfl (kk_wl ?_))
        refine wl_u rfl (ow_y (yh_loadB Tb (k := 1) rfl rfl rfl rfl rfl) rfl rfl (kk_wl ?_))
        refine wl_u rfl (ow_y (yh_lenS Tb rfl rfl rfl rfl) rfl rfl (kk_wl ?_))
        refine wl_u rfl (ow_y (yh_move rfl rfl) rfl rfl (kk_wl ?_))
        refine wl_nil ?_
        refine ex_seq ?_
        refine cw_block ?_
        obtain ⟨e25, he25, hk25⟩ := bd h
        clear h
        refine cw_loopG (σ := Nat × Nat) (fun s => m_impl_MoveMay_L25 N r x15 s.1 s.2 = some e25) (fun s => [(5, .pointer (some ⟨g5, 0, none⟩)), (7, .pointer (some ⟨g7, 0, none⟩)), (37, .slice a_r_done r.done.length c_r_done), (38, .int .i64 ((r.done.length : Nat) : Int)), (39, .int .i64 ((s.2 : Nat) : Int))]) (fun s => [blkC g5 32 [.int .i64 r.state, .slice a_r_done r.done.length c_r_done], blkC g7 25 [.int .i64 x15.1.ver, .slice a15 x15.1.steps.length c15]]) (fun s => s.1) (N, 0) [1, 0] he25 ⟨rfl, rfl, rfl, rfl, rfl, trivial⟩ rfl (fun KL s he25 hn25 => ?_)
        obtain ⟨n25, s39⟩ := s
        simp only at he25 hn25 ⊢
        rcases n25 with _ | n25
        · exact nosome he25
        have h := he25; rw [m_impl_MoveMay_L25] at h
        refine cw_seq ?_
        refine cw_region ?_
        refine wl_u rfl (ow_y (yh_cmpI rfl rfl rfl rfl) rfl rfl (kk_wl ?_))
        refine wl_nil ?_
        refine ex_seq ?_
        refine cw_seq ?_
        refine cw_split rfl (fun c8 => ?_) (fun c8 => ?_)
        · skip
          replace h := bt c8 h
          have q9 := ltb_true.1 c8
          refine cw_skip ?_
          refine ex_seq ?_
          refine cw_seq ?_
          refine cw_block ?_
          refine cw_seq ?_
          refine cw_region ?_
          refine wl_u rfl (ow_y (yh_move rfl rfl) rfl rfl (kk_wl ?_))
          obtain ⟨y42, hy42, h⟩ := bd h
          obtain ⟨b42, o42, ha42⟩ := sl_addr h_r_done hy42
          subst ha42
          have hc42 := get_str h_r_done hy42
          refine wl_u rfl (ow_y (yh_idx Tb (k := s39) rfl rfl rfl rfl (get_lt hy42) rfl rfl) rfl rfl (kk_wl ?_))
          refine wl_u rfl (ow_y (yh_loadA0 Tb rfl rfl rfl hc42 rfl) rfl rfl (kk_wl ?_))
          refine wl_u rfl (ow_y (yh_assign rfl rfl) rfl rfl (kk_wl ?_))
          refine wl_u rfl (ow_y (yh_assign rfl rfl) rfl rfl (kk_wl ?_))
          refine wl_nil ?_
          refine ex_seq ?_
          refine cw_seq ?_
          refine cw_region ?_
          refine wl_u rfl (ow_y (yh_loadBA Tb (k := 1) rfl rfl rfl rfl rfl rfl) rfl rfl (kk_wl ?_))
          refine wl_u rfl (ow_y (yh_move rfl rfl) rfl rfl (kk_wl ?_))
          obtain ⟨x46, hx46, h⟩ := bd h
          refine wl_u rfl (ow_cV rfl hb31 rfl (fun w hw => c_impl_Flow_at N _ _ _ hx46 w (Lay.at_ hz1 hw)) rfl rfl (kk_wl ?_))
          refine wl_u rfl (ow_y (yh_assign rfl rfl) rfl rfl (kk_wl ?_))
          refine wl_nil ?_
          refine ex_seq ?_
          refine cw_seq ?_
          refine cw_dr [0, 1, 2, 3, 4, 5, 6, 7, 8, 9, 10, 11, 12, 14, 15] [] [blkC g5 32 [.int .i64 r.state, .slice (some ⟨b42, o42, none⟩) r.done.length c_r_done], blkC g7 25 [.int .i64 x15.1.ver, .slice a15 x15.1.steps.length c15]] (by kernel_rfl) ?_
          refine wd_take (i := 0) [0, 1] rfl rfl rfl rfl rfl (by kernel_rfl) (by kernel_rfl) (fun _ _ _ _ h => h) (yh_move rfl rfl) ?_
          refine wd_take (i := 1) [0, 1] rfl rfl rfl rfl rfl (by kernel_rfl) (by kernel_rfl) (fun _ _ _ _ h => h) (yh_cmpI rfl rfl rfl rfl) ?_
          refine wd_take (i := 2) [0, 1] rfl rfl rfl rfl rfl (by kernel_rfl) (by kernel_rfl) (fun _ _ _ _ h => h) (yh_move rfl rfl) ?_
          refine wd_split 3 rfl rfl rfl (fun c9 => ?_) (fun c9 => ?_)
          · skip
            replace h := bt c9 h
            have q10 := ltb_true.1 c9
            refine wd_skip (i := 3) [0, 1] rfl rfl rfl rfl (by kernel_rfl) (by kernel_rfl) (fun _ _ _ h => h) ?_
            refine wd_skip (i := 4) [0, 1] rfl rfl rfl rfl (by kernel_rfl) (by kernel_rfl) (fun _ _ _ h => h) ?_
            refine wd_skip (i := 5) [0, 1] rfl rfl rfl rfl (by kernel_rfl) (by kernel_rfl) (fun _ _ _ h => h) ?_
            refine wd_skip (i := 6) [0, 1] rfl rfl rfl rfl (by kernel_rfl) (by kernel_rfl) (fun _ _ _ h => h) ?_
            refine wd_skip (i := 7) [0, 1] rfl rfl rfl rfl (by kernel_rfl) (by kernel_rfl) (fun _ _ _ h => h) ?_
            refine wd_skip (i := 8) [0, 1] rfl rfl rfl rfl (by kernel_rfl) (by kernel_rfl) (fun _ _ _ h => h) ?_
            refine wd_skip (i := 9) [0, 1] rfl rfl rfl rfl (by kernel_rfl) (by kernel_rfl) (fun _ _ _ h => h) ?_
            refine wd_skip (i := 10) [0, 1] rfl rfl rfl rfl (by kernel_rfl) (by kernel_rfl) (fun _ _ _ h => h) ?_
            refine wd_skip (i := 11) [0, 1] rfl rfl rfl rfl (by kernel_rfl) (by kernel_rfl) (fun _ _ _ h => h) ?_
            refine wd_skip (i := 12) [0, 1] rfl rfl rfl rfl (by kernel_rfl) (by kernel_rfl) (fun _ _ _ h => h) ?_
            refine wd_offD 13 rfl rfl rfl rfl (by kernel_rfl) [0, 1] (fun _ => rfl) ?_
            refine wd_skip (i := 14) [0, 1] rfl rfl rfl rfl (by kernel_rfl) (by kernel_rfl) (fun _ _ _ h => h) ?_
            refine wd_take (i := 15) [0, 1] rfl rfl rfl rfl rfl (by kernel_rfl) (by kernel_rfl) (fun _ _ _ _ h => h) (yh_pickT rfl rfl rfl) ?_
            refine wd_done (by kernel_rfl) ?_
            refine ex_seq ?_
            refine cw_true rfl ?_
            refine cw_seq ?_
            refine cw_region ?_
            refine wl_u rfl (ow_y (yh_assign rfl rfl) rfl rfl (kk_wl ?_))
            refine wl_nil ?_
            refine ex_seq ?_
            refine cw_ret ?_
            refine ex_block_ret ?_
            refine ex_then_ret ?_
            refine ex_then_ret ?_
            refine ex_block_ret ?_
            refine ex_then_ret ?_
            obtain rfl := Option.some.inj h
            obtain rfl := go_ret hk25
            exact ex_r1 Tb rfl (.tmp rfl) (fun wq hq => ⟨_, rfl, (hB1.back hq).ext, rfl⟩)
          · skip
            replace h := bf c9 h
            have q11 := ltb_false.1 c9
            refine wd_take (i := 3) [0, 1] rfl rfl rfl rfl rfl (by kernel_rfl) (by kernel_rfl) (fun _ _ _ _ h => h) (yh_field Tb rfl rfl rfl) ?_
            refine wd_take (i := 4) [0, 1] rfl rfl rfl rfl rfl (by kernel_rfl) (by kernel_rfl) (fun _ _ _ _ h => h) (yh_loadB Tb (k := 0) rfl rfl rfl rfl rfl) ?_
            refine wd_take (i := 5) [0, 1] rfl rfl rfl rfl rfl (by kernel_rfl) (by kernel_rfl) (fun _ _ _ _ h => h) (yh_move rfl rfl) ?_
            obtain ⟨l53, zl53, h⟩ := bd h
            obtain ⟨il53, jl53⟩ := slTo_K zl53
            have hf53 := sl_takeK h_r_done zl53
            have mx53 := rd_max hf53
            refine wd_take (i := 6) [0, 1] rfl rfl rfl rfl rfl (by kernel_rfl) (by kernel_rfl) (fun _ _ _ _ h => h) (yh_sliceH Tb (k := l53.length) rfl rfl rfl il53 (Nat.le_trans jl53 (rd_cap h_r_done)) rfl rfl) ?_
            refine wd_take (i := 7) [0, 1] rfl rfl rfl rfl rfl (by kernel_rfl) (by kernel_rfl) (fun _ _ _ _ h => h) (yh_field Tb rfl rfl rfl) ?_
            refine wd_take (i := 8) [0, 1] rfl rfl rfl rfl rfl (by kernel_rfl) (by kernel_rfl) (fun _ _ _ _ h => h) (yh_loadB Tb (k := 1) rfl rfl rfl rfl rfl) ?_
            refine wd_take (i := 9) [0, 1] rfl rfl rfl rfl rfl (by kernel_rfl) (by kernel_rfl) (fun _ _ _ _ h => h) (yh_move rfl rfl) ?_
            obtain ⟨y57, zy57, h⟩ := bd h
            obtain ⟨iy57, hy57⟩ := geti_some zy57
            obtain ⟨b57, o57, ha57⟩ := sl_addr hz1 hy57
            subst ha57
            obtain ⟨a57, e57, hc57, hf57⟩ := get_step hz1 hy57
            have mx57 := rd_max hf57
            refine wd_take (i := 10) [0, 1] rfl rfl rfl rfl rfl (by kernel_rfl) (by kernel_rfl) (fun _ _ _ _ h => h) (yh_idx Tb (k := x46.toNat) rfl rfl rfl iy57 (get_lt hy57) rfl rfl) ?_
            refine wd_take (i := 11) [0, 1] rfl rfl rfl rfl rfl (by kernel_rfl) (by kernel_rfl) (fun _ _ _ _ h => h) (yh_field Tb rfl rfl rfl) ?_
            refine wd_take (i := 12) [0, 1] rfl rfl rfl rfl rfl (by kernel_rfl) (by kernel_rfl) (fun _ _ _ _ h => h) (yh_loadAF Tb (j := 1) rfl rfl rfl hc57 rfl) ?_
            obtain ⟨x60, hx60, h⟩ := bd h
            refine wd_one 13 rfl rfl (by kernel_rfl) (ow_cV rfl hb32 rfl (fun w hw => c_impl_NamesHave N _ _ _ hx60 w (Lay.at_ hf53 hw) (Lay.at_ hf57 hw)) rfl rfl (kk_wd [0, 1] (by kernel_rfl) ?_))
            refine wd_take (i := 14) [0, 1] rfl rfl rfl rfl rfl (by kernel_rfl) (by kernel_rfl) (fun _ _ _ _ h => h) (yh_not rfl rfl) ?_
            refine wd_take (i := 15) [0, 1] rfl rfl rfl rfl rfl (by kernel_rfl) (by kernel_rfl) (fun _ _ _ _ h => h) (yh_pickF rfl rfl rfl) ?_
            refine wd_done (by kernel_rfl) ?_
            refine ex_seq ?_
            refine cw_split rfl (fun c10 => ?_) (fun c10 => ?_)
            · skip
              replace h := bt c10 h
              refine cw_seq ?_
              refine cw_region ?_
              refine wl_u rfl (ow_y (yh_assign rfl rfl) rfl rfl (kk_wl ?_))
              refine wl_nil ?_
              refine ex_seq ?_
              refine cw_ret ?_
              refine ex_block_ret ?_
              refine ex_then_ret ?_
              refine ex_then_ret ?_
              refine ex_block_ret ?_
              refine ex_then_ret ?_
              obtain rfl := Option.some.inj h
              obtain rfl := go_ret hk25
              exact ex_r1 Tb rfl (.tmp rfl) (fun wq hq => ⟨_, rfl, (hB1.back hq).ext, rfl⟩)
            · skip
              replace h := bf c10 h
              refine cw_skip ?_
              refine ex_block_normal ?_
              refine ex_seq ?_
              refine cw_region ?_
              refine wl_u rfl (ow_y (yh_arI rfl rfl rfl rfl (by omega)) rfl rfl (kk_wl ?_))
              refine wl_u rfl (ow_y (yh_move rfl rfl) rfl rfl (kk_wl ?_))
              refine wl_nil ?_
              exact ex_next [0, 1] (hn25 (n25, s39 + 1) (Nat.lt_succ_self _) h) ⟨rfl, rfl, rfl, rfl, rfl, trivial⟩ (by kernel_rfl)
        · skip
          replace h := bf c8 h
          have q12 := ltb_false.1 c8
          refine cw_exit ?_
          refine ex_then_exit ?_
          refine ex_then_exit ?_
          obtain rfl := Option.some.inj h
          have h := go_brk hk25
          refine ex_block_exit ?_
          refine ex_seq ?_
          refine cw_seq ?_
          refine cw_region ?_
          refine wl_u rfl (ow_y (yh_assign rfl rfl) rfl rfl (kk_wl ?_))
          refine wl_nil ?_
          refine ex_seq ?_
          refine cw_ret ?_
          obtain rfl := Option.some.inj h
          exact ex_r1 Tb rfl (.tmp rfl) (fun wq hq => ⟨_, rfl, (hB1.back hq).ext, rfl⟩)

def m_laws_eqRun (N : Nat) (a : Run) (b : Run) : Option (Bool) := (bif !(eqb a.state b.state) then some false
 else (m_laws_eqStringS N a.done b.done).bind fun x14 => (bif !x14 then some false
 else some true))

set_option maxHeartbeats 4000000 in
theorem c_laws_eqRun (N : Nat) (a : Run) (b : Run) (res : Bool) (h : m_laws_eqRun N a b = some res) (w : World) {a_a_done a_b_done : Option Addr} {c_a_done c_b_done : Nat} (h_a_done : strsL.rd w [] [.slice a_a_done a.done.length c_a_done] a.done) (h_b_done : strsL.rd w [] [.slice a_b_done b.done.length c_b_done] b.done) : Ret Tryz.prog 25 [.agg #[.int .i64 a.state, .slice a_a_done a.done.length c_a_done], .agg #[.int .i64 b.state, .slice a_b_done b.done.length c_b_done]] w [] fun v w' => v = .bool res := by
  have mh_a_done := rd_max h_a_done
  have mh_b_done := rd_max h_b_done
  unfold m_laws_eqRun at h
  refine ret_enter Tryz.func25 rfl Tryz.ntmps25 rfl (Hp.refl w _) ?_
  refine cw_seq ?_
  refine cw_region ?_
  refine wl_u rfl (ow_boxA rfl rfl rfl rfl (fun g2 => kk_wl ?_))
  refine wl_u rfl (ow_boxA rfl rfl rfl rfl (fun g3 => kk_wl ?_))
  refine wl_u rfl (ow_y (yh_assign rfl rfl) rfl rfl (kk_wl ?_))
  refine wl_nil ?_
  refine ex_seq ?_
  refine cw_seq ?_
  refine cw_seq ?_
  refine cw_region ?_
  refine wl_u rfl (ow_y (yh_field Tb rfl rfl rfl) rfl rfl (kk_wl ?_))
  refine wl_u rfl (ow_y (yh_loadB Tb (k := 1) rfl rfl rfl rfl rfl) rfl rfl (kk_wl ?_))
  refine wl_u rfl (ow_y (yh_field Tb rfl rfl rfl) rfl rfl (kk_wl ?_))
  refine wl_u rfl (ow_y (yh_loadB Tb (k := 0) rfl rfl rfl rfl rfl) rfl rfl (kk_wl ?_))
  refine wl_u rfl (ow_y (yh_cmpI rfl rfl rfl rfl) rfl rfl (kk_wl ?_))
  refine wl_nil ?_
  refine ex_seq ?_
  refine cw_split rfl (fun c1 => ?_) (fun c1 => ?_)
  · skip
    replace h := bt c1 h
    have q1 := eqb_false.1 (nt c1)
    refine cw_seq ?_
    refine cw_region ?_
    refine wl_u rfl (ow_y (yh_assign rfl rfl) rfl rfl (kk_wl ?_))
    refine wl_nil ?_
    refine ex_seq ?_
    refine cw_ret ?_
    refine ex_then_ret ?_
    obtain rfl := Option.some.inj h
    exact ex_r1 Tb rfl (.tmp rfl) (fun wq hq => ⟨_, rfl, hq.ext, rfl⟩)
  · skip
    replace h := bf c1 h
    have q2 := eqb_true.1 (nf c1)
    refine cw_skip ?_
    refine ex_seq ?_
    refine cw_seq ?_
    refine cw_seq ?_
    refine cw_region ?_
    refine wl_u rfl (ow_y (yh_field Tb rfl rfl rfl) rfl rfl (kk_wl ?_))
    refine wl_u rfl (ow_y (yh_loadB Tb (k := 1) rfl rfl rfl rfl rfl) rfl rfl (kk_wl ?_))
    refine wl_u rfl (ow_y (yh_field Tb rfl rfl rfl) rfl rfl (kk_wl ?_))
    refine wl_u rfl (ow_y (yh_loadB Tb (k := 0) rfl rfl rfl rfl rfl) rfl rfl (kk_wl ?_))
    obtain ⟨x14, hx14, h⟩ := bd h
    refine wl_u rfl (ow_cV rfl hb63 rfl (fun w hw => c_laws_eqStringS N _ _ _ hx14 w (Lay.at_ h_a_done hw) (Lay.at_ h_b_done hw)) rfl rfl (kk_wl ?_))
    refine wl_u rfl (ow_y (yh_not rfl rfl) rfl rfl (kk_wl ?_))
    refine wl_nil ?_
    refine ex_seq ?_
    refine cw_split rfl (fun c2 => ?_) (fun c2 => ?_)
    · skip
      replace h := bt c2 h
      refine cw_seq ?_
      refine cw_region ?_
      refine wl_u rfl (ow_y (yh_assign rfl rfl) rfl rfl (kk_wl ?_))
      refine wl_nil ?_
      refine ex_seq ?_
      refine cw_ret ?_
      refine ex_then_ret ?_
      obtain rfl := Option.some.inj h
      exact ex_r1 Tb rfl (.tmp rfl) (fun wq hq => ⟨_, rfl, hq.ext, rfl⟩)
    · skip
      replace h := bf c2 h
      refine cw_skip ?_
      refine ex_seq ?_
      refine cw_seq ?_
      refine cw_region ?_
      refine wl_u rfl (ow_y (yh_assign rfl rfl) rfl rfl (kk_wl ?_))
      refine wl_nil ?_
      refine ex_seq ?_
      refine cw_ret ?_
      obtain rfl := Option.some.inj h
      exact ex_r1 Tb rfl (.tmp rfl) (fun wq hq => ⟨_, rfl, hq.ext, rfl⟩)

def m_laws_FnExactMoveMay (N : Nat) (aF : Flow) (aC : Change) (aR : Run) : Option (Bool) := (m_laws_szFlow N aF 1048576).bind fun x15 => (bif ltb x15 0 then some true
 else (m_laws_szChange N aC x15).bind fun x20 => (bif ltb x20 0 then some true
 else (m_laws_szRun N aR x20).bind fun x25 => (bif ltb x25 0 then some true
 else ((m_laws_toFlow N aF).bind fun x29 => (m_laws_toChange N aC).bind fun x31 => (m_laws_toRun N aR).bind fun x33 => (m_spec_MoveMay N x29 x31 x33).bind fun x34 => some x34 : Option (Bool)).bind fun j115 => (m_laws_toFlow N aF).bind fun x36 => (m_laws_toChange N aC).bind fun x38 => (m_laws_toRun N aR).bind fun x40 => (m_impl_MoveMay N x36 x38 x40).bind fun x44 => (bif x44 != j115 then some false
 else ((m_laws_toFlow N aF).bind fun x50 => (m_laws_eqFlow N x36 x50).bind fun x51 => (bif !x51 then some (Ex.ret false)
 else some (Ex.brk ())) : Option (Ex (Unit) (Bool))).bind fun e124 => e124.go (fun r => r) fun j124 => ((m_laws_toChange N aC).bind fun x55 => (m_laws_eqChange N x38 x55).bind fun x56 => (bif !x56 then some (Ex.ret false)
 else some (Ex.brk ())) : Option (Ex (Unit) (Bool))).bind fun e128 => e128.go (fun r => r) fun j128 => (m_laws_toRun N aR).bind fun x60 => (m_laws_eqRun N x40 x60).bind fun x61 => (bif !x61 then some false
 else some true)))))

set_option maxHeartbeats 4000000 in
theorem c_laws_FnExactMoveMay (N : Nat) (aF : Flow) (aC : Change) (aR : Run) (res : Bool) (h : m_laws_FnExactMoveMay N aF aC aR = some res) (w : World) {a_aC_step_after a_aF_steps a_aR_done : Option Addr} {c_aC_step_after c_aF_steps c_aR_done : Nat} (h_aF_steps : stepsL.rd w [] [.slice a_aF_steps aF.steps.length c_aF_steps] aF.steps) (h_aC_step_after : strsL.rd w [] [.slice a_aC_step_after aC.step.after.length c_aC_step_after] aC.step.after) (h_aR_done : strsL.rd w [] [.slice a_aR_done aR.done.length c_aR_done] aR.done) : Ret Tryz.prog 5 [.agg #[.int .i64 aF.ver, .slice a_aF_steps aF.steps.length c_aF_steps], .agg #[.int .i64 aC.kind, .string aC.step.name, .slice a_aC_step_after aC.step.after.length c_aC_step_after, .bool aC.step.undo], .agg #[.int .i64 aR.state, .slice a_aR_done aR.done.length c_aR_done]] w [] fun v w' => v = .bool res := by
  have mh_aF_steps := rd_max h_aF_steps
  have mh_aC_step_after := rd_max h_aC_step_after
  have mh_aR_done := rd_max h_aR_done
  unfold m_laws_FnExactMoveMay at h
  refine ret_enter Tryz.func5 rfl Tryz.ntmps5 rfl (Hp.refl w _) ?_
  refine cw_seq ?_
  refine cw_region ?_
  refine wl_u rfl (ow_boxA rfl rfl rfl rfl (fun g3 => kk_wl ?_))
  refine wl_u rfl (ow_boxA rfl rfl rfl rfl (fun g4 => kk_wl ?_))
  refine wl_u rfl (ow_boxA rfl rfl rfl rfl (fun g5 => kk_wl ?_))
  refine wl_u rfl (ow_y (yh_assign rfl rfl) rfl rfl (kk_wl ?_))
  refine wl_nil ?_
  refine ex_seq ?_
  refine cw_seq ?_
  refine cw_region ?_
  refine wl_u rfl (ow_y (yh_assign rfl rfl) rfl rfl (kk_wl ?_))
  refine wl_nil ?_
  refine ex_seq ?_
  refine cw_seq ?_
  refine cw_region ?_
  refine wl_u rfl (ow_y (yh_loadBA Tb (k := 2) rfl rfl rfl rfl rfl rfl) rfl rfl (kk_wl ?_))
  refine wl_u rfl (ow_y (yh_move rfl rfl) rfl rfl (kk_wl ?_))
  obtain ⟨x15, hx15, h⟩ := bd h
  refine wl_u rfl (ow_cV rfl hb13 rfl (fun w hw => c_laws_szFlow N _ _ _ hx15 w (Lay.at_ h_aF_steps hw)) rfl rfl (kk_wl ?_))
  refine wl_u rfl (ow_y (yh_assign rfl rfl) rfl rfl (kk_wl ?_))
  refine wl_nil ?_
  refine ex_seq ?_
  refine cw_seq ?_
  refine cw_seq ?_
  refine cw_region ?_
  refine wl_u rfl (ow_y (yh_move rfl rfl) rfl rfl (kk_wl ?_))
  refine wl_u rfl (ow_y (yh_cmpI rfl rfl rfl rfl) rfl rfl (kk_wl ?_))
  refine wl_nil ?_
  refine ex_seq ?_
  refine cw_split rfl (fun c1 => ?_) (fun c1 => ?_)
  · skip
    replace h := bt c1 h
    have q1 := ltb_true.1 c1
    refine cw_seq ?_
    refine cw_region ?_
    refine wl_u rfl (ow_y (yh_assign rfl rfl) rfl rfl (kk_wl ?_))
    refine wl_nil ?_
    refine ex_seq ?_
    refine cw_ret ?_
    refine ex_then_ret ?_
    obtain rfl := Option.some.inj h
    exact ex_r1 Tb rfl (.tmp rfl) (fun wq hq => ⟨_, rfl, hq.ext, rfl⟩)
  · skip
    replace h := bf c1 h
    have q2 := ltb_false.1 c1
    refine cw_skip ?_
    refine ex_seq ?_
    refine cw_seq ?_
    refine cw_region ?_
    refine wl_u rfl (ow_y (yh_loadBA Tb (k := 1) rfl rfl rfl rfl rfl rfl) rfl rfl (kk_wl ?_))
    refine wl_u rfl (ow_y (yh_move rfl rfl) rfl rfl (kk_wl ?_))
    obtain ⟨x20, hx20, h⟩ := bd h
    refine wl_u rfl (ow_cV rfl hb14 rfl (fun w hw => c_laws_szChange N _ _ _ hx20 w (Lay.at_ h_aC_step_after hw)) rfl rfl (kk_wl ?_))
    refine wl_u rfl (ow_y (yh_assign rfl rfl) rfl rfl (kk_wl ?_))
    refine wl_nil ?_
    refine ex_seq ?_
    refine cw_seq ?_
    refine cw_seq ?_
    refine cw_region ?_
    refine wl_u rfl (ow_y (yh_move rfl rfl) rfl rfl (kk_wl ?_))
    refine wl_u rfl (ow_y (yh_cmpI rfl rfl rfl rfl) rfl rfl (kk_wl ?_))
    refine wl_nil ?_
    refine ex_seq ?_
    refine cw_split rfl (fun c2 => ?_) (fun c2 => ?_)
    · skip
      replace h := bt c2 h
      have q3 := ltb_true.1 c2
      refine cw_seq ?_
      refine cw_region ?_
      refine wl_u rfl (ow_y (yh_assign rfl rfl) rfl rfl (kk_wl ?_))
      refine wl_nil ?_
      refine ex_seq ?_
      refine cw_ret ?_
      refine ex_then_ret ?_
      obtain rfl := Option.some.inj h
      exact ex_r1 Tb rfl (.tmp rfl) (fun wq hq => ⟨_, rfl, hq.ext, rfl⟩)
    · skip
      replace h := bf c2 h
      have q4 := ltb_false.1 c2
      refine cw_skip ?_
      refine ex_seq ?_
      refine cw_seq ?_
      refine cw_region ?_
      refine wl_u rfl (ow_y (yh_loadBA Tb (k := 0) rfl rfl rfl rfl rfl rfl) rfl rfl (kk_wl ?_))
      refine wl_u rfl (ow_y (yh_move rfl rfl) rfl rfl (kk_wl ?_))
      obtain ⟨x25, hx25, h⟩ := bd h
      refine wl_u rfl (ow_cV rfl hb23 rfl (fun w hw => c_laws_szRun N _ _ _ hx25 w (Lay.at_ h_aR_done hw)) rfl rfl (kk_wl ?_))
      refine wl_u rfl (ow_y (yh_assign rfl rfl) rfl rfl (kk_wl ?_))
      refine wl_nil ?_
      refine ex_seq ?_
      refine cw_seq ?_
      refine cw_seq ?_
      refine cw_region ?_
      refine wl_u rfl (ow_y (yh_move rfl rfl) rfl rfl (kk_wl ?_))
      refine wl_u rfl (ow_y (yh_cmpI rfl rfl rfl rfl) rfl rfl (kk_wl ?_))
      refine wl_nil ?_
      refine ex_seq ?_
      refine cw_split rfl (fun c3 => ?_) (fun c3 => ?_)
      · skip
        replace h := bt c3 h
        have q5 := ltb_true.1 c3
        refine cw_seq ?_
        refine cw_region ?_
        refine wl_u rfl (ow_y (yh_assign rfl rfl) rfl rfl (kk_wl ?_))
        refine wl_nil ?_
        refine ex_seq ?_
        refine cw_ret ?_
        refine ex_then_ret ?_
        obtain rfl := Option.some.inj h
        exact ex_r1 Tb rfl (.tmp rfl) (fun wq hq => ⟨_, rfl, hq.ext, rfl⟩)
      · skip
        replace h := bf c3 h
        have q6 := ltb_false.1 c3
        refine cw_skip ?_
        refine ex_seq ?_
        obtain ⟨j115, he115, hk115⟩ := bd h
        clear h
        refine cw_cut (σ := Unit) (fun s => True) (fun s => [(3, .pointer (some ⟨g3, 0, none⟩)), (4, .pointer (some ⟨g4, 0, none⟩)), (5, .pointer (some ⟨g5, 0, none⟩)), (8, .bool j115)]) (fun s => [blkC g3 44 [.int .i64 aF.ver, .slice a_aF_steps aF.steps.length c_aF_steps], blkC g4 47 [.int .i64 aC.kind, .string aC.step.name, .slice a_aC_step_after aC.step.after.length c_aC_step_after, .bool aC.step.undo], blkC g5 57 [.int .i64 aR.state, .slice a_aR_done aR.done.length c_aR_done]]) (fun s hI => ?_) (fun KL hn115 => ?_)
        · skip
          have h := hk115
          refine cw_seq ?_
          refine cw_region ?_
          refine wl_u rfl (ow_y (yh_loadBA Tb (k := 0) rfl rfl rfl rfl rfl rfl) rfl rfl (kk_wl ?_))
          obtain ⟨x36, hx36, h⟩ := bd h
          refine wl_u rfl (ow_cN1 rfl hb16 rfl (fun w hw => c_laws_toFlow N _ _ hx36 w (Lay.at_ h_aF_steps hw)) rfl rfl (fun a36 c36 F36 => kk_wl ?_))
          refine wl_u rfl (ow_allocA Tb rfl rfl rfl rfl (fun g9 => kk_wl ?_))
          refine wl_u rfl (ow_storeA Tb (k := 0) rfl rfl rfl rfl rfl rfl rfl rfl rfl (kk_wl ?_))
          refine wl_nil ?_
          refine ex_seq ?_
          refine cw_seq ?_
          refine cw_region ?_
          refine wl_u rfl (ow_y (yh_loadBA Tb (k := 3) rfl rfl rfl rfl rfl rfl) rfl rfl (kk_wl ?_))
          obtain ⟨x38, hx38, h⟩ := bd h
          refine wl_u rfl (ow_cN1 rfl hb17 rfl (fun w hw => c_laws_toChange N _ _ hx38 w (Lay.at_ h_aC_step_after hw)) rfl rfl (fun a38 c38 F38 => kk_wl ?_))
          refine wl_u rfl (ow_allocA Tb rfl rfl rfl rfl (fun g10 => kk_wl ?_))
          refine wl_u rfl (ow_storeA Tb (k := 0) rfl rfl rfl rfl rfl rfl rfl rfl rfl (kk_wl ?_))
          refine wl_nil ?_
          refine ex_seq ?_
          refine cw_seq ?_
          refine cw_region ?_
          refine wl_u rfl (ow_y (yh_loadBA Tb (k := 6) rfl rfl rfl rfl rfl rfl) rfl rfl (kk_wl ?_))
          obtain ⟨x40, hx40, h⟩ := bd h
          refine wl_u rfl (ow_cN1 rfl hb24 rfl (fun w hw => c_laws_toRun N _ _ hx40 w (Lay.at_ h_aR_done hw)) rfl rfl (fun a40 c40 F40 => kk_wl ?_))
          refine wl_u rfl (ow_allocA Tb rfl rfl rfl rfl (fun g11 => kk_wl ?_))
          refine wl_u rfl (ow_storeA Tb (k := 0) rfl rfl rfl rfl rfl rfl rfl rfl rfl (kk_wl ?_))
          refine wl_nil ?_
          refine ex_seq ?_
          refine cw_seq ?_
          refine cw_region ?_
          refine wl_u rfl (ow_y (yh_loadBA Tb (k := 4) rfl rfl rfl rfl rfl rfl) rfl rfl (kk_wl ?_))
          refine wl_u rfl (ow_y (yh_loadBA Tb (k := 2) rfl rfl rfl rfl rfl rfl) rfl rfl (kk_wl ?_))
          refine wl_u rfl (ow_y (yh_loadBA Tb (k := 0) rfl rfl rfl rfl rfl rfl) rfl rfl (kk_wl ?_))
          obtain ⟨x44, hx44, h⟩ := bd h
          refine wl_u rfl (ow_cV rfl hb8 rfl (fun w hw => c_impl_MoveMay N _ _ _ _ hx44 w (rdo (A := stepsL) 5 rfl hw) (rdo (A := strsL) 3 rfl hw) (rdo (A := strsL) 1 rfl hw)) rfl rfl (kk_wl ?_))
          refine wl_u rfl (ow_y (yh_assign rfl rfl) rfl rfl (kk_wl ?_))
          refine wl_nil ?_
          refine ex_seq ?_
          refine cw_seq ?_
          refine cw_seq ?_
          refine cw_region ?_
          refine wl_u rfl (ow_y (yh_move rfl rfl) rfl rfl (kk_wl ?_))
          refine wl_u rfl (ow_y (yh_move rfl rfl) rfl rfl (kk_wl ?_))
          refine wl_u rfl (ow_y (yh_cmpB rfl rfl rfl rfl (by kernel_rfl)) rfl rfl (kk_wl ?_))
          refine wl_nil ?_
          refine ex_seq ?_
          refine cw_split rfl (fun c4 => ?_) (fun c4 => ?_)
          · skip
            replace h := bt c4 h
            refine cw_seq ?_
            refine cw_region ?_
            refine wl_u rfl (ow_y (yh_assign rfl rfl) rfl rfl (kk_wl ?_))
            refine wl_nil ?_
            refine ex_seq ?_
            refine cw_ret ?_
            refine ex_then_ret ?_
            obtain rfl := Option.some.inj h
            exact ex_r1 Tb rfl (.tmp rfl) (fun wq hq => ⟨_, rfl, hq.ext, rfl⟩)
          · skip
            replace h := bf c4 h
            refine cw_skip ?_
            refine ex_seq ?_
            obtain ⟨e124, he124, hk124⟩ := bd h
            clear h
            refine cw_cut (σ := Unit × Unit) (fun s => e124 = Ex.brk s.1) (fun s => [(4, .pointer (some ⟨g4, 0, none⟩)), (5, .pointer (some ⟨g5, 0, none⟩)), (10, .pointer (some ⟨g10, 0, none⟩)), (11, .pointer (some ⟨g11, 0, none⟩))]) (fun s => [blkC g4 47 [.int .i64 aC.kind, .string aC.step.name, .slice a_aC_step_after aC.step.after.length c_aC_step_after, .bool aC.step.undo], blkC g5 57 [.int .i64 aR.state, .slice a_aR_done aR.done.length c_aR_done], blkC g10 30 [.int .i64 x38.kind, .string x38.step.name, .slice a38 x38.step.after.length c38, .bool x38.step.undo], owC strsL F38 [.slice a38 x38.step.after.length c38] x38.step.after, blkC g11 32 [.int .i64 x40.state, .slice a40 x40.done.length c40], owC strsL F40 [.slice a40 x40.done.length c40] x40.done]) (fun s hI => ?_) (fun KL hn124 => ?_)
            · skip
              obtain ⟨j124, _⟩ := s
              simp only at hI ⊢
              subst hI
              have h := go_brk hk124
              obtain ⟨e128, he128, hk128⟩ := bd h
              clear h
              refine cw_cut (σ := Unit × Unit) (fun s => e128 = Ex.brk s.1) (fun s => [(5, .pointer (some ⟨g5, 0, none⟩)), (11, .pointer (some ⟨g11, 0, none⟩))]) (fun s => [blkC g5 57 [.int .i64 aR.state, .slice a_aR_done aR.done.length c_aR_done], blkC g11 32 [.int .i64 x40.state, .slice a40 x40.done.length c40], owC strsL F40 [.slice a40 x40.done.length c40] x40.done]) (fun s hI => ?_) (fun KL hn128 => ?_)
              · skip
                obtain ⟨j128, _⟩ := s
                simp only at hI ⊢
                subst hI
                have h := go_brk hk128
                refine cw_seq ?_
                refine cw_seq ?_
                refine cw_dr [0, 1, 4] [] [blkC g5 57 [.int .i64 aR.state, .slice a_aR_done aR.done.length c_aR_done], blkC g11 32 [.int .i64 x40.state, .slice a40 x40.done.length c40], owC strsL F40 [.slice a40 x40.done.length c40] x40.done] (by kernel_rfl) ?_
                refine wd_take (i := 0) [0, 1, 2] rfl rfl rfl rfl rfl (by kernel_rfl) (by kernel_rfl) (fun _ _ _ _ h => h) (yh_loadBA Tb (k := 1) rfl rfl rfl rfl rfl rfl) ?_
                refine wd_take (i := 1) [0, 1, 2] rfl rfl rfl rfl rfl (by kernel_rfl) (by kernel_rfl) (fun _ _ _ _ h => h) (yh_loadBA Tb (k := 0) rfl rfl rfl rfl rfl rfl) ?_
                obtain ⟨x60, hx60, h⟩ := bd h
                refine wd_one 2 rfl rfl (by kernel_rfl) (ow_cN1 rfl hb24 rfl (fun w hw => c_laws_toRun N _ _ hx60 w (Lay.at_ h_aR_done hw)) rfl rfl (fun a60 c60 F60 => kk_wd [1, 2, 3] (by kernel_rfl) ?_))
                obtain ⟨x61, hx61, h⟩ := bd h
                refine wd_one 3 rfl rfl (by kernel_rfl) (ow_cV rfl hb25 rfl (fun w hw => c_laws_eqRun N _ _ _ hx61 w (rdo (A := strsL) 3 rfl hw) (rdo (A := strsL) 0 rfl hw)) rfl rfl (kk_wd [1, 2, 3] (by kernel_rfl) ?_))
                refine wd_take (i := 4) [1, 2, 3] rfl rfl rfl rfl rfl (by kernel_rfl) (by kernel_rfl) (fun _ _ _ _ h => h) (yh_not rfl rfl) ?_
                refine wd_done (by kernel_rfl) ?_
                refine ex_seq ?_
                refine cw_split rfl (fun c5 => ?_) (fun c5 => ?_)
                · skip
                  replace h := bt c5 h
                  refine cw_seq ?_
                  refine cw_region ?_
                  refine wl_u rfl (ow_y (yh_assign rfl rfl) rfl rfl (kk_wl ?_))
                  refine wl_nil ?_
                  refine ex_seq ?_
                  refine cw_ret ?_
                  refine ex_then_ret ?_
                  obtain rfl := Option.some.inj h
                  exact ex_r1 Tb rfl (.tmp rfl) (fun wq hq => ⟨_, rfl, hq.ext, rfl⟩)
                · skip
                  replace h := bf c5 h
                  refine cw_skip ?_
                  refine ex_seq ?_
                  refine cw_seq ?_
                  refine cw_region ?_
                  refine wl_u rfl (ow_y (yh_assign rfl rfl) rfl rfl (kk_wl ?_))
                  refine wl_nil ?_
                  refine ex_seq ?_
                  refine cw_ret ?_
                  obtain rfl := Option.some.inj h
                  exact ex_r1 Tb rfl (.tmp rfl) (fun wq hq => ⟨_, rfl, hq.ext, rfl⟩)
              · skip
                have h := he128
                refine cw_seq ?_
                refine cw_dr [0, 1, 4] [] [blkC g4 47 [.int .i64 aC.kind, .string aC.step.name, .slice a_aC_step_after aC.step.after.length c_aC_step_after, .bool aC.step.undo], blkC g5 57 [.int .i64 aR.state, .slice a_aR_done aR.done.length c_aR_done], blkC g10 30 [.int .i64 x38.kind, .string x38.step.name, .slice a38 x38.step.after.length c38, .bool x38.step.undo], owC strsL F38 [.slice a38 x38.step.after.length c38] x38.step.after, blkC g11 32 [.int .i64 x40.state, .slice a40 x40.done.length c40], owC strsL F40 [.slice a40 x40.done.length c40] x40.done] (by kernel_rfl) ?_
                refine wd_take (i := 0) [0, 1, 2, 3, 4, 5] rfl rfl rfl rfl rfl (by kernel_rfl) (by kernel_rfl) (fun _ _ _ _ h => h) (yh_loadBA Tb (k := 2) rfl rfl rfl rfl rfl rfl) ?_
                refine wd_take (i := 1) [0, 1, 2, 3, 4, 5] rfl rfl rfl rfl rfl (by kernel_rfl) (by kernel_rfl) (fun _ _ _ _ h => h) (yh_loadBA Tb (k := 0) rfl rfl rfl rfl rfl rfl) ?_
                obtain ⟨x55, hx55, h⟩ := bd h
                refine wd_one 2 rfl rfl (by kernel_rfl) (ow_cN1 rfl hb17 rfl (fun w hw => c_laws_toChange N _ _ hx55 w (Lay.at_ h_aC_step_after hw)) rfl rfl (fun a55 c55 F55 => kk_wd [1, 2, 3, 4, 5, 6] (by kernel_rfl) ?_))
                obtain ⟨x56, hx56, h⟩ := bd h
                refine wd_one 3 rfl rfl (by kernel_rfl) (ow_cV rfl hb19 rfl (fun w hw => c_laws_eqChange N _ _ _ hx56 w (rdo (A := strsL) 4 rfl hw) (rdo (A := strsL) 0 rfl hw)) rfl rfl (kk_wd [1, 2, 3, 4, 5, 6] (by kernel_rfl) ?_))
                refine wd_take (i := 4) [1, 2, 3, 4, 5, 6] rfl rfl rfl rfl rfl (by kernel_rfl) (by kernel_rfl) (fun _ _ _ _ h => h) (yh_not rfl rfl) ?_
                refine wd_done (by kernel_rfl) ?_
                refine ex_seq ?_
                refine cw_split rfl (fun c6 => ?_) (fun c6 => ?_)
                · skip
                  replace h := bt c6 h
                  refine cw_seq ?_
                  refine cw_region ?_
                  refine wl_u rfl (ow_y (yh_assign rfl rfl) rfl rfl (kk_wl ?_))
                  refine wl_nil ?_
                  refine ex_seq ?_
                  refine cw_ret ?_
                  refine ex_then_ret ?_
                  obtain rfl := Option.some.inj h
                  obtain rfl := go_ret hk128
                  exact ex_r1 Tb rfl (.tmp rfl) (fun wq hq => ⟨_, rfl, hq.ext, rfl⟩)
                · skip
                  replace h := bf c6 h
                  refine cw_skip ?_
                  obtain rfl := Option.some.inj h
                  exact ex_next [2, 5, 6] (hn128 ((), ()) rfl) ⟨rfl, rfl, trivial⟩ (by kernel_rfl)
            · skip
              have h := he124
              refine cw_seq ?_
              refine cw_dr [0, 1, 4] [] [blkC g11 32 [.int .i64 x40.state, .slice a40 x40.done.length c40], owC strsL F40 [.slice a40 x40.done.length c40] x40.done, blkC g10 30 [.int .i64 x38.kind, .string x38.step.name, .slice a38 x38.step.after.length c38, .bool x38.step.undo], owC strsL F38 [.slice a38 x38.step.after.length c38] x38.step.after, blkC g9 25 [.int .i64 x36.ver, .slice a36 x36.steps.length c36], owC stepsL F36 [.slice a36 x36.steps.length c36] x36.steps, blkC g3 44 [.int .i64 aF.ver, .slice a_aF_steps aF.steps.length c_aF_steps], blkC g4 47 [.int .i64 aC.kind, .string aC.step.name, .slice a_aC_step_after aC.step.after.length c_aC_step_after, .bool aC.step.undo], blkC g5 57 [.int .i64 aR.state, .slice a_aR_done aR.done.length c_aR_done]] (by kernel_rfl) ?_
              refine wd_take (i := 0) [0, 1, 2, 3, 4, 5, 6, 7, 8] rfl rfl rfl rfl rfl (by kernel_rfl) (by kernel_rfl) (fun _ _ _ _ h => h) (yh_loadBA Tb (k := 4) rfl rfl rfl rfl rfl rfl) ?_
              refine wd_take (i := 1) [0, 1, 2, 3, 4, 5, 6, 7, 8] rfl rfl rfl rfl rfl (by kernel_rfl) (by kernel_rfl) (fun _ _ _ _ h => h) (yh_loadBA Tb (k := 6) rfl rfl rfl rfl rfl rfl) ?_
              obtain ⟨x50, hx50, h⟩ := bd h
              refine wd_one 2 rfl rfl (by kernel_rfl) (ow_cN1 rfl hb16 rfl (fun w hw => c_laws_toFlow N _ _ hx50 w (Lay.at_ h_aF_steps hw)) rfl rfl (fun a50 c50 F50 => kk_wd [1, 2, 3, 4, 5, 6, 7, 8, 9] (by kernel_rfl) ?_))
              obtain ⟨x51, hx51, h⟩ := bd h
              refine wd_one 3 rfl rfl (by kernel_rfl) (ow_cV rfl hb18 rfl (fun w hw => c_laws_eqFlow N _ _ _ hx51 w (rdo (A := stepsL) 6 rfl hw) (rdo (A := stepsL) 0 rfl hw)) rfl rfl (kk_wd [1, 2, 3, 4, 5, 6, 7, 8, 9] (by kernel_rfl) ?_))
              refine wd_take (i := 4) [1, 2, 3, 4, 5, 6, 7, 8, 9] rfl rfl rfl rfl rfl (by kernel_rfl) (by kernel_rfl) (fun _ _ _ _ h => h) (yh_not rfl rfl) ?_
              refine wd_done (by kernel_rfl) ?_
              refine ex_seq ?_
              refine cw_split rfl (fun c7 => ?_) (fun c7 => ?_)
              · skip
                replace h := bt c7 h
                refine cw_seq ?_
                refine cw_region ?_
                refine wl_u rfl (ow_y (yh_assign rfl rfl) rfl rfl (kk_wl ?_))
                refine wl_nil ?_
                refine ex_seq ?_
                refine cw_ret ?_
                refine ex_then_ret ?_
                obtain rfl := Option.some.inj h
                obtain rfl := go_ret hk124
                exact ex_r1 Tb rfl (.tmp rfl) (fun wq hq => ⟨_, rfl, hq.ext, rfl⟩)
              · skip
                replace h := bf c7 h
                refine cw_skip ?_
                obtain rfl := Option.some.inj h
                exact ex_next [8, 9, 3, 4, 1, 2] (hn124 ((), ()) rfl) ⟨rfl, rfl, rfl, rfl, trivial⟩ (by kernel_rfl)
        · skip
          have h := he115
          refine cw_dr [0, 2, 4, 7] [] [blkC g5 57 [.int .i64 aR.state, .slice a_aR_done aR.done.length c_aR_done], blkC g4 47 [.int .i64 aC.kind, .string aC.step.name, .slice a_aC_step_after aC.step.after.length c_aC_step_after, .bool aC.step.undo], blkC g3 44 [.int .i64 aF.ver, .slice a_aF_steps aF.steps.length c_aF_steps]] (by kernel_rfl) ?_
          refine wd_take (i := 0) [0, 1, 2] rfl rfl rfl rfl rfl (by kernel_rfl) (by kernel_rfl) (fun _ _ _ _ h => h) (yh_loadBA Tb (k := 2) rfl rfl rfl rfl rfl rfl) ?_
          refine wd_take (i := 2) [0, 1, 2] rfl rfl rfl rfl rfl (by kernel_rfl) (by kernel_rfl) (fun _ _ _ _ h => h) (yh_loadBA Tb (k := 1) rfl rfl rfl rfl rfl rfl) ?_
          refine wd_take (i := 4) [0, 1, 2] rfl rfl rfl rfl rfl (by kernel_rfl) (by kernel_rfl) (fun _ _ _ _ h => h) (yh_loadBA Tb (k := 0) rfl rfl rfl rfl rfl rfl) ?_
          obtain ⟨x29, hx29, h⟩ := bd h
          refine wd_one 1 rfl rfl (by kernel_rfl) (ow_cN1 rfl hb16 rfl (fun w hw => c_laws_toFlow N _ _ hx29 w (Lay.at_ h_aF_steps hw)) rfl rfl (fun a29 c29 F29 => kk_wd [1, 2, 3] (by kernel_rfl) ?_))
          obtain ⟨x31, hx31, h⟩ := bd h
          refine wd_one 3 rfl rfl (by kernel_rfl) (ow_cN1 rfl hb17 rfl (fun w hw => c_laws_toChange N _ _ hx31 w (Lay.at_ h_aC_step_after hw)) rfl rfl (fun a31 c31 F31 => kk_wd [2, 3, 4] (by kernel_rfl) ?_))
          obtain ⟨x33, hx33, h⟩ := bd h
          refine wd_one 5 rfl rfl (by kernel_rfl) (ow_cN1 rfl hb24 rfl (fun w hw => c_laws_toRun N _ _ hx33 w (Lay.at_ h_aR_done hw)) rfl rfl (fun a33 c33 F33 => kk_wd [3, 4, 5] (by kernel_rfl) ?_))
          obtain ⟨x34, hx34, h⟩ := bd h
          refine wd_one 6 rfl rfl (by kernel_rfl) (ow_cV rfl hb9 rfl (fun w hw => c_spec_MoveMay N _ _ _ _ hx34 w (rdo (A := stepsL) 2 rfl hw) (rdo (A := strsL) 1 rfl hw) (rdo (A := strsL) 0 rfl hw)) rfl rfl (kk_wd [3, 4, 5] (by kernel_rfl) ?_))
          refine wd_take (i := 7) [3, 4, 5] rfl rfl rfl rfl rfl (by kernel_rfl) (by kernel_rfl) (fun _ _ _ _ h => h) (yh_assign rfl rfl) ?_
          refine wd_done (by kernel_rfl) ?_
          obtain rfl := Option.some.inj h
          exact ex_next [5, 4, 3] (hn115 () trivial) ⟨rfl, rfl, rfl, rfl, trivial⟩ (by kernel_rfl)

end Go.Proofs.YthmifmpllgofkaaGreat
