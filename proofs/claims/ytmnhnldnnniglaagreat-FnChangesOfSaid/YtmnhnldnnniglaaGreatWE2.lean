/- Mirrors and contracts, printed by a program: what each function computes as a plain term, and that it does. -/
import Derived.Test.YtmnhnldnnniglaaGreatR
import Derived.Test.YtmnhnldnnniglaaGreatK
import Derived.Test.YtmnhnldnnniglaaGreatWE0
import Derived.Test.YtmnhnldnnniglaaGreatWE1
set_option linter.all false
set_option maxRecDepth 100000
namespace Go.Proofs.YtmnhnldnnniglaaGreat
open Go.RowKit

def m_impl_ChangesOf_L12 (N : Nat) (u0 : Flow) (u1 : Flow) : Nat → (List Change) → Nat → Option (Ex (List Change × Nat) (List Change × Bool))
  | 0, _, _ => none
  | n + 1, s6_c_0, s37 => (bif ltb ((s37 : Nat) : Int) ((u0.steps.length : Nat) : Int) then (u0.steps[s37]?).bind fun y39 => (m_impl_Flow_at N u1 y39.name).bind fun x44 => (bif leb 0 x44 then (bif ltb 0 ((y39.after.length : Nat) : Int) then (geti u1.steps x44).bind fun y59 => (m_slices_Equal_string N y39.after y59.after).bind fun x62 => (bif !x62 then (m_impl_ChangesOf_f2 N 3 (Step.mk y39.name [] false) s6_c_0).bind fun xc1 => m_impl_ChangesOf_L12 N u0 u1 n xc1 (s37 + 1)
 else m_impl_ChangesOf_L12 N u0 u1 n s6_c_0 (s37 + 1))
 else m_impl_ChangesOf_L12 N u0 u1 n s6_c_0 (s37 + 1))
 else m_impl_ChangesOf_L12 N u0 u1 n s6_c_0 (s37 + 1))
 else some (Ex.brk (s6_c_0, s37)))

def m_impl_ChangesOf_L24 (N : Nat) (u1 : Flow) (x72 : List Str) (x74 : (Unit) × (List Str)) : Nat → (List Change) → Nat → Option (Ex (List Change × Nat) (List Change × Bool))
  | 0, _, _ => none
  | n + 1, s6_c_0, s77 => (bif ltb ((s77 : Nat) : Int) ((x72.length : Nat) : Int) then (x74.2[s77]?).bind fun y79 => (m_impl_Flow_at N u1 y79).bind fun x83 => (bif ltb x83 0 then (m_impl_ChangesOf_f2 N 2 (Step.mk y79 [] false) s6_c_0).bind fun xc2 => m_impl_ChangesOf_L24 N u1 x72 x74 n xc2 (s77 + 1)
 else m_impl_ChangesOf_L24 N u1 x72 x74 n s6_c_0 (s77 + 1))
 else some (Ex.brk (s6_c_0, s77)))

def m_impl_ChangesOf_L37 (N : Nat) (u0 : Flow) (u1 : Flow) (x91 : List Str) : Nat → (List Change) → Nat → Option (Ex (List Change × Nat) (List Change × Bool))
  | 0, _, _ => none
  | n + 1, s6_c_0, s93 => (bif ltb ((s93 : Nat) : Int) ((x91.length : Nat) : Int) then (x91[s93]?).bind fun y95 => (m_impl_Flow_at N u1 y95).bind fun x101 => (geti u1.steps x101).bind fun y102 => (m_impl_Flow_at N u0 y95).bind fun x106 => (bif ltb x106 0 then (m_impl_ChangesOf_f2 N 1 y102 s6_c_0).bind fun xc3 => m_impl_ChangesOf_L37 N u0 u1 x91 n xc3 (s93 + 1)
 else ((bif ltb 0 ((y102.after.length : Nat) : Int) then (geti u0.steps x106).bind fun y122 => (m_slices_Equal_string N y102.after y122.after).bind fun x125 => (bif !x125 then (m_impl_ChangesOf_f2 N 3 (Step.mk y95 y102.after false) s6_c_0).bind fun xc4 => some xc4
 else some s6_c_0)
 else some s6_c_0) : Option ((List Change))).bind fun j148 => (geti u0.steps x106).bind fun y139 => (bif y102.undo != y139.undo then (m_impl_ChangesOf_f2 N 4 (Step.mk y95 [] y102.undo) j148).bind fun xc5 => m_impl_ChangesOf_L37 N u0 u1 x91 n xc5 (s93 + 1)
 else m_impl_ChangesOf_L37 N u0 u1 x91 n j148 (s93 + 1)))
 else some (Ex.brk (s6_c_0, s93)))

def m_impl_ChangesOf (N : Nat) (u0 : Flow) (u1 : Flow) : Option (List Change × Bool) := (m_impl_FlowValid N u0).bind fun x19 => (bif !x19 then some (([] : List Change), false)
 else (m_impl_FlowValid N u1).bind fun x23 => (bif !x23 then some (([] : List Change), false)
 else (m_impl_Flow_names N u0).bind fun x28 => (m_slices_ContainsFunc_string N x28 (fun x0 => m_impl_ChangesOf_f1 N x0 u1)).bind fun x30 => (bif !x30 then some (([] : List Change), false)
 else (m_impl_ChangesOf_L12 N u0 u1 N ([] : List Change) 0).bind fun e12 => e12.go (fun r => r) fun b12 => (m_impl_Flow_order N u0).bind fun x72 => (m_slices_Reverse_string N x72).bind fun x74 => (m_impl_ChangesOf_L24 N u1 x72 x74 N b12.1 0).bind fun e24 => e24.go (fun r => r) fun b24 => (m_impl_Flow_order N u1).bind fun x91 => (m_impl_ChangesOf_L37 N u0 u1 x91 N b24.1 0).bind fun e37 => e37.go (fun r => r) fun b37 => some (b37.1, true))))

set_option maxHeartbeats 4000000 in
theorem c_impl_ChangesOf (N : Nat) (u0 : Flow) (u1 : Flow) (res : List Change × Bool) (h : m_impl_ChangesOf N u0 u1 = some res) (w : World) {a_u0_steps a_u1_steps : Option Addr} {c_u0_steps c_u1_steps : Nat} (h_u0_steps : stepsL.rd w [] [.slice a_u0_steps u0.steps.length c_u0_steps] u0.steps) (h_u1_steps : stepsL.rd w [] [.slice a_u1_steps u1.steps.length c_u1_steps] u1.steps) : Ret Tryz.prog 8 [.agg #[.int .i64 u0.ver, .slice a_u0_steps u0.steps.length c_u0_steps], .agg #[.int .i64 u1.ver, .slice a_u1_steps u1.steps.length c_u1_steps]] w [] fun v w' => ∃ a1 c1 F1, v = .tuple #[.slice a1 res.1.length c1, .bool res.2] ∧ NewC w w' [owC changesL F1 [.slice a1 res.1.length c1] res.1] := by
  have mh_u0_steps := rd_max h_u0_steps
  have mh_u1_steps := rd_max h_u1_steps
  unfold m_impl_ChangesOf at h
  refine ret_enter Tryz.func8 rfl Tryz.ntmps8 rfl (Hp.refl w _) ?_
  refine cw_seq ?_
  refine cw_region ?_
  refine wl_u rfl (ow_boxA rfl rfl rfl rfl (fun g2 => kk_wl ?_))
  refine wl_u rfl (ow_boxA rfl rfl rfl rfl (fun g3 => kk_wl ?_))
  refine wl_u rfl (ow_y (yh_assign rfl rfl) rfl rfl (kk_wl ?_))
  refine wl_u rfl (ow_y (yh_assign rfl rfl) rfl rfl (kk_wl ?_))
  refine wl_nil ?_
  refine ex_seq ?_
  refine cw_seq ?_
  refine cw_seq ?_
  refine cw_region ?_
  refine wl_u rfl (ow_y (yh_loadBA Tb (k := 1) rfl rfl rfl rfl rfl rfl) rfl rfl (kk_wl ?_))
  obtain ⟨x19, hx19, h⟩ := bd h
  refine wl_u rfl (ow_cV rfl hb32 rfl (fun w hw => c_impl_FlowValid N _ _ hx19 w (Lay.at_ h_u0_steps hw)) rfl rfl (kk_wl ?_))
  refine wl_u rfl (ow_y (yh_not rfl rfl) rfl rfl (kk_wl ?_))
  refine wl_u rfl (ow_y (yh_move rfl rfl) rfl rfl (kk_wl ?_))
  refine wl_s rfl rfl (fun c1 => ?_) (fun c1 => ?_)
  · skip
    replace h := bt c1 h
    refine wl_n rfl rfl rfl rfl ?_
    refine wl_n rfl rfl rfl rfl ?_
    refine wl_n rfl rfl rfl rfl ?_
    refine wl_u rfl (ow_y (yh_pickT rfl rfl rfl) rfl rfl (kk_wl ?_))
    refine wl_u rfl (ow_y (yh_move rfl rfl) rfl rfl (kk_wl ?_))
    refine wl_s rfl rfl (fun _ => ?_) nofun
    refine wl_n rfl rfl rfl rfl ?_
    refine wl_n rfl rfl rfl rfl ?_
    refine wl_n rfl rfl rfl rfl ?_
    refine wl_n rfl rfl rfl rfl ?_
    refine wl_n rfl rfl rfl rfl ?_
    refine wl_u rfl (ow_y (yh_pickT rfl rfl rfl) rfl rfl (kk_wl ?_))
    refine wl_nil ?_
    refine ex_seq ?_
    refine cw_true rfl ?_
    refine cw_seq ?_
    refine cw_region ?_
    refine wl_u rfl (ow_y (yh_assign rfl rfl) rfl rfl (kk_wl ?_))
    refine wl_u rfl (ow_y (yh_assign rfl rfl) rfl rfl (kk_wl ?_))
    refine wl_nil ?_
    refine ex_seq ?_
    refine cw_ret ?_
    refine ex_then_ret ?_
    refine ex_nilS changesL rfl ?_
    obtain rfl := Option.some.inj h
    exact ex_r2 Tb rfl (.tmp rfl) (.tmp rfl) (fun wq hq => ⟨_, rfl, hq.ext, ⟨none, 0, [], rfl, NewC.sel [0] hq rfl⟩⟩)
  · skip
    replace h := bf c1 h
    refine wl_g rfl rfl (ow_y (yh_loadBA Tb (k := 0) rfl rfl rfl rfl rfl rfl) rfl rfl (kk_wl ?_))
    obtain ⟨x23, hx23, h⟩ := bd h
    refine wl_g rfl rfl (ow_cV rfl hb32 rfl (fun w hw => c_impl_FlowValid N _ _ hx23 w (Lay.at_ h_u1_steps hw)) rfl rfl (kk_wl ?_))
    refine wl_g rfl rfl (ow_y (yh_not rfl rfl) rfl rfl (kk_wl ?_))
    refine wl_u rfl (ow_y (yh_pickF rfl rfl rfl) rfl rfl (kk_wl ?_))
    refine wl_u rfl (ow_y (yh_move rfl rfl) rfl rfl (kk_wl ?_))
    refine wl_s rfl rfl (fun c2 => ?_) (fun c2 => ?_)
    · skip
      replace h := bt c2 h
      refine wl_n rfl rfl rfl rfl ?_
      refine wl_n rfl rfl rfl rfl ?_
      refine wl_n rfl rfl rfl rfl ?_
      refine wl_n rfl rfl rfl rfl ?_
      refine wl_n rfl rfl rfl rfl ?_
      refine wl_u rfl (ow_y (yh_pickT rfl rfl rfl) rfl rfl (kk_wl ?_))
      refine wl_nil ?_
      refine ex_seq ?_
      refine cw_true rfl ?_
      refine cw_seq ?_
      refine cw_region ?_
      refine wl_u rfl (ow_y (yh_assign rfl rfl) rfl rfl (kk_wl ?_))
      refine wl_u rfl (ow_y (yh_assign rfl rfl) rfl rfl (kk_wl ?_))
      refine wl_nil ?_
      refine ex_seq ?_
      refine cw_ret ?_
      refine ex_then_ret ?_
      refine ex_nilS changesL rfl ?_
      obtain rfl := Option.some.inj h
      exact ex_r2 Tb rfl (.tmp rfl) (.tmp rfl) (fun wq hq => ⟨_, rfl, hq.ext, ⟨none, 0, [], rfl, NewC.sel [0] hq rfl⟩⟩)
    · skip
      replace h := bf c2 h
      refine wl_g rfl rfl (ow_y (yh_loadBA Tb (k := 1) rfl rfl rfl rfl rfl rfl) rfl rfl (kk_wl ?_))
      obtain ⟨x28, hx28, h⟩ := bd h
      refine wl_g rfl rfl (ow_cN1 rfl hb34 rfl (fun w hw => c_impl_Flow_names N _ _ hx28 w (Lay.at_ h_u0_steps hw)) rfl rfl (fun a28 c28 F28 => kk_wl ?_))
      refine wl_g rfl rfl (ow_y (yh_mkfn rfl rfl) rfl rfl (kk_wl ?_))
      obtain ⟨x30, hx30, h⟩ := bd h
      refine wl_g rfl rfl (ow_cV rfl hb33 rfl (fun w hw => c_slices_ContainsFunc_string N _ _ _ hx30 w (rdo (A := strsL) 0 rfl hw) hb35 (fun x0 b hb w' hE => c_impl_ChangesOf_f1 N x0 u1 b hb w' (Lay.at_ h_u1_steps (hw.step hE)) (cell_blk ((hw.step hE).at (i := 1) rfl)))) rfl rfl (kk_wl ?_))
      refine wl_g rfl rfl (ow_y (yh_not rfl rfl) rfl rfl (kk_wl ?_))
      refine wl_u rfl (ow_y (yh_pickF rfl rfl rfl) rfl rfl (kk_wl ?_))
      refine wl_nil ?_
      refine ex_seq ?_
      refine cw_split rfl (fun c3 => ?_) (fun c3 => ?_)
      · skip
        replace h := bt c3 h
        refine cw_seq ?_
        refine cw_region ?_
        refine wl_u rfl (ow_y (yh_assign rfl rfl) rfl rfl (kk_wl ?_))
        refine wl_u rfl (ow_y (yh_assign rfl rfl) rfl rfl (kk_wl ?_))
        refine wl_nil ?_
        refine ex_seq ?_
        refine cw_ret ?_
        refine ex_then_ret ?_
        refine ex_nilS changesL rfl ?_
        obtain rfl := Option.some.inj h
        exact ex_r2 Tb rfl (.tmp rfl) (.tmp rfl) (fun wq hq => ⟨_, rfl, hq.ext, ⟨none, 0, [], rfl, NewC.sel [0] hq rfl⟩⟩)
      · skip
        replace h := bf c3 h
        refine cw_skip ?_
        refine ex_seq ?_
        refine cw_seq ?_
        refine cw_region ?_
        refine wl_u rfl (ow_alloc1 Tb rfl rfl rfl rfl rfl (fun g6 => kk_wl ?_))
        refine wl_nil ?_
        refine ex_seq ?_
        refine cw_seq ?_
        refine cw_region ?_
        refine wl_u rfl (ow_y (yh_mkfn rfl rfl) rfl rfl (kk_wl ?_))
        refine wl_u rfl (ow_y (yh_assign rfl rfl) rfl rfl (kk_wl ?_))
        refine wl_nil ?_
        refine ex_seq ?_
        refine cw_seq ?_
        refine cw_seq ?_
        refine cw_region ?_
        refine wl_u rfl (ow_y (yh_field Tb rfl rfl rfl) rfl rfl (kk_wl ?_))
        refine wl_u rfl (ow_y (yh_loadB Tb (k := 3) rfl rfl rfl rfl rfl) rfl rfl (kk_wl ?_))
        refine wl_u rfl (ow_y (yh_lenS Tb rfl rfl rfl rfl) rfl rfl (kk_wl ?_))
        refine wl_u rfl (ow_y (yh_move rfl rfl) rfl rfl (kk_wl ?_))
        refine wl_nil ?_
        refine ex_seq ?_
        refine cw_block ?_
        obtain ⟨e12, he12, hk12⟩ := bd h
        clear h
        refine cw_nilS changesL rfl ?_
        refine cw_loopG (σ := Nat × (List Change) × Nat × (Option Addr) × Nat × (List Nat)) (fun s => m_impl_ChangesOf_L12 N u0 u1 s.1 s.2.1 s.2.2.1 = some e12) (fun s => [(2, .pointer (some ⟨g2, 0, none⟩)), (3, .pointer (some ⟨g3, 0, none⟩)), (6, .pointer (some ⟨g6, 0, none⟩)), (7, .func (.func 37) #[] #[.pointer (some ⟨g6, 0, none⟩)]), (35, .slice a_u0_steps u0.steps.length c_u0_steps), (36, .int .i64 ((u0.steps.length : Nat) : Int)), (37, .int .i64 ((s.2.2.1 : Nat) : Int))]) (fun s => [blkC g2 25 [.int .i64 u0.ver, .slice a_u0_steps u0.steps.length c_u0_steps], blkC g3 25 [.int .i64 u1.ver, .slice a_u1_steps u1.steps.length c_u1_steps], blkC g6 28 [.slice s.2.2.2.1 s.2.1.length s.2.2.2.2.1], owC changesL s.2.2.2.2.2 [.slice s.2.2.2.1 s.2.1.length s.2.2.2.2.1] s.2.1]) (fun s => s.1) (N, ([] : List Change), 0, none, 0, []) [4, 3, 1, 0] he12 ⟨rfl, rfl, rfl, rfl, rfl, rfl, rfl, trivial⟩ rfl (fun KL s he12 hn12 => ?_)
        obtain ⟨n12, s6_c_0, s37, as6_c_0, cs6_c_0, Fs6_c_0⟩ := s
        simp only at he12 hn12 ⊢
        rcases n12 with _ | n12
        · exact nosome he12
        have h := he12; rw [m_impl_ChangesOf_L12] at h
        refine cw_seq ?_
        refine cw_region ?_
        refine wl_u rfl (ow_y (yh_cmpI rfl rfl rfl rfl) rfl rfl (kk_wl ?_))
        refine wl_nil ?_
        refine ex_seq ?_
        refine cw_seq ?_
        refine cw_split rfl (fun c4 => ?_) (fun c4 => ?_)
        · skip
          replace h := bt c4 h
          have q1 := ltb_true.1 c4
          refine cw_skip ?_
          refine ex_seq ?_
          refine cw_seq ?_
          refine cw_block ?_
          refine cw_seq ?_
          refine cw_region ?_
          obtain ⟨y39, hy39, h⟩ := bd h
          obtain ⟨b39, o39, ha39⟩ := sl_addr h_u0_steps hy39
          subst ha39
          obtain ⟨a39, e39, hc39, hf39⟩ := get_step h_u0_steps hy39
          have mx39 := rd_max hf39
          refine wl_u rfl (ow_y (yh_idx Tb (k := s37) rfl rfl rfl rfl (get_lt hy39) rfl rfl) rfl rfl (kk_wl ?_))
          refine wl_u rfl (ow_y (yh_loadAN Tb rfl rfl rfl rfl hc39 rfl) rfl rfl (kk_wl ?_))
          refine wl_u rfl (ow_allocA Tb rfl rfl rfl rfl (fun g9 => kk_wl ?_))
          refine wl_u rfl (ow_storeA Tb (k := 0) rfl rfl rfl rfl rfl rfl rfl rfl rfl (kk_wl ?_))
          refine wl_nil ?_
          refine ex_seq ?_
          refine cw_seq ?_
          refine cw_region ?_
          refine wl_u rfl (ow_y (yh_loadBA Tb (k := 2) rfl rfl rfl rfl rfl rfl) rfl rfl (kk_wl ?_))
          refine wl_u rfl (ow_y (yh_field Tb rfl rfl rfl) rfl rfl (kk_wl ?_))
          refine wl_u rfl (ow_y (yh_loadB Tb (k := 0) rfl rfl rfl rfl rfl) rfl rfl (kk_wl ?_))
          obtain ⟨x44, hx44, h⟩ := bd h
          refine wl_u rfl (ow_cV rfl hb36 rfl (fun w hw => c_impl_Flow_at N _ _ _ hx44 w (Lay.at_ h_u1_steps hw)) rfl rfl (kk_wl ?_))
          refine wl_u rfl (ow_y (yh_assign rfl rfl) rfl rfl (kk_wl ?_))
          refine wl_nil ?_
          refine ex_seq ?_
          refine cw_seq ?_
          refine cw_dr [0, 1, 2, 3, 4, 5, 6, 7, 8, 9, 10, 11, 12, 13, 14, 15, 16, 18, 19] [] [blkC g9 49 [.string y39.name, .slice a39 y39.after.length e39, .bool y39.undo], blkC g2 25 [.int .i64 u0.ver, .slice (some ⟨b39, o39, none⟩) u0.steps.length c_u0_steps], blkC g3 25 [.int .i64 u1.ver, .slice a_u1_steps u1.steps.length c_u1_steps], blkC g6 28 [.slice as6_c_0 s6_c_0.length cs6_c_0], owC changesL Fs6_c_0 [.slice as6_c_0 s6_c_0.length cs6_c_0] s6_c_0] (by kernel_rfl) ?_
          refine wd_take (i := 0) [0, 1, 2, 3, 4] rfl rfl rfl rfl rfl (by kernel_rfl) (by kernel_rfl) (fun _ _ _ _ h => h) (yh_move rfl rfl) ?_
          refine wd_take (i := 1) [0, 1, 2, 3, 4] rfl rfl rfl rfl rfl (by kernel_rfl) (by kernel_rfl) (fun _ _ _ _ h => h) (yh_cmpI rfl rfl rfl rfl) ?_
          refine wd_take (i := 2) [0, 1, 2, 3, 4] rfl rfl rfl rfl rfl (by kernel_rfl) (by kernel_rfl) (fun _ _ _ _ h => h) (yh_move rfl rfl) ?_
          refine wd_split 3 rfl rfl rfl (fun c5 => ?_) (fun c5 => ?_)
          · skip
            replace h := bt c5 h
            have q2 := leb_true.1 c5
            refine wd_take (i := 3) [0, 1, 2, 3, 4] rfl rfl rfl rfl rfl (by kernel_rfl) (by kernel_rfl) (fun _ _ _ _ h => h) (yh_field Tb rfl rfl rfl) ?_
            refine wd_take (i := 4) [0, 1, 2, 3, 4] rfl rfl rfl rfl rfl (by kernel_rfl) (by kernel_rfl) (fun _ _ _ _ h => h) (yh_loadB Tb (k := 0) rfl rfl rfl rfl rfl) ?_
            refine wd_take (i := 5) [0, 1, 2, 3, 4] rfl rfl rfl rfl rfl (by kernel_rfl) (by kernel_rfl) (fun _ _ _ _ h => h) (yh_lenS Tb rfl rfl rfl rfl) ?_
            refine wd_take (i := 6) [0, 1, 2, 3, 4] rfl rfl rfl rfl rfl (by kernel_rfl) (by kernel_rfl) (fun _ _ _ _ h => h) (yh_cmpI rfl rfl rfl rfl) ?_
            refine wd_take (i := 7) [0, 1, 2, 3, 4] rfl rfl rfl rfl rfl (by kernel_rfl) (by kernel_rfl) (fun _ _ _ _ h => h) (yh_pickT rfl rfl rfl) ?_
            refine wd_take (i := 8) [0, 1, 2, 3, 4] rfl rfl rfl rfl rfl (by kernel_rfl) (by kernel_rfl) (fun _ _ _ _ h => h) (yh_move rfl rfl) ?_
            refine wd_split 9 rfl rfl rfl (fun c6 => ?_) (fun c6 => ?_)
            · skip
              replace h := bt c6 h
              have q3 := ltb_true.1 c6
              refine wd_take (i := 9) [0, 1, 2, 3, 4] rfl rfl rfl rfl rfl (by kernel_rfl) (by kernel_rfl) (fun _ _ _ _ h => h) (yh_field Tb rfl rfl rfl) ?_
              refine wd_take (i := 10) [0, 1, 2, 3, 4] rfl rfl rfl rfl rfl (by kernel_rfl) (by kernel_rfl) (fun _ _ _ _ h => h) (yh_loadB Tb (k := 0) rfl rfl rfl rfl rfl) ?_
              refine wd_take (i := 11) [0, 1, 2, 3, 4] rfl rfl rfl rfl rfl (by kernel_rfl) (by kernel_rfl) (fun _ _ _ _ h => h) (yh_field Tb rfl rfl rfl) ?_
              refine wd_take (i := 12) [0, 1, 2, 3, 4] rfl rfl rfl rfl rfl (by kernel_rfl) (by kernel_rfl) (fun _ _ _ _ h => h) (yh_loadB Tb (k := 2) rfl rfl rfl rfl rfl) ?_
              refine wd_take (i := 13) [0, 1, 2, 3, 4] rfl rfl rfl rfl rfl (by kernel_rfl) (by kernel_rfl) (fun _ _ _ _ h => h) (yh_move rfl rfl) ?_
              obtain ⟨y59, zy59, h⟩ := bd h
              obtain ⟨iy59, hy59⟩ := geti_some zy59
              obtain ⟨b59, o59, ha59⟩ := sl_addr h_u1_steps hy59
              subst ha59
              obtain ⟨a59, e59, hc59, hf59⟩ := get_step h_u1_steps hy59
              have mx59 := rd_max hf59
              refine wd_take (i := 14) [0, 1, 2, 3, 4] rfl rfl rfl rfl rfl (by kernel_rfl) (by kernel_rfl) (fun _ _ _ _ h => h) (yh_idx Tb (k := x44.toNat) rfl rfl rfl iy59 (get_lt hy59) rfl rfl) ?_
              refine wd_take (i := 15) [0, 1, 2, 3, 4] rfl rfl rfl rfl rfl (by kernel_rfl) (by kernel_rfl) (fun _ _ _ _ h => h) (yh_field Tb rfl rfl rfl) ?_
              refine wd_take (i := 16) [0, 1, 2, 3, 4] rfl rfl rfl rfl rfl (by kernel_rfl) (by kernel_rfl) (fun _ _ _ _ h => h) (yh_loadAF Tb (j := 1) rfl rfl rfl hc59 rfl) ?_
              obtain ⟨x62, hx62, h⟩ := bd h
              refine wd_one 17 rfl rfl (by kernel_rfl) (ow_cV rfl hb39 rfl (fun w hw => c_slices_Equal_string N _ _ _ hx62 w (Lay.at_ hf39 hw) (Lay.at_ hf59 hw)) rfl rfl (kk_wd [0, 1, 2, 3, 4] (by kernel_rfl) ?_))
              refine wd_take (i := 18) [0, 1, 2, 3, 4] rfl rfl rfl rfl rfl (by kernel_rfl) (by kernel_rfl) (fun _ _ _ _ h => h) (yh_not rfl rfl) ?_
              refine wd_take (i := 19) [0, 1, 2, 3, 4] rfl rfl rfl rfl rfl (by kernel_rfl) (by kernel_rfl) (fun _ _ _ _ h => h) (yh_pickT rfl rfl rfl) ?_
              refine wd_done (by kernel_rfl) ?_
              refine ex_seq ?_
              refine cw_split rfl (fun c7 => ?_) (fun c7 => ?_)
              · skip
                replace h := bt c7 h
                refine cw_region ?_
                refine wl_u rfl (ow_y (yh_move rfl rfl) rfl rfl (kk_wl ?_))
                refine wl_u rfl (ow_y (yh_field Tb rfl rfl rfl) rfl rfl (kk_wl ?_))
                refine wl_u rfl (ow_y (yh_loadB Tb (k := 0) rfl rfl rfl rfl rfl) rfl rfl (kk_wl ?_))
                refine wl_u rfl (ow_y (yh_build [.string y39.name, .slice none 0 0, .bool false] rfl rfl (by kernel_rfl)) rfl rfl (kk_wl ?_))
                obtain ⟨xc1, hxc1, h⟩ := bd h
                refine wl_u rfl (ow_cPd 3 3 rfl rfl hb37 rfl rfl rfl rfl (fun w hw => c_impl_ChangesOf_f2 N _ _ _ _ hxc1 w (hw.at (i := 3) rfl) (hw.at (i := 4) rfl) (hw.ndPair (i := 3) (j := 3) rfl rfl) (rd_nil strsL rfl _ _)) rfl rfl (fun axc1 cxc1 Fxc1 => kk_wl ?_))
                refine wl_nil ?_
                refine ex_block_normal ?_
                refine ex_seq ?_
                refine cw_region ?_
                refine wl_u rfl (ow_y (yh_arI rfl rfl rfl rfl (by omega)) rfl rfl (kk_wl ?_))
                refine wl_u rfl (ow_y (yh_move rfl rfl) rfl rfl (kk_wl ?_))
                refine wl_nil ?_
                exact ex_next [3, 4, 0, 1] (hn12 (n12, xc1, s37 + 1, axc1, cxc1, Fxc1) (Nat.lt_succ_self _) h) ⟨rfl, rfl, rfl, rfl, rfl, rfl, rfl, trivial⟩ (by kernel_rfl)
              · skip
                replace h := bf c7 h
                refine cw_skip ?_
                refine ex_block_normal ?_
                refine ex_seq ?_
                refine cw_region ?_
                refine wl_u rfl (ow_y (yh_arI rfl rfl rfl rfl (by omega)) rfl rfl (kk_wl ?_))
                refine wl_u rfl (ow_y (yh_move rfl rfl) rfl rfl (kk_wl ?_))
                refine wl_nil ?_
                exact ex_next [1, 2, 3, 4] (hn12 (n12, s6_c_0, s37 + 1, as6_c_0, cs6_c_0, Fs6_c_0) (Nat.lt_succ_self _) h) ⟨rfl, rfl, rfl, rfl, rfl, rfl, rfl, trivial⟩ (by kernel_rfl)
            · skip
              replace h := bf c6 h
              have q4 := ltb_false.1 c6
              refine wd_skip (i := 9) [0, 1, 2, 3, 4] rfl rfl rfl rfl (by kernel_rfl) (by kernel_rfl) (fun _ _ _ h => h) ?_
              refine wd_skip (i := 10) [0, 1, 2, 3, 4] rfl rfl rfl rfl (by kernel_rfl) (by kernel_rfl) (fun _ _ _ h => h) ?_
              refine wd_skip (i := 11) [0, 1, 2, 3, 4] rfl rfl rfl rfl (by kernel_rfl) (by kernel_rfl) (fun _ _ _ h => h) ?_
              refine wd_skip (i := 12) [0, 1, 2, 3, 4] rfl rfl rfl rfl (by kernel_rfl) (by kernel_rfl) (fun _ _ _ h => h) ?_
              refine wd_skip (i := 13) [0, 1, 2, 3, 4] rfl rfl rfl rfl (by kernel_rfl) (by kernel_rfl) (fun _ _ _ h => h) ?_
              refine wd_skip (i := 14) [0, 1, 2, 3, 4] rfl rfl rfl rfl (by kernel_rfl) (by kernel_rfl) (fun _ _ _ h => h) ?_
              refine wd_skip (i := 15) [0, 1, 2, 3, 4] rfl rfl rfl rfl (by kernel_rfl) (by kernel_rfl) (fun _ _ _ h => h) ?_
              refine wd_skip (i := 16) [0, 1, 2, 3, 4] rfl rfl rfl rfl (by kernel_rfl) (by kernel_rfl) (fun _ _ _ h => h) ?_
              refine wd_offD 17 rfl rfl rfl rfl (by kernel_rfl) [0, 1, 2, 3, 4] (fun _ => rfl) ?_
              refine wd_skip (i := 18) [0, 1, 2, 3, 4] rfl rfl rfl rfl (by kernel_rfl) (by kernel_rfl) (fun _ _ _ h => h) ?_
              refine wd_take (i := 19) [0, 1, 2, 3, 4] rfl rfl rfl rfl rfl (by kernel_rfl) (by kernel_rfl) (fun _ _ _ _ h => h) (yh_pickF rfl rfl rfl) ?_
              refine wd_done (by kernel_rfl) ?_
              refine ex_seq ?_
              refine cw_false rfl ?_
              refine cw_skip ?_
              refine ex_block_normal ?_
              refine ex_seq ?_
              refine cw_region ?_
              refine wl_u rfl (ow_y (yh_arI rfl rfl rfl rfl (by omega)) rfl rfl (kk_wl ?_))
              refine wl_u rfl (ow_y (yh_move rfl rfl) rfl rfl (kk_wl ?_))
              refine wl_nil ?_
              exact ex_next [1, 2, 3, 4] (hn12 (n12, s6_c_0, s37 + 1, as6_c_0, cs6_c_0, Fs6_c_0) (Nat.lt_succ_self _) h) ⟨rfl, rfl, rfl, rfl, rfl, rfl, rfl, trivial⟩ (by kernel_rfl)
          · skip
            replace h := bf c5 h
            have q5 := leb_false.1 c5
            refine wd_skip (i := 3) [0, 1, 2, 3, 4] rfl rfl rfl rfl (by kernel_rfl) (by kernel_rfl) (fun _ _ _ h => h) ?_
            refine wd_skip (i := 4) [0, 1, 2, 3, 4] rfl rfl rfl rfl (by kernel_rfl) (by kernel_rfl) (fun _ _ _ h => h) ?_
            refine wd_skip (i := 5) [0, 1, 2, 3, 4] rfl rfl rfl rfl (by kernel_rfl) (by kernel_rfl) (fun _ _ _ h => h) ?_
            refine wd_skip (i := 6) [0, 1, 2, 3, 4] rfl rfl rfl rfl (by kernel_rfl) (by kernel_rfl) (fun _ _ _ h => h) ?_
            refine wd_take (i := 7) [0, 1, 2, 3, 4] rfl rfl rfl rfl rfl (by kernel_rfl) (by kernel_rfl) (fun _ _ _ _ h => h) (yh_pickF rfl rfl rfl) ?_
            refine wd_take (i := 8) [0, 1, 2, 3, 4] rfl rfl rfl rfl rfl (by kernel_rfl) (by kernel_rfl) (fun _ _ _ _ h => h) (yh_move rfl rfl) ?_
            refine wd_split 9 rfl rfl rfl nofun (fun _ => ?_)
            refine wd_skip (i := 9) [0, 1, 2, 3, 4] rfl rfl rfl rfl (by kernel_rfl) (by kernel_rfl) (fun _ _ _ h => h) ?_
            refine wd_skip (i := 10) [0, 1, 2, 3, 4] rfl rfl rfl rfl (by kernel_rfl) (by kernel_rfl) (fun _ _ _ h => h) ?_
            refine wd_skip (i := 11) [0, 1, 2, 3, 4] rfl rfl rfl rfl (by kernel_rfl) (by kernel_rfl) (fun _ _ _ h => h) ?_
            refine wd_skip (i := 12) [0, 1, 2, 3, 4] rfl rfl rfl rfl (by kernel_rfl) (by kernel_rfl) (fun _ _ _ h => h) ?_
            refine wd_skip (i := 13) [0, 1, 2, 3, 4] rfl rfl rfl rfl (by kernel_rfl) (by kernel_rfl) (fun _ _ _ h => h) ?_
            refine wd_skip (i := 14) [0, 1, 2, 3, 4] rfl rfl rfl rfl (by kernel_rfl) (by kernel_rfl) (fun _ _ _ h => h) ?_
            refine wd_skip (i := 15) [0, 1, 2, 3, 4] rfl rfl rfl rfl (by kernel_rfl) (by kernel_rfl) (fun _ _ _ h => h) ?_
            refine wd_skip (i := 16) [0, 1, 2, 3, 4] rfl rfl rfl rfl (by kernel_rfl) (by kernel_rfl) (fun _ _ _ h => h) ?_
            refine wd_offD 17 rfl rfl rfl rfl (by kernel_rfl) [0, 1, 2, 3, 4] (fun _ => rfl) ?_
            refine wd_skip (i := 18) [0, 1, 2, 3, 4] rfl rfl rfl rfl (by kernel_rfl) (by kernel_rfl) (fun _ _ _ h => h) ?_
            refine wd_take (i := 19) [0, 1, 2, 3, 4] rfl rfl rfl rfl rfl (by kernel_rfl) (by kernel_rfl) (fun _ _ _ _ h => h) (yh_pickF rfl rfl rfl) ?_
            refine wd_done (by kernel_rfl) ?_
            refine ex_seq ?_
            refine cw_false rfl ?_
            refine cw_skip ?_
            refine ex_block_normal ?_
            refine ex_seq ?_
            refine cw_region ?_
            refine wl_u rfl (ow_y (yh_arI rfl rfl rfl rfl (by omega)) rfl rfl (kk_wl ?_))
            refine wl_u rfl (ow_y (yh_move rfl rfl) rfl rfl (kk_wl ?_))
            refine wl_nil ?_
            exact ex_next [1, 2, 3, 4] (hn12 (n12, s6_c_0, s37 + 1, as6_c_0, cs6_c_0, Fs6_c_0) (Nat.lt_succ_self _) h) ⟨rfl, rfl, rfl, rfl, rfl, rfl, rfl, trivial⟩ (by kernel_rfl)
        · skip
          replace h := bf c4 h
          have q6 := ltb_false.1 c4
          refine cw_exit ?_
          refine ex_then_exit ?_
          refine ex_then_exit ?_
          obtain rfl := Option.some.inj h
          have h := go_brk hk12
          refine ex_block_exit ?_
          refine ex_seq ?_
          refine cw_seq ?_
          refine cw_region ?_
          refine wl_u rfl (ow_y (yh_loadBA Tb (k := 0) rfl rfl rfl rfl rfl rfl) rfl rfl (kk_wl ?_))
          obtain ⟨x72, hx72, h⟩ := bd h
          refine wl_u rfl (ow_cN1 rfl hb40 rfl (fun w hw => c_impl_Flow_order N _ _ hx72 w (Lay.at_ h_u0_steps hw)) rfl rfl (fun a72 c72 F72 => kk_wl ?_))
          refine wl_u rfl (ow_y (yh_assign rfl rfl) rfl rfl (kk_wl ?_))
          refine wl_nil ?_
          refine ex_seq ?_
          refine cw_seq ?_
          refine cw_region ?_
          refine wl_u rfl (ow_y (yh_move rfl rfl) rfl rfl (kk_wl ?_))
          obtain ⟨x74, hx74, h⟩ := bd h
          refine wl_u rfl (ow_cF1 0 rfl hb41 rfl rfl (fun w hw => c_slices_Reverse_string N _ _ hx74 w (hw.at (i := 0) rfl) (hw.ndAt (i := 0) rfl)) rfl rfl (fun F74 => kk_wl ?_))
          refine wl_nil ?_
          refine ex_seq ?_
          refine cw_seq ?_
          refine cw_seq ?_
          refine cw_region ?_
          refine wl_u rfl (ow_y (yh_move rfl rfl) rfl rfl (kk_wl ?_))
          refine wl_know (x72.length ≤ 9223372036854775807) (fun w hw => own_max 0 rfl hw) (fun mo76 => ?_)
          refine wl_u rfl (ow_y (yh_lenS Tb rfl rfl rfl rfl) rfl rfl (kk_wl ?_))
          refine wl_u rfl (ow_y (yh_move rfl rfl) rfl rfl (kk_wl ?_))
          refine wl_nil ?_
          refine ex_seq ?_
          refine cw_block ?_
          obtain ⟨e24, he24, hk24⟩ := bd h
          clear h
          refine cw_loopG (σ := Nat × (List Change) × Nat × (Option Addr) × Nat × (List Nat)) (fun s => m_impl_ChangesOf_L24 N u1 x72 x74 s.1 s.2.1 s.2.2.1 = some e24) (fun s => [(2, .pointer (some ⟨g2, 0, none⟩)), (3, .pointer (some ⟨g3, 0, none⟩)), (6, .pointer (some ⟨g6, 0, none⟩)), (7, .func (.func 37) #[] #[.pointer (some ⟨g6, 0, none⟩)]), (75, .slice a72 x72.length c72), (76, .int .i64 ((x72.length : Nat) : Int)), (77, .int .i64 ((s.2.2.1 : Nat) : Int))]) (fun s => [blkC g2 25 [.int .i64 u0.ver, .slice a_u0_steps u0.steps.length c_u0_steps], blkC g3 25 [.int .i64 u1.ver, .slice a_u1_steps u1.steps.length c_u1_steps], blkC g6 28 [.slice s.2.2.2.1 s.2.1.length s.2.2.2.2.1], owC changesL s.2.2.2.2.2 [.slice s.2.2.2.1 s.2.1.length s.2.2.2.2.1] s.2.1, owC strsL F74 [.slice a72 x72.length c72] x74.2]) (fun s => s.1) (N, s6_c_0, 0, as6_c_0, cs6_c_0, Fs6_c_0) [1, 2, 3, 4, 0] he24 ⟨rfl, rfl, rfl, rfl, rfl, rfl, rfl, trivial⟩ rfl (fun KL s he24 hn24 => ?_)
          obtain ⟨n24, s6_c_0, s77, as6_c_0, cs6_c_0, Fs6_c_0⟩ := s
          simp only at he24 hn24 ⊢
          rcases n24 with _ | n24
          · exact nosome he24
          have h := he24; rw [m_impl_ChangesOf_L24] at h
          refine cw_seq ?_
          refine cw_region ?_
          refine wl_u rfl (ow_y (yh_cmpI rfl rfl rfl rfl) rfl rfl (kk_wl ?_))
          refine wl_nil ?_
          refine ex_seq ?_
          refine cw_seq ?_
          refine cw_split rfl (fun c8 => ?_) (fun c8 => ?_)
          · skip
            replace h := bt c8 h
            have q7 := ltb_true.1 c8
            refine cw_skip ?_
            refine ex_seq ?_
            refine cw_seq ?_
            refine cw_block ?_
            refine cw_seq ?_
            refine cw_region ?_
            obtain ⟨y79, hy79, h⟩ := bd h
            refine wl_ex (fun g => a72 = some ⟨g, 0, none⟩) (fun w hw => by exact own_addrK 4 rfl hy79 hw) (fun g79 hg79 => ?_)
            subst hg79
            refine wl_know (x72.length = x74.2.length) (fun w hw => own_lenK 4 rfl hw) (fun hn79 => ?_)
            refine wl_u rfl (ow_y (yh_idx Tb (k := s77) rfl rfl rfl rfl (Nat.lt_of_lt_of_eq (get_lt hy79) hn79.symm) rfl rfl) rfl rfl (kk_wl ?_))
            refine wl_u rfl (ow_y (yh_loadO0 Tb 4 rfl rfl rfl rfl rfl hy79 rfl) rfl rfl (kk_wl ?_))
            refine wl_u rfl (ow_y (yh_assign rfl rfl) rfl rfl (kk_wl ?_))
            refine wl_nil ?_
            refine ex_seq ?_
            refine cw_seq ?_
            refine cw_region ?_
            refine wl_u rfl (ow_y (yh_loadBA Tb (k := 1) rfl rfl rfl rfl rfl rfl) rfl rfl (kk_wl ?_))
            refine wl_u rfl (ow_y (yh_move rfl rfl) rfl rfl (kk_wl ?_))
            obtain ⟨x83, hx83, h⟩ := bd h
            refine wl_u rfl (ow_cV rfl hb36 rfl (fun w hw => c_impl_Flow_at N _ _ _ hx83 w (Lay.at_ h_u1_steps hw)) rfl rfl (kk_wl ?_))
            refine wl_u rfl (ow_y (yh_cmpI rfl rfl rfl rfl) rfl rfl (kk_wl ?_))
            refine wl_nil ?_
            refine ex_seq ?_
            refine cw_split rfl (fun c9 => ?_) (fun c9 => ?_)
            · skip
              replace h := bt c9 h
              have q8 := ltb_true.1 c9
              refine cw_region ?_
              refine wl_u rfl (ow_y (yh_move rfl rfl) rfl rfl (kk_wl ?_))
              refine wl_u rfl (ow_y (yh_move rfl rfl) rfl rfl (kk_wl ?_))
              refine wl_u rfl (ow_y (yh_build [.string y79, .slice none 0 0, .bool false] rfl rfl (by kernel_rfl)) rfl rfl (kk_wl ?_))
              obtain ⟨xc2, hxc2, h⟩ := bd h
              refine wl_u rfl (ow_cPd 2 2 rfl rfl hb37 rfl rfl rfl rfl (fun w hw => c_impl_ChangesOf_f2 N _ _ _ _ hxc2 w (hw.at (i := 2) rfl) (hw.at (i := 3) rfl) (hw.ndPair (i := 2) (j := 2) rfl rfl) (rd_nil strsL rfl _ _)) rfl rfl (fun axc2 cxc2 Fxc2 => kk_wl ?_))
              refine wl_nil ?_
              refine ex_block_normal ?_
              refine ex_seq ?_
              refine cw_region ?_
              refine wl_u rfl (ow_y (yh_arI rfl rfl rfl rfl (by omega)) rfl rfl (kk_wl ?_))
              refine wl_u rfl (ow_y (yh_move rfl rfl) rfl rfl (kk_wl ?_))
              refine wl_nil ?_
              exact ex_next [2, 3, 0, 1, 4] (hn24 (n24, xc2, s77 + 1, axc2, cxc2, Fxc2) (Nat.lt_succ_self _) h) ⟨rfl, rfl, rfl, rfl, rfl, rfl, rfl, trivial⟩ (by kernel_rfl)
            · skip
              replace h := bf c9 h
              have q9 := ltb_false.1 c9
              refine cw_skip ?_
              refine ex_block_normal ?_
              refine ex_seq ?_
              refine cw_region ?_
              refine wl_u rfl (ow_y (yh_arI rfl rfl rfl rfl (by omega)) rfl rfl (kk_wl ?_))
              refine wl_u rfl (ow_y (yh_move rfl rfl) rfl rfl (kk_wl ?_))
              refine wl_nil ?_
              exact ex_next [0, 1, 2, 3, 4] (hn24 (n24, s6_c_0, s77 + 1, as6_c_0, cs6_c_0, Fs6_c_0) (Nat.lt_succ_self _) h) ⟨rfl, rfl, rfl, rfl, rfl, rfl, rfl, trivial⟩ (by kernel_rfl)
          · skip
            replace h := bf c8 h
            have q10 := ltb_false.1 c8
            refine cw_exit ?_
            refine ex_then_exit ?_
            refine ex_then_exit ?_
            obtain rfl := Option.some.inj h
            have h := go_brk hk24
            refine ex_block_exit ?_
            refine ex_seq ?_
            refine cw_seq ?_
            refine cw_seq ?_
            refine cw_region ?_
            refine wl_u rfl (ow_y (yh_loadBA Tb (k := 1) rfl rfl rfl rfl rfl rfl) rfl rfl (kk_wl ?_))
            obtain ⟨x91, hx91, h⟩ := bd h
            refine wl_u rfl (ow_cN1 rfl hb40 rfl (fun w hw => c_impl_Flow_order N _ _ hx91 w (Lay.at_ h_u1_steps hw)) rfl rfl (fun a91 c91 F91 => kk_wl ?_))
            refine wl_know (x91.length ≤ 9223372036854775807) (fun w hw => own_max 0 rfl hw) (fun mo92 => ?_)
            refine wl_u rfl (ow_y (yh_lenS Tb rfl rfl rfl rfl) rfl rfl (kk_wl ?_))
            refine wl_u rfl (ow_y (yh_move rfl rfl) rfl rfl (kk_wl ?_))
            refine wl_nil ?_
            refine ex_seq ?_
            refine cw_block ?_
            obtain ⟨e37, he37, hk37⟩ := bd h
            clear h
            refine cw_loopG (σ := Nat × (List Change) × Nat × (Option Addr) × Nat × (List Nat)) (fun s => m_impl_ChangesOf_L37 N u0 u1 x91 s.1 s.2.1 s.2.2.1 = some e37) (fun s => [(2, .pointer (some ⟨g2, 0, none⟩)), (3, .pointer (some ⟨g3, 0, none⟩)), (6, .pointer (some ⟨g6, 0, none⟩)), (7, .func (.func 37) #[] #[.pointer (some ⟨g6, 0, none⟩)]), (91, .slice a91 x91.length c91), (92, .int .i64 ((x91.length : Nat) : Int)), (93, .int .i64 ((s.2.2.1 : Nat) : Int))]) (fun s => [blkC g2 25 [.int .i64 u0.ver, .slice a_u0_steps u0.steps.length c_u0_steps], blkC g3 25 [.int .i64 u1.ver, .slice a_u1_steps u1.steps.length c_u1_steps], blkC g6 28 [.slice s.2.2.2.1 s.2.1.length s.2.2.2.2.1], owC changesL s.2.2.2.2.2 [.slice s.2.2.2.1 s.2.1.length s.2.2.2.2.1] s.2.1, owC strsL F91 [.slice a91 x91.length c91] x91]) (fun s => s.1) (N, s6_c_0, 0, as6_c_0, cs6_c_0, Fs6_c_0) [1, 2, 3, 4, 0] he37 ⟨rfl, rfl, rfl, rfl, rfl, rfl, rfl, trivial⟩ rfl (fun KL s he37 hn37 => ?_)
            obtain ⟨n37, s6_c_0, s93, as6_c_0, cs6_c_0, Fs6_c_0⟩ := s
            simp only at he37 hn37 ⊢
            rcases n37 with _ | n37
            · exact nosome he37
            have h := he37; rw [m_impl_ChangesOf_L37] at h
            refine cw_seq ?_
            refine cw_region ?_
            refine wl_u rfl (ow_y (yh_cmpI rfl rfl rfl rfl) rfl rfl (kk_wl ?_))
            refine wl_nil ?_
            refine ex_seq ?_
            refine cw_seq ?_
            refine cw_split rfl (fun c10 => ?_) (fun c10 => ?_)
            · skip
              replace h := bt c10 h
              have q11 := ltb_true.1 c10
              refine cw_skip ?_
              refine ex_seq ?_
              refine cw_seq ?_
              refine cw_block ?_
              refine cw_seq ?_
              refine cw_region ?_
              obtain ⟨y95, hy95, h⟩ := bd h
              refine wl_ex (fun g => a91 = some ⟨g, 0, none⟩) (fun w hw => by exact own_addrK 4 rfl hy95 hw) (fun g95 hg95 => ?_)
              subst hg95
              refine wl_u rfl (ow_y (yh_idx Tb (k := s93) rfl rfl rfl rfl (get_lt hy95) rfl rfl) rfl rfl (kk_wl ?_))
              refine wl_u rfl (ow_y (yh_loadO0 Tb 4 rfl rfl rfl rfl rfl hy95 rfl) rfl rfl (kk_wl ?_))
              refine wl_u rfl (ow_y (yh_assign rfl rfl) rfl rfl (kk_wl ?_))
              refine wl_nil ?_
              refine ex_seq ?_
              refine cw_seq ?_
              refine cw_dr [0, 1, 2, 3, 5, 6] [8] [blkC g2 25 [.int .i64 u0.ver, .slice a_u0_steps u0.steps.length c_u0_steps], blkC g3 25 [.int .i64 u1.ver, .slice a_u1_steps u1.steps.length c_u1_steps], blkC g6 28 [.slice as6_c_0 s6_c_0.length cs6_c_0], owC changesL Fs6_c_0 [.slice as6_c_0 s6_c_0.length cs6_c_0] s6_c_0, owC strsL F91 [.slice (some ⟨g95, 0, none⟩) x91.length c91] x91] (by kernel_rfl) ?_
              refine wd_take (i := 0) [0, 1, 2, 3, 4] rfl rfl rfl rfl rfl (by kernel_rfl) (by kernel_rfl) (fun _ _ _ _ h => h) (yh_field Tb rfl rfl rfl) ?_
              refine wd_take (i := 1) [0, 1, 2, 3, 4] rfl rfl rfl rfl rfl (by kernel_rfl) (by kernel_rfl) (fun _ _ _ _ h => h) (yh_loadB Tb (k := 1) rfl rfl rfl rfl rfl) ?_
              refine wd_take (i := 2) [0, 1, 2, 3, 4] rfl rfl rfl rfl rfl (by kernel_rfl) (by kernel_rfl) (fun _ _ _ _ h => h) (yh_loadBA Tb (k := 1) rfl rfl rfl rfl rfl rfl) ?_
              refine wd_take (i := 3) [0, 1, 2, 3, 4] rfl rfl rfl rfl rfl (by kernel_rfl) (by kernel_rfl) (fun _ _ _ _ h => h) (yh_move rfl rfl) ?_
              refine wd_all [4, 7] (by kernel_rfl) (by simp) (fun i hi => ?_)
              simp only [List.mem_cons, List.not_mem_nil, or_false] at hi
              rcases hi with rfl | rfl
              · refine ⟨_, rfl, rfl, ?_⟩
                obtain ⟨x101, hx101, h⟩ := bd h
                refine (ow_cV rfl hb36 rfl (fun w hw => c_impl_Flow_at N _ _ _ hx101 w (Lay.at_ h_u1_steps hw)) rfl rfl (kk_wd [0, 1, 2, 3, 4] (by kernel_rfl) ?_))
                obtain ⟨y102, zy102, h⟩ := bd h
                obtain ⟨iy102, hy102⟩ := geti_some zy102
                obtain ⟨b102, o102, ha102⟩ := sl_addr h_u1_steps hy102
                subst ha102
                obtain ⟨a102, e102, hc102, hf102⟩ := get_step h_u1_steps hy102
                have mx102 := rd_max hf102
                refine wd_take (i := 5) [0, 1, 2, 3, 4] rfl rfl rfl rfl rfl (by kernel_rfl) (by kernel_rfl) (fun _ _ _ _ h => h) (yh_idx Tb (k := x101.toNat) rfl rfl rfl iy102 (get_lt hy102) rfl rfl) ?_
                refine wd_take (i := 6) [0, 1, 2, 3, 4] rfl rfl rfl rfl rfl (by kernel_rfl) (by kernel_rfl) (fun _ _ _ _ h => h) (yh_loadAN Tb rfl rfl rfl rfl hc102 rfl) ?_
                refine wd_one 7 rfl rfl (by kernel_rfl) (ow_allocA Tb rfl rfl rfl rfl (fun g16 => kk_wd [1, 2, 3, 4, 5] (by kernel_rfl) ?_))
                refine wd_one 8 rfl rfl (by kernel_rfl) (ow_storeA Tb (k := 0) rfl rfl rfl rfl rfl rfl rfl rfl rfl (kk_wdT rfl ?_))
                refine wd_done (by kernel_rfl) ?_
                refine ex_seq ?_
                refine cw_seq ?_
                refine cw_region ?_
                refine wl_u rfl (ow_y (yh_loadBA Tb (k := 1) rfl rfl rfl rfl rfl rfl) rfl rfl (kk_wl ?_))
                refine wl_u rfl (ow_y (yh_move rfl rfl) rfl rfl (kk_wl ?_))
                obtain ⟨x106, hx106, h⟩ := bd h
                refine wl_u rfl (ow_cV rfl hb36 rfl (fun w hw => c_impl_Flow_at N _ _ _ hx106 w (Lay.at_ h_u0_steps hw)) rfl rfl (kk_wl ?_))
                refine wl_u rfl (ow_y (yh_assign rfl rfl) rfl rfl (kk_wl ?_))
                refine wl_nil ?_
                refine ex_seq ?_
                refine cw_seq ?_
                refine cw_seq ?_
                refine cw_region ?_
                refine wl_u rfl (ow_y (yh_move rfl rfl) rfl rfl (kk_wl ?_))
                refine wl_u rfl (ow_y (yh_cmpI rfl rfl rfl rfl) rfl rfl (kk_wl ?_))
                refine wl_nil ?_
                refine ex_seq ?_
                refine cw_split rfl (fun c11 => ?_) (fun c11 => ?_)
                · skip
                  replace h := bt c11 h
                  have q12 := ltb_true.1 c11
                  refine cw_seq ?_
                  refine cw_region ?_
                  refine wl_u rfl (ow_y (yh_move rfl rfl) rfl rfl (kk_wl ?_))
                  refine wl_u rfl (ow_y (yh_loadBA Tb (k := 0) rfl rfl rfl rfl rfl rfl) rfl rfl (kk_wl ?_))
                  obtain ⟨xc3, hxc3, h⟩ := bd h
                  refine wl_u rfl (ow_cPd 3 3 rfl rfl hb37 rfl rfl rfl rfl (fun w hw => c_impl_ChangesOf_f2 N _ _ _ _ hxc3 w (hw.at (i := 3) rfl) (hw.at (i := 4) rfl) (hw.ndPair (i := 3) (j := 3) rfl rfl) (Lay.atP (i := 3) (j := 3) hf102 rfl rfl hw :)) rfl rfl (fun axc3 cxc3 Fxc3 => kk_wl ?_))
                  refine wl_nil ?_
                  refine ex_seq ?_
                  refine cw_exit ?_
                  refine ex_then_exit ?_
                  refine ex_block_exit ?_
                  refine ex_seq ?_
                  refine cw_region ?_
                  refine wl_u rfl (ow_y (yh_arI rfl rfl rfl rfl (by omega)) rfl rfl (kk_wl ?_))
                  refine wl_u rfl (ow_y (yh_move rfl rfl) rfl rfl (kk_wl ?_))
                  refine wl_nil ?_
                  exact ex_next [3, 4, 0, 1, 5] (hn37 (n37, xc3, s93 + 1, axc3, cxc3, Fxc3) (Nat.lt_succ_self _) h) ⟨rfl, rfl, rfl, rfl, rfl, rfl, rfl, trivial⟩ (by kernel_rfl)
                · skip
                  replace h := bf c11 h
                  have q13 := ltb_false.1 c11
                  refine cw_skip ?_
                  refine ex_seq ?_
                  obtain ⟨j148, he148, hk148⟩ := bd h
                  clear h
                  refine cw_cut (σ := (Option Addr) × Nat × (List Nat)) (fun s => True) (fun s => [(2, .pointer (some ⟨g2, 0, none⟩)), (3, .pointer (some ⟨g3, 0, none⟩)), (6, .pointer (some ⟨g6, 0, none⟩)), (7, .func (.func 37) #[] #[.pointer (some ⟨g6, 0, none⟩)]), (15, .string y95), (16, .pointer (some ⟨g16, 0, none⟩)), (17, .int .i64 x106), (91, .slice (some ⟨g95, 0, none⟩) x91.length c91), (92, .int .i64 ((x91.length : Nat) : Int)), (93, .int .i64 ((s93 : Nat) : Int))]) (fun s => [blkC g2 25 [.int .i64 u0.ver, .slice a_u0_steps u0.steps.length c_u0_steps], blkC g3 25 [.int .i64 u1.ver, .slice (some ⟨b102, o102, none⟩) u1.steps.length c_u1_steps], blkC g6 28 [.slice s.1 j148.length s.2.1], owC changesL s.2.2 [.slice s.1 j148.length s.2.1] j148, blkC g16 49 [.string y102.name, .slice a102 y102.after.length e102, .bool y102.undo], owC strsL F91 [.slice (some ⟨g95, 0, none⟩) x91.length c91] x91]) (fun s hI => ?_) (fun KL hn148 => ?_)
                  · skip
                    obtain ⟨ak148_6_c_0, ck148_6_c_0, Fk148_6_c_0⟩ := s
                    simp only at ⊢
                    have h := hk148
                    refine cw_seq ?_
                    refine cw_dr [0, 1, 2, 3, 4, 5, 6, 7, 8] [] [blkC g2 25 [.int .i64 u0.ver, .slice a_u0_steps u0.steps.length c_u0_steps], blkC g3 25 [.int .i64 u1.ver, .slice (some ⟨b102, o102, none⟩) u1.steps.length c_u1_steps], blkC g6 28 [.slice ak148_6_c_0 j148.length ck148_6_c_0], owC changesL Fk148_6_c_0 [.slice ak148_6_c_0 j148.length ck148_6_c_0] j148, blkC g16 49 [.string y102.name, .slice a102 y102.after.length e102, .bool y102.undo], owC strsL F91 [.slice (some ⟨g95, 0, none⟩) x91.length c91] x91] (by kernel_rfl) ?_
                    refine wd_take (i := 0) [0, 1, 2, 3, 4, 5] rfl rfl rfl rfl rfl (by kernel_rfl) (by kernel_rfl) (fun _ _ _ _ h => h) (yh_field Tb rfl rfl rfl) ?_
                    refine wd_take (i := 1) [0, 1, 2, 3, 4, 5] rfl rfl rfl rfl rfl (by kernel_rfl) (by kernel_rfl) (fun _ _ _ _ h => h) (yh_loadB Tb (k := 4) rfl rfl rfl rfl rfl) ?_
                    refine wd_take (i := 2) [0, 1, 2, 3, 4, 5] rfl rfl rfl rfl rfl (by kernel_rfl) (by kernel_rfl) (fun _ _ _ _ h => h) (yh_field Tb rfl rfl rfl) ?_
                    refine wd_take (i := 3) [0, 1, 2, 3, 4, 5] rfl rfl rfl rfl rfl (by kernel_rfl) (by kernel_rfl) (fun _ _ _ _ h => h) (yh_loadB Tb (k := 0) rfl rfl rfl rfl rfl) ?_
                    refine wd_take (i := 4) [0, 1, 2, 3, 4, 5] rfl rfl rfl rfl rfl (by kernel_rfl) (by kernel_rfl) (fun _ _ _ _ h => h) (yh_move rfl rfl) ?_
                    obtain ⟨y139, zy139, h⟩ := bd h
                    obtain ⟨iy139, hy139⟩ := geti_some zy139
                    obtain ⟨b139, o139, ha139⟩ := sl_addr h_u0_steps hy139
                    subst ha139
                    obtain ⟨a139, e139, hc139, hf139⟩ := get_step h_u0_steps hy139
                    have mx139 := rd_max hf139
                    refine wd_take (i := 5) [0, 1, 2, 3, 4, 5] rfl rfl rfl rfl rfl (by kernel_rfl) (by kernel_rfl) (fun _ _ _ _ h => h) (yh_idx Tb (k := x106.toNat) rfl rfl rfl iy139 (get_lt hy139) rfl rfl) ?_
                    refine wd_take (i := 6) [0, 1, 2, 3, 4, 5] rfl rfl rfl rfl rfl (by kernel_rfl) (by kernel_rfl) (fun _ _ _ _ h => h) (yh_field Tb rfl rfl rfl) ?_
                    refine wd_take (i := 7) [0, 1, 2, 3, 4, 5] rfl rfl rfl rfl rfl (by kernel_rfl) (by kernel_rfl) (fun _ _ _ _ h => h) (yh_loadAF Tb (j := 2) rfl rfl rfl hc139 rfl) ?_
                    refine wd_take (i := 8) [0, 1, 2, 3, 4, 5] rfl rfl rfl rfl rfl (by kernel_rfl) (by kernel_rfl) (fun _ _ _ _ h => h) (yh_cmpB rfl rfl rfl rfl (by kernel_rfl)) ?_
                    refine wd_done (by kernel_rfl) ?_
                    refine ex_seq ?_
                    refine cw_split rfl (fun c12 => ?_) (fun c12 => ?_)
                    · skip
                      replace h := bt c12 h
                      refine cw_region ?_
                      refine wl_u rfl (ow_y (yh_move rfl rfl) rfl rfl (kk_wl ?_))
                      refine wl_u rfl (ow_y (yh_move rfl rfl) rfl rfl (kk_wl ?_))
                      refine wl_u rfl (ow_y (yh_field Tb rfl rfl rfl) rfl rfl (kk_wl ?_))
                      refine wl_u rfl (ow_y (yh_loadB Tb (k := 4) rfl rfl rfl rfl rfl) rfl rfl (kk_wl ?_))
                      refine wl_u rfl (ow_y (yh_build [.string y95, .slice none 0 0, .bool y102.undo] rfl rfl (by kernel_rfl)) rfl rfl (kk_wl ?_))
                      obtain ⟨xc5, hxc5, h⟩ := bd h
                      refine wl_u rfl (ow_cPd 2 2 rfl rfl hb37 rfl rfl rfl rfl (fun w hw => c_impl_ChangesOf_f2 N _ _ _ _ hxc5 w (hw.at (i := 2) rfl) (hw.at (i := 3) rfl) (hw.ndPair (i := 2) (j := 2) rfl rfl) (rd_nil strsL rfl _ _)) rfl rfl (fun axc5 cxc5 Fxc5 => kk_wl ?_))
                      refine wl_nil ?_
                      refine ex_block_normal ?_
                      refine ex_seq ?_
                      refine cw_region ?_
                      refine wl_u rfl (ow_y (yh_arI rfl rfl rfl rfl (by omega)) rfl rfl (kk_wl ?_))
                      refine wl_u rfl (ow_y (yh_move rfl rfl) rfl rfl (kk_wl ?_))
                      refine wl_nil ?_
                      exact ex_next [2, 3, 0, 1, 5] (hn37 (n37, xc5, s93 + 1, axc5, cxc5, Fxc5) (Nat.lt_succ_self _) h) ⟨rfl, rfl, rfl, rfl, rfl, rfl, rfl, trivial⟩ (by kernel_rfl)
                    · skip
                      replace h := bf c12 h
                      refine cw_skip ?_
                      refine ex_block_normal ?_
                      refine ex_seq ?_
                      refine cw_region ?_
                      refine wl_u rfl (ow_y (yh_arI rfl rfl rfl rfl (by omega)) rfl rfl (kk_wl ?_))
                      refine wl_u rfl (ow_y (yh_move rfl rfl) rfl rfl (kk_wl ?_))
                      refine wl_nil ?_
                      exact ex_next [0, 1, 2, 3, 5] (hn37 (n37, j148, s93 + 1, ak148_6_c_0, ck148_6_c_0, Fk148_6_c_0) (Nat.lt_succ_self _) h) ⟨rfl, rfl, rfl, rfl, rfl, rfl, rfl, trivial⟩ (by kernel_rfl)
                  · skip
                    have h := he148
                    refine cw_seq ?_
                    refine cw_dr [0, 1, 2, 3, 4, 5, 6, 7, 8, 9, 10, 11, 12, 14, 15] [] [blkC g16 49 [.string y102.name, .slice a102 y102.after.length e102, .bool y102.undo], blkC g2 25 [.int .i64 u0.ver, .slice a_u0_steps u0.steps.length c_u0_steps], blkC g3 25 [.int .i64 u1.ver, .slice (some ⟨b102, o102, none⟩) u1.steps.length c_u1_steps], blkC g6 28 [.slice as6_c_0 s6_c_0.length cs6_c_0], owC changesL Fs6_c_0 [.slice as6_c_0 s6_c_0.length cs6_c_0] s6_c_0, owC strsL F91 [.slice (some ⟨g95, 0, none⟩) x91.length c91] x91] (by kernel_rfl) ?_
                    refine wd_take (i := 0) [0, 1, 2, 3, 4, 5] rfl rfl rfl rfl rfl (by kernel_rfl) (by kernel_rfl) (fun _ _ _ _ h => h) (yh_field Tb rfl rfl rfl) ?_
                    refine wd_take (i := 1) [0, 1, 2, 3, 4, 5] rfl rfl rfl rfl rfl (by kernel_rfl) (by kernel_rfl) (fun _ _ _ _ h => h) (yh_loadB Tb (k := 0) rfl rfl rfl rfl rfl) ?_
                    refine wd_take (i := 2) [0, 1, 2, 3, 4, 5] rfl rfl rfl rfl rfl (by kernel_rfl) (by kernel_rfl) (fun _ _ _ _ h => h) (yh_lenS Tb rfl rfl rfl rfl) ?_
                    refine wd_take (i := 3) [0, 1, 2, 3, 4, 5] rfl rfl rfl rfl rfl (by kernel_rfl) (by kernel_rfl) (fun _ _ _ _ h => h) (yh_cmpI rfl rfl rfl rfl) ?_
                    refine wd_take (i := 4) [0, 1, 2, 3, 4, 5] rfl rfl rfl rfl rfl (by kernel_rfl) (by kernel_rfl) (fun _ _ _ _ h => h) (yh_move rfl rfl) ?_
                    refine wd_split 5 rfl rfl rfl (fun c13 => ?_) (fun c13 => ?_)
                    · skip
                      replace h := bt c13 h
                      have q14 := ltb_true.1 c13
                      refine wd_take (i := 5) [0, 1, 2, 3, 4, 5] rfl rfl rfl rfl rfl (by kernel_rfl) (by kernel_rfl) (fun _ _ _ _ h => h) (yh_field Tb rfl rfl rfl) ?_
                      refine wd_take (i := 6) [0, 1, 2, 3, 4, 5] rfl rfl rfl rfl rfl (by kernel_rfl) (by kernel_rfl) (fun _ _ _ _ h => h) (yh_loadB Tb (k := 0) rfl rfl rfl rfl rfl) ?_
                      refine wd_take (i := 7) [0, 1, 2, 3, 4, 5] rfl rfl rfl rfl rfl (by kernel_rfl) (by kernel_rfl) (fun _ _ _ _ h => h) (yh_field Tb rfl rfl rfl) ?_
                      refine wd_take (i := 8) [0, 1, 2, 3, 4, 5] rfl rfl rfl rfl rfl (by kernel_rfl) (by kernel_rfl) (fun _ _ _ _ h => h) (yh_loadB Tb (k := 1) rfl rfl rfl rfl rfl) ?_
                      refine wd_take (i := 9) [0, 1, 2, 3, 4, 5] rfl rfl rfl rfl rfl (by kernel_rfl) (by kernel_rfl) (fun _ _ _ _ h => h) (yh_move rfl rfl) ?_
                      obtain ⟨y122, zy122, h⟩ := bd h
                      obtain ⟨iy122, hy122⟩ := geti_some zy122
                      obtain ⟨b122, o122, ha122⟩ := sl_addr h_u0_steps hy122
                      subst ha122
                      obtain ⟨a122, e122, hc122, hf122⟩ := get_step h_u0_steps hy122
                      have mx122 := rd_max hf122
                      refine wd_take (i := 10) [0, 1, 2, 3, 4, 5] rfl rfl rfl rfl rfl (by kernel_rfl) (by kernel_rfl) (fun _ _ _ _ h => h) (yh_idx Tb (k := x106.toNat) rfl rfl rfl iy122 (get_lt hy122) rfl rfl) ?_
                      refine wd_take (i := 11) [0, 1, 2, 3, 4, 5] rfl rfl rfl rfl rfl (by kernel_rfl) (by kernel_rfl) (fun _ _ _ _ h => h) (yh_field Tb rfl rfl rfl) ?_
                      refine wd_take (i := 12) [0, 1, 2, 3, 4, 5] rfl rfl rfl rfl rfl (by kernel_rfl) (by kernel_rfl) (fun _ _ _ _ h => h) (yh_loadAF Tb (j := 1) rfl rfl rfl hc122 rfl) ?_
                      obtain ⟨x125, hx125, h⟩ := bd h
                      refine wd_one 13 rfl rfl (by kernel_rfl) (ow_cV rfl hb39 rfl (fun w hw => c_slices_Equal_string N _ _ _ hx125 w (Lay.at_ hf102 hw) (Lay.at_ hf122 hw)) rfl rfl (kk_wd [0, 1, 2, 3, 4, 5] (by kernel_rfl) ?_))
                      refine wd_take (i := 14) [0, 1, 2, 3, 4, 5] rfl rfl rfl rfl rfl (by kernel_rfl) (by kernel_rfl) (fun _ _ _ _ h => h) (yh_not rfl rfl) ?_
                      refine wd_take (i := 15) [0, 1, 2, 3, 4, 5] rfl rfl rfl rfl rfl (by kernel_rfl) (by kernel_rfl) (fun _ _ _ _ h => h) (yh_pickT rfl rfl rfl) ?_
                      refine wd_done (by kernel_rfl) ?_
                      refine ex_seq ?_
                      refine cw_split rfl (fun c14 => ?_) (fun c14 => ?_)
                      · skip
                        replace h := bt c14 h
                        refine cw_region ?_
                        refine wl_u rfl (ow_y (yh_move rfl rfl) rfl rfl (kk_wl ?_))
                        refine wl_u rfl (ow_y (yh_move rfl rfl) rfl rfl (kk_wl ?_))
                        refine wl_u rfl (ow_y (yh_field Tb rfl rfl rfl) rfl rfl (kk_wl ?_))
                        refine wl_u rfl (ow_y (yh_loadB Tb (k := 0) rfl rfl rfl rfl rfl) rfl rfl (kk_wl ?_))
                        refine wl_u rfl (ow_y (yh_build [.string y95, .slice a102 y102.after.length e102, .bool false] rfl rfl (by kernel_rfl)) rfl rfl (kk_wl ?_))
                        obtain ⟨xc4, hxc4, h⟩ := bd h
                        refine wl_u rfl (ow_cPd 3 3 rfl rfl hb37 rfl rfl rfl rfl (fun w hw => c_impl_ChangesOf_f2 N _ _ _ _ hxc4 w (hw.at (i := 3) rfl) (hw.at (i := 4) rfl) (hw.ndPair (i := 3) (j := 3) rfl rfl) (Lay.atP (i := 3) (j := 3) hf102 rfl rfl hw :)) rfl rfl (fun axc4 cxc4 Fxc4 => kk_wl ?_))
                        refine wl_nil ?_
                        obtain rfl := Option.some.inj h
                        exact ex_next [3, 4, 0, 1, 2, 5] (hn148 (axc4, cxc4, Fxc4) trivial) ⟨rfl, rfl, rfl, rfl, rfl, rfl, rfl, rfl, rfl, rfl, trivial⟩ (by kernel_rfl)
                      · skip
                        replace h := bf c14 h
                        refine cw_skip ?_
                        obtain rfl := Option.some.inj h
                        exact ex_next [1, 2, 3, 4, 0, 5] (hn148 (as6_c_0, cs6_c_0, Fs6_c_0) trivial) ⟨rfl, rfl, rfl, rfl, rfl, rfl, rfl, rfl, rfl, rfl, trivial⟩ (by kernel_rfl)
                    · skip
                      replace h := bf c13 h
                      have q15 := ltb_false.1 c13
                      refine wd_skip (i := 5) [0, 1, 2, 3, 4, 5] rfl rfl rfl rfl (by kernel_rfl) (by kernel_rfl) (fun _ _ _ h => h) ?_
                      refine wd_skip (i := 6) [0, 1, 2, 3, 4, 5] rfl rfl rfl rfl (by kernel_rfl) (by kernel_rfl) (fun _ _ _ h => h) ?_
                      refine wd_skip (i := 7) [0, 1, 2, 3, 4, 5] rfl rfl rfl rfl (by kernel_rfl) (by kernel_rfl) (fun _ _ _ h => h) ?_
                      refine wd_skip (i := 8) [0, 1, 2, 3, 4, 5] rfl rfl rfl rfl (by kernel_rfl) (by kernel_rfl) (fun _ _ _ h => h) ?_
                      refine wd_skip (i := 9) [0, 1, 2, 3, 4, 5] rfl rfl rfl rfl (by kernel_rfl) (by kernel_rfl) (fun _ _ _ h => h) ?_
                      refine wd_skip (i := 10) [0, 1, 2, 3, 4, 5] rfl rfl rfl rfl (by kernel_rfl) (by kernel_rfl) (fun _ _ _ h => h) ?_
                      refine wd_skip (i := 11) [0, 1, 2, 3, 4, 5] rfl rfl rfl rfl (by kernel_rfl) (by kernel_rfl) (fun _ _ _ h => h) ?_
                      refine wd_skip (i := 12) [0, 1, 2, 3, 4, 5] rfl rfl rfl rfl (by kernel_rfl) (by kernel_rfl) (fun _ _ _ h => h) ?_
                      refine wd_offD 13 rfl rfl rfl rfl (by kernel_rfl) [0, 1, 2, 3, 4, 5] (fun _ => rfl) ?_
                      refine wd_skip (i := 14) [0, 1, 2, 3, 4, 5] rfl rfl rfl rfl (by kernel_rfl) (by kernel_rfl) (fun _ _ _ h => h) ?_
                      refine wd_take (i := 15) [0, 1, 2, 3, 4, 5] rfl rfl rfl rfl rfl (by kernel_rfl) (by kernel_rfl) (fun _ _ _ _ h => h) (yh_pickF rfl rfl rfl) ?_
                      refine wd_done (by kernel_rfl) ?_
                      refine ex_seq ?_
                      refine cw_false rfl ?_
                      refine cw_skip ?_
                      obtain rfl := Option.some.inj h
                      exact ex_next [1, 2, 3, 4, 0, 5] (hn148 (as6_c_0, cs6_c_0, Fs6_c_0) trivial) ⟨rfl, rfl, rfl, rfl, rfl, rfl, rfl, rfl, rfl, rfl, trivial⟩ (by kernel_rfl)
              · refine ⟨_, rfl, rfl, ?_⟩
                refine (ow_allocA Tb rfl rfl rfl rfl (fun g16 => kk_wd [1, 2, 3, 4, 5] (by kernel_rfl) ?_))
                obtain ⟨x101, hx101, h⟩ := bd h
                refine wd_one 4 rfl rfl (by kernel_rfl) (ow_cV rfl hb36 rfl (fun w hw => c_impl_Flow_at N _ _ _ hx101 w (Lay.at_ h_u1_steps hw)) rfl rfl (kk_wd [1, 2, 3, 4, 5] (by kernel_rfl) ?_))
                obtain ⟨y102, zy102, h⟩ := bd h
                obtain ⟨iy102, hy102⟩ := geti_some zy102
                obtain ⟨b102, o102, ha102⟩ := sl_addr h_u1_steps hy102
                subst ha102
                obtain ⟨a102, e102, hc102, hf102⟩ := get_step h_u1_steps hy102
                have mx102 := rd_max hf102
                refine wd_take (i := 5) [1, 2, 3, 4, 5] rfl rfl rfl rfl rfl (by kernel_rfl) (by kernel_rfl) (fun _ _ _ _ h => h) (yh_idx Tb (k := x101.toNat) rfl rfl rfl iy102 (get_lt hy102) rfl rfl) ?_
                refine wd_take (i := 6) [1, 2, 3, 4, 5] rfl rfl rfl rfl rfl (by kernel_rfl) (by kernel_rfl) (fun _ _ _ _ h => h) (yh_loadAN Tb rfl rfl rfl rfl hc102 rfl) ?_
                refine wd_one 8 rfl rfl (by kernel_rfl) (ow_storeA Tb (k := 0) rfl rfl rfl rfl rfl rfl rfl rfl rfl (kk_wdT rfl ?_))
                refine wd_done (by kernel_rfl) ?_
                refine ex_seq ?_
                refine cw_seq ?_
                refine cw_region ?_
                refine wl_u rfl (ow_y (yh_loadBA Tb (k := 1) rfl rfl rfl rfl rfl rfl) rfl rfl (kk_wl ?_))
                refine wl_u rfl (ow_y (yh_move rfl rfl) rfl rfl (kk_wl ?_))
                obtain ⟨x106, hx106, h⟩ := bd h
                refine wl_u rfl (ow_cV rfl hb36 rfl (fun w hw => c_impl_Flow_at N _ _ _ hx106 w (Lay.at_ h_u0_steps hw)) rfl rfl (kk_wl ?_))
                refine wl_u rfl (ow_y (yh_assign rfl rfl) rfl rfl (kk_wl ?_))
                refine wl_nil ?_
                refine ex_seq ?_
                refine cw_seq ?_
                refine cw_seq ?_
                refine cw_region ?_
                refine wl_u rfl (ow_y (yh_move rfl rfl) rfl rfl (kk_wl ?_))
                refine wl_u rfl (ow_y (yh_cmpI rfl rfl rfl rfl) rfl rfl (kk_wl ?_))
                refine wl_nil ?_
                refine ex_seq ?_
                refine cw_split rfl (fun c15 => ?_) (fun c15 => ?_)
                · skip
                  replace h := bt c15 h
                  have q16 := ltb_true.1 c15
                  refine cw_seq ?_
                  refine cw_region ?_
                  refine wl_u rfl (ow_y (yh_move rfl rfl) rfl rfl (kk_wl ?_))
                  refine wl_u rfl (ow_y (yh_loadBA Tb (k := 0) rfl rfl rfl rfl rfl rfl) rfl rfl (kk_wl ?_))
                  obtain ⟨xc3, hxc3, h⟩ := bd h
                  refine wl_u rfl (ow_cPd 3 3 rfl rfl hb37 rfl rfl rfl rfl (fun w hw => c_impl_ChangesOf_f2 N _ _ _ _ hxc3 w (hw.at (i := 3) rfl) (hw.at (i := 4) rfl) (hw.ndPair (i := 3) (j := 3) rfl rfl) (Lay.atP (i := 3) (j := 3) hf102 rfl rfl hw :)) rfl rfl (fun axc3 cxc3 Fxc3 => kk_wl ?_))
                  refine wl_nil ?_
                  refine ex_seq ?_
                  refine cw_exit ?_
                  refine ex_then_exit ?_
                  refine ex_block_exit ?_
                  refine ex_seq ?_
                  refine cw_region ?_
                  refine wl_u rfl (ow_y (yh_arI rfl rfl rfl rfl (by omega)) rfl rfl (kk_wl ?_))
                  refine wl_u rfl (ow_y (yh_move rfl rfl) rfl rfl (kk_wl ?_))
                  refine wl_nil ?_
                  exact ex_next [3, 4, 0, 1, 5] (hn37 (n37, xc3, s93 + 1, axc3, cxc3, Fxc3) (Nat.lt_succ_self _) h) ⟨rfl, rfl, rfl, rfl, rfl, rfl, rfl, trivial⟩ (by kernel_rfl)
                · skip
                  replace h := bf c15 h
                  have q17 := ltb_false.1 c15
                  refine cw_skip ?_
                  refine ex_seq ?_
                  obtain ⟨j148, he148, hk148⟩ := bd h
                  clear h
                  refine cw_cut (σ := (Option Addr) × Nat × (List Nat)) (fun s => True) (fun s => [(2, .pointer (some ⟨g2, 0, none⟩)), (3, .pointer (some ⟨g3, 0, none⟩)), (6, .pointer (some ⟨g6, 0, none⟩)), (7, .func (.func 37) #[] #[.pointer (some ⟨g6, 0, none⟩)]), (15, .string y95), (16, .pointer (some ⟨g16, 0, none⟩)), (17, .int .i64 x106), (91, .slice (some ⟨g95, 0, none⟩) x91.length c91), (92, .int .i64 ((x91.length : Nat) : Int)), (93, .int .i64 ((s93 : Nat) : Int))]) (fun s => [blkC g2 25 [.int .i64 u0.ver, .slice a_u0_steps u0.steps.length c_u0_steps], blkC g3 25 [.int .i64 u1.ver, .slice (some ⟨b102, o102, none⟩) u1.steps.length c_u1_steps], blkC g6 28 [.slice s.1 j148.length s.2.1], owC changesL s.2.2 [.slice s.1 j148.length s.2.1] j148, blkC g16 49 [.string y102.name, .slice a102 y102.after.length e102, .bool y102.undo], owC strsL F91 [.slice (some ⟨g95, 0, none⟩) x91.length c91] x91]) (fun s hI => ?_) (fun KL hn148 => ?_)
                  · skip
                    obtain ⟨ak148_6_c_0, ck148_6_c_0, Fk148_6_c_0⟩ := s
                    simp only at ⊢
                    have h := hk148
                    refine cw_seq ?_
                    refine cw_dr [0, 1, 2, 3, 4, 5, 6, 7, 8] [] [blkC g2 25 [.int .i64 u0.ver, .slice a_u0_steps u0.steps.length c_u0_steps], blkC g3 25 [.int .i64 u1.ver, .slice (some ⟨b102, o102, none⟩) u1.steps.length c_u1_steps], blkC g6 28 [.slice ak148_6_c_0 j148.length ck148_6_c_0], owC changesL Fk148_6_c_0 [.slice ak148_6_c_0 j148.length ck148_6_c_0] j148, blkC g16 49 [.string y102.name, .slice a102 y102.after.length e102, .bool y102.undo], owC strsL F91 [.slice (some ⟨g95, 0, none⟩) x91.length c91] x91] (by kernel_rfl) ?_
                    refine wd_take (i := 0) [0, 1, 2, 3, 4, 5] rfl rfl rfl rfl rfl (by kernel_rfl) (by kernel_rfl) (fun _ _ _ _ h => h) (yh_field Tb rfl rfl rfl) ?_
                    refine wd_take (i := 1) [0, 1, 2, 3, 4, 5] rfl rfl rfl rfl rfl (by kernel_rfl) (by kernel_rfl) (fun _ _ _ _ h => h) (yh_loadB Tb (k := 4) rfl rfl rfl rfl rfl) ?_
                    refine wd_take (i := 2) [0, 1, 2, 3, 4, 5] rfl rfl rfl rfl rfl (by kernel_rfl) (by kernel_rfl) (fun _ _ _ _ h => h) (yh_field Tb rfl rfl rfl) ?_
                    refine wd_take (i := 3) [0, 1, 2, 3, 4, 5] rfl rfl rfl rfl rfl (by kernel_rfl) (by kernel_rfl) (fun _ _ _ _ h => h) (yh_loadB Tb (k := 0) rfl rfl rfl rfl rfl) ?_
                    refine wd_take (i := 4) [0, 1, 2, 3, 4, 5] rfl rfl rfl rfl rfl (by kernel_rfl) (by kernel_rfl) (fun _ _ _ _ h => h) (yh_move rfl rfl) ?_
                    obtain ⟨y139, zy139, h⟩ := bd h
                    obtain ⟨iy139, hy139⟩ := geti_some zy139
                    obtain ⟨b139, o139, ha139⟩ := sl_addr h_u0_steps hy139
                    subst ha139
                    obtain ⟨a139, e139, hc139, hf139⟩ := get_step h_u0_steps hy139
                    have mx139 := rd_max hf139
                    refine wd_take (i := 5) [0, 1, 2, 3, 4, 5] rfl rfl rfl rfl rfl (by kernel_rfl) (by kernel_rfl) (fun _ _ _ _ h => h) (yh_idx Tb (k := x106.toNat) rfl rfl rfl iy139 (get_lt hy139) rfl rfl) ?_
                    refine wd_take (i := 6) [0, 1, 2, 3, 4, 5] rfl rfl rfl rfl rfl (by kernel_rfl) (by kernel_rfl) (fun _ _ _ _ h => h) (yh_field Tb rfl rfl rfl) ?_
                    refine wd_take (i := 7) [0, 1, 2, 3, 4, 5] rfl rfl rfl rfl rfl (by kernel_rfl) (by kernel_rfl) (fun _ _ _ _ h => h) (yh_loadAF Tb (j := 2) rfl rfl rfl hc139 rfl) ?_
                    refine wd_take (i := 8) [0, 1, 2, 3, 4, 5] rfl rfl rfl rfl rfl (by kernel_rfl) (by kernel_rfl) (fun _ _ _ _ h => h) (yh_cmpB rfl rfl rfl rfl (by kernel_rfl)) ?_
                    refine wd_done (by kernel_rfl) ?_
                    refine ex_seq ?_
                    refine cw_split rfl (fun c16 => ?_) (fun c16 => ?_)
                    · skip
                      replace h := bt c16 h
                      refine cw_region ?_
                      refine wl_u rfl (ow_y (yh_move rfl rfl) rfl rfl (kk_wl ?_))
                      refine wl_u rfl (ow_y (yh_move rfl rfl) rfl rfl (kk_wl ?_))
                      refine wl_u rfl (ow_y (yh_field Tb rfl rfl rfl) rfl rfl (kk_wl ?_))
                      refine wl_u rfl (ow_y (yh_loadB Tb (k := 4) rfl rfl rfl rfl rfl) rfl rfl (kk_wl ?_))
                      refine wl_u rfl (ow_y (yh_build [.string y95, .slice none 0 0, .bool y102.undo] rfl rfl (by kernel_rfl)) rfl rfl (kk_wl ?_))
                      obtain ⟨xc5, hxc5, h⟩ := bd h
                      refine wl_u rfl (ow_cPd 2 2 rfl rfl hb37 rfl rfl rfl rfl (fun w hw => c_impl_ChangesOf_f2 N _ _ _ _ hxc5 w (hw.at (i := 2) rfl) (hw.at (i := 3) rfl) (hw.ndPair (i := 2) (j := 2) rfl rfl) (rd_nil strsL rfl _ _)) rfl rfl (fun axc5 cxc5 Fxc5 => kk_wl ?_))
                      refine wl_nil ?_
                      refine ex_block_normal ?_
                      refine ex_seq ?_
                      refine cw_region ?_
                      refine wl_u rfl (ow_y (yh_arI rfl rfl rfl rfl (by omega)) rfl rfl (kk_wl ?_))
                      refine wl_u rfl (ow_y (yh_move rfl rfl) rfl rfl (kk_wl ?_))
                      refine wl_nil ?_
                      exact ex_next [2, 3, 0, 1, 5] (hn37 (n37, xc5, s93 + 1, axc5, cxc5, Fxc5) (Nat.lt_succ_self _) h) ⟨rfl, rfl, rfl, rfl, rfl, rfl, rfl, trivial⟩ (by kernel_rfl)
                    · skip
                      replace h := bf c16 h
                      refine cw_skip ?_
                      refine ex_block_normal ?_
                      refine ex_seq ?_
                      refine cw_region ?_
                      refine wl_u rfl (ow_y (yh_arI rfl rfl rfl rfl (by omega)) rfl rfl (kk_wl ?_))
                      refine wl_u rfl (ow_y (yh_move rfl rfl) rfl rfl (kk_wl ?_))
                      refine wl_nil ?_
                      exact ex_next [0, 1, 2, 3, 5] (hn37 (n37, j148, s93 + 1, ak148_6_c_0, ck148_6_c_0, Fk148_6_c_0) (Nat.lt_succ_self _) h) ⟨rfl, rfl, rfl, rfl, rfl, rfl, rfl, trivial⟩ (by kernel_rfl)
                  · skip
                    have h := he148
                    refine cw_seq ?_
                    refine cw_dr [0, 1, 2, 3, 4, 5, 6, 7, 8, 9, 10, 11, 12, 14, 15] [] [blkC g16 49 [.string y102.name, .slice a102 y102.after.length e102, .bool y102.undo], blkC g2 25 [.int .i64 u0.ver, .slice a_u0_steps u0.steps.length c_u0_steps], blkC g3 25 [.int .i64 u1.ver, .slice (some ⟨b102, o102, none⟩) u1.steps.length c_u1_steps], blkC g6 28 [.slice as6_c_0 s6_c_0.length cs6_c_0], owC changesL Fs6_c_0 [.slice as6_c_0 s6_c_0.length cs6_c_0] s6_c_0, owC strsL F91 [.slice (some ⟨g95, 0, none⟩) x91.length c91] x91] (by kernel_rfl) ?_
                    refine wd_take (i := 0) [0, 1, 2, 3, 4, 5] rfl rfl rfl rfl rfl (by kernel_rfl) (by kernel_rfl) (fun _ _ _ _ h => h) (yh_field Tb rfl rfl rfl) ?_
                    refine wd_take (i := 1) [0, 1, 2, 3, 4, 5] rfl rfl rfl rfl rfl (by kernel_rfl) (by kernel_rfl) (fun _ _ _ _ h => h) (yh_loadB Tb (k := 0) rfl rfl rfl rfl rfl) ?_
                    refine wd_take (i := 2) [0, 1, 2, 3, 4, 5] rfl rfl rfl rfl rfl (by kernel_rfl) (by kernel_rfl) (fun _ _ _ _ h => h) (yh_lenS Tb rfl rfl rfl rfl) ?_
                    refine wd_take (i := 3) [0, 1, 2, 3, 4, 5] rfl rfl rfl rfl rfl (by kernel_rfl) (by kernel_rfl) (fun _ _ _ _ h => h) (yh_cmpI rfl rfl rfl rfl) ?_
                    refine wd_take (i := 4) [0, 1, 2, 3, 4, 5] rfl rfl rfl rfl rfl (by kernel_rfl) (by kernel_rfl) (fun _ _ _ _ h => h) (yh_move rfl rfl) ?_
                    refine wd_split 5 rfl rfl rfl (fun c17 => ?_) (fun c17 => ?_)
                    · skip
                      replace h := bt c17 h
                      have q18 := ltb_true.1 c17
                      refine wd_take (i := 5) [0, 1, 2, 3, 4, 5] rfl rfl rfl rfl rfl (by kernel_rfl) (by kernel_rfl) (fun _ _ _ _ h => h) (yh_field Tb rfl rfl rfl) ?_
                      refine wd_take (i := 6) [0, 1, 2, 3, 4, 5] rfl rfl rfl rfl rfl (by kernel_rfl) (by kernel_rfl) (fun _ _ _ _ h => h) (yh_loadB Tb (k := 0) rfl rfl rfl rfl rfl) ?_
                      refine wd_take (i := 7) [0, 1, 2, 3, 4, 5] rfl rfl rfl rfl rfl (by kernel_rfl) (by kernel_rfl) (fun _ _ _ _ h => h) (yh_field Tb rfl rfl rfl) ?_
                      refine wd_take (i := 8) [0, 1, 2, 3, 4, 5] rfl rfl rfl rfl rfl (by kernel_rfl) (by kernel_rfl) (fun _ _ _ _ h => h) (yh_loadB Tb (k := 1) rfl rfl rfl rfl rfl) ?_
                      refine wd_take (i := 9) [0, 1, 2, 3, 4, 5] rfl rfl rfl rfl rfl (by kernel_rfl) (by kernel_rfl) (fun _ _ _ _ h => h) (yh_move rfl rfl) ?_
                      obtain ⟨y122, zy122, h⟩ := bd h
                      obtain ⟨iy122, hy122⟩ := geti_some zy122
                      obtain ⟨b122, o122, ha122⟩ := sl_addr h_u0_steps hy122
                      subst ha122
                      obtain ⟨a122, e122, hc122, hf122⟩ := get_step h_u0_steps hy122
                      have mx122 := rd_max hf122
                      refine wd_take (i := 10) [0, 1, 2, 3, 4, 5] rfl rfl rfl rfl rfl (by kernel_rfl) (by kernel_rfl) (fun _ _ _ _ h => h) (yh_idx Tb (k := x106.toNat) rfl rfl rfl iy122 (get_lt hy122) rfl rfl) ?_
                      refine wd_take (i := 11) [0, 1, 2, 3, 4, 5] rfl rfl rfl rfl rfl (by kernel_rfl) (by kernel_rfl) (fun _ _ _ _ h => h) (yh_field Tb rfl rfl rfl) ?_
                      refine wd_take (i := 12) [0, 1, 2, 3, 4, 5] rfl rfl rfl rfl rfl (by kernel_rfl) (by kernel_rfl) (fun _ _ _ _ h => h) (yh_loadAF Tb (j := 1) rfl rfl rfl hc122 rfl) ?_
                      obtain ⟨x125, hx125, h⟩ := bd h
                      refine wd_one 13 rfl rfl (by kernel_rfl) (ow_cV rfl hb39 rfl (fun w hw => c_slices_Equal_string N _ _ _ hx125 w (Lay.at_ hf102 hw) (Lay.at_ hf122 hw)) rfl rfl (kk_wd [0, 1, 2, 3, 4, 5] (by kernel_rfl) ?_))
                      refine wd_take (i := 14) [0, 1, 2, 3, 4, 5] rfl rfl rfl rfl rfl (by kernel_rfl) (by kernel_rfl) (fun _ _ _ _ h => h) (yh_not rfl rfl) ?_
                      refine wd_take (i := 15) [0, 1, 2, 3, 4, 5] rfl rfl rfl rfl rfl (by kernel_rfl) (by kernel_rfl) (fun _ _ _ _ h => h) (yh_pickT rfl rfl rfl) ?_
                      refine wd_done (by kernel_rfl) ?_
                      refine ex_seq ?_
                      refine cw_split rfl (fun c18 => ?_) (fun c18 => ?_)
                      · skip
                        replace h := bt c18 h
                        refine cw_region ?_
                        refine wl_u rfl (ow_y (yh_move rfl rfl) rfl rfl (kk_wl ?_))
                        refine wl_u rfl (ow_y (yh_move rfl rfl) rfl rfl (kk_wl ?_))
                        refine wl_u rfl (ow_y (yh_field Tb rfl rfl rfl) rfl rfl (kk_wl ?_))
                        refine wl_u rfl (ow_y (yh_loadB Tb (k := 0) rfl rfl rfl rfl rfl) rfl rfl (kk_wl ?_))
                        refine wl_u rfl (ow_y (yh_build [.string y95, .slice a102 y102.after.length e102, .bool false] rfl rfl (by kernel_rfl)) rfl rfl (kk_wl ?_))
                        obtain ⟨xc4, hxc4, h⟩ := bd h
                        refine wl_u rfl (ow_cPd 3 3 rfl rfl hb37 rfl rfl rfl rfl (fun w hw => c_impl_ChangesOf_f2 N _ _ _ _ hxc4 w (hw.at (i := 3) rfl) (hw.at (i := 4) rfl) (hw.ndPair (i := 3) (j := 3) rfl rfl) (Lay.atP (i := 3) (j := 3) hf102 rfl rfl hw :)) rfl rfl (fun axc4 cxc4 Fxc4 => kk_wl ?_))
                        refine wl_nil ?_
                        obtain rfl := Option.some.inj h
                        exact ex_next [3, 4, 0, 1, 2, 5] (hn148 (axc4, cxc4, Fxc4) trivial) ⟨rfl, rfl, rfl, rfl, rfl, rfl, rfl, rfl, rfl, rfl, trivial⟩ (by kernel_rfl)
                      · skip
                        replace h := bf c18 h
                        refine cw_skip ?_
                        obtain rfl := Option.some.inj h
                        exact ex_next [1, 2, 3, 4, 0, 5] (hn148 (as6_c_0, cs6_c_0, Fs6_c_0) trivial) ⟨rfl, rfl, rfl, rfl, rfl, rfl, rfl, rfl, rfl, rfl, trivial⟩ (by kernel_rfl)
                    · skip
                      replace h := bf c17 h
                      have q19 := ltb_false.1 c17
                      refine wd_skip (i := 5) [0, 1, 2, 3, 4, 5] rfl rfl rfl rfl (by kernel_rfl) (by kernel_rfl) (fun _ _ _ h => h) ?_
                      refine wd_skip (i := 6) [0, 1, 2, 3, 4, 5] rfl rfl rfl rfl (by kernel_rfl) (by kernel_rfl) (fun _ _ _ h => h) ?_
                      refine wd_skip (i := 7) [0, 1, 2, 3, 4, 5] rfl rfl rfl rfl (by kernel_rfl) (by kernel_rfl) (fun _ _ _ h => h) ?_
                      refine wd_skip (i := 8) [0, 1, 2, 3, 4, 5] rfl rfl rfl rfl (by kernel_rfl) (by kernel_rfl) (fun _ _ _ h => h) ?_
                      refine wd_skip (i := 9) [0, 1, 2, 3, 4, 5] rfl rfl rfl rfl (by kernel_rfl) (by kernel_rfl) (fun _ _ _ h => h) ?_
                      refine wd_skip (i := 10) [0, 1, 2, 3, 4, 5] rfl rfl rfl rfl (by kernel_rfl) (by kernel_rfl) (fun _ _ _ h => h) ?_
                      refine wd_skip (i := 11) [0, 1, 2, 3, 4, 5] rfl rfl rfl rfl (by kernel_rfl) (by kernel_rfl) (fun _ _ _ h => h) ?_
                      refine wd_skip (i := 12) [0, 1, 2, 3, 4, 5] rfl rfl rfl rfl (by kernel_rfl) (by kernel_rfl) (fun _ _ _ h => h) ?_
                      refine wd_offD 13 rfl rfl rfl rfl (by kernel_rfl) [0, 1, 2, 3, 4, 5] (fun _ => rfl) ?_
                      refine wd_skip (i := 14) [0, 1, 2, 3, 4, 5] rfl rfl rfl rfl (by kernel_rfl) (by kernel_rfl) (fun _ _ _ h => h) ?_
                      refine wd_take (i := 15) [0, 1, 2, 3, 4, 5] rfl rfl rfl rfl rfl (by kernel_rfl) (by kernel_rfl) (fun _ _ _ _ h => h) (yh_pickF rfl rfl rfl) ?_
                      refine wd_done (by kernel_rfl) ?_
                      refine ex_seq ?_
                      refine cw_false rfl ?_
                      refine cw_skip ?_
                      obtain rfl := Option.some.inj h
                      exact ex_next [1, 2, 3, 4, 0, 5] (hn148 (as6_c_0, cs6_c_0, Fs6_c_0) trivial) ⟨rfl, rfl, rfl, rfl, rfl, rfl, rfl, rfl, rfl, rfl, trivial⟩ (by kernel_rfl)
            · skip
              replace h := bf c10 h
              have q20 := ltb_false.1 c10
              refine cw_exit ?_
              refine ex_then_exit ?_
              refine ex_then_exit ?_
              obtain rfl := Option.some.inj h
              have h := go_brk hk37
              refine ex_block_exit ?_
              refine ex_seq ?_
              refine cw_seq ?_
              refine cw_region ?_
              refine wl_u rfl (ow_y (yh_loadB Tb (k := 2) rfl rfl rfl rfl rfl) rfl rfl (kk_wl ?_))
              refine wl_u rfl (ow_y (yh_assign rfl rfl) rfl rfl (kk_wl ?_))
              refine wl_u rfl (ow_y (yh_assign rfl rfl) rfl rfl (kk_wl ?_))
              refine wl_nil ?_
              refine ex_seq ?_
              refine cw_ret ?_
              obtain rfl := Option.some.inj h
              exact ex_r2 Tb rfl (.tmp rfl) (.tmp rfl) (fun wq hq => ⟨_, rfl, hq.ext, ⟨as6_c_0, cs6_c_0, Fs6_c_0, rfl, NewC.sel [3] hq rfl⟩⟩)

def m_spec_l12Both_L5 (N : Nat) (f : Flow) (g : Flow) : Nat → Nat → Option (Ex (Nat) (Bool))
  | 0, _ => none
  | n + 1, s5 => (bif ltb ((s5 : Nat) : Int) ((f.steps.length : Nat) : Int) then (f.steps[s5]?).bind fun y18 => (m_spec_l2At N g.steps y18.name).bind fun x21 => (bif leb 0 x21 then some (Ex.ret true)
 else m_spec_l12Both_L5 N f g n (s5 + 1))
 else some (Ex.brk (s5)))

def m_spec_l12Both (N : Nat) (f : Flow) (g : Flow) : Option (Bool) := (m_spec_l12Both_L5 N f g N 0).bind fun e5 => e5.go (fun r => r) fun b5 => some false

set_option maxHeartbeats 4000000 in
theorem c_spec_l12Both (N : Nat) (f : Flow) (g : Flow) (res : Bool) (h : m_spec_l12Both N f g = some res) (w : World) {a_f_steps a_g_steps : Option Addr} {c_f_steps c_g_steps : Nat} (h_f_steps : stepsL.rd w [] [.slice a_f_steps f.steps.length c_f_steps] f.steps) (h_g_steps : stepsL.rd w [] [.slice a_g_steps g.steps.length c_g_steps] g.steps) : Ret Tryz.prog 43 [.agg #[.int .i64 f.ver, .slice a_f_steps f.steps.length c_f_steps], .agg #[.int .i64 g.ver, .slice a_g_steps g.steps.length c_g_steps]] w [] fun v w' => v = .bool res := by
  have mh_f_steps := rd_max h_f_steps
  have mh_g_steps := rd_max h_g_steps
  unfold m_spec_l12Both at h
  refine ret_enter Tryz.func43 rfl Tryz.ntmps43 rfl (Hp.refl w _) ?_
  refine cw_seq ?_
  refine cw_region ?_
  refine wl_u rfl (ow_boxA rfl rfl rfl rfl (fun g2 => kk_wl ?_))
  refine wl_u rfl (ow_boxA rfl rfl rfl rfl (fun g3 => kk_wl ?_))
  refine wl_u rfl (ow_y (yh_assign rfl rfl) rfl rfl (kk_wl ?_))
  refine wl_nil ?_
  refine ex_seq ?_
  refine cw_seq ?_
  refine cw_seq ?_
  refine cw_region ?_
  refine wl_u rfl (ow_y (yh_assign rfl rfl) rfl rfl (kk_wl ?_))
  refine wl_nil ?_
  refine ex_seq ?_
  refine cw_block ?_
  obtain ⟨e5, he5, hk5⟩ := bd h
  clear h
  refine cw_loopG (σ := Nat × Nat) (fun s => m_spec_l12Both_L5 N f g s.1 s.2 = some e5) (fun s => [(2, .pointer (some ⟨g2, 0, none⟩)), (3, .pointer (some ⟨g3, 0, none⟩)), (5, .int .i64 ((s.2 : Nat) : Int))]) (fun s => [blkC g2 25 [.int .i64 f.ver, .slice a_f_steps f.steps.length c_f_steps], blkC g3 25 [.int .i64 g.ver, .slice a_g_steps g.steps.length c_g_steps]]) (fun s => s.1) (N, 0) [1, 0] he5 ⟨rfl, rfl, rfl, trivial⟩ rfl (fun KL s he5 hn5 => ?_)
  obtain ⟨n5, s5⟩ := s
  simp only at he5 hn5 ⊢
  rcases n5 with _ | n5
  · exact nosome he5
  have h := he5; rw [m_spec_l12Both_L5] at h
  refine cw_seq ?_
  refine cw_seq ?_
  refine cw_region ?_
  refine wl_u rfl (ow_y (yh_move rfl rfl) rfl rfl (kk_wl ?_))
  refine wl_u rfl (ow_y (yh_field Tb rfl rfl rfl) rfl rfl (kk_wl ?_))
  refine wl_u rfl (ow_y (yh_loadB Tb (k := 0) rfl rfl rfl rfl rfl) rfl rfl (kk_wl ?_))
  refine wl_u rfl (ow_y (yh_lenS Tb rfl rfl rfl rfl) rfl rfl (kk_wl ?_))
  refine wl_u rfl (ow_y (yh_cmpI rfl rfl rfl rfl) rfl rfl (kk_wl ?_))
  refine wl_nil ?_
  refine ex_seq ?_
  refine cw_split rfl (fun c1 => ?_) (fun c1 => ?_)
  · skip
    replace h := bt c1 h
    have q1 := ltb_true.1 c1
    refine cw_skip ?_
    refine ex_seq ?_
    refine cw_seq ?_
    refine cw_block ?_
    refine cw_seq ?_
    refine cw_dr [0, 1, 2, 3, 4, 5, 6, 7, 9] [] [blkC g2 25 [.int .i64 f.ver, .slice a_f_steps f.steps.length c_f_steps], blkC g3 25 [.int .i64 g.ver, .slice a_g_steps g.steps.length c_g_steps]] (by kernel_rfl) ?_
    refine wd_take (i := 0) [0, 1] rfl rfl rfl rfl rfl (by kernel_rfl) (by kernel_rfl) (fun _ _ _ _ h => h) (yh_field Tb rfl rfl rfl) ?_
    refine wd_take (i := 1) [0, 1] rfl rfl rfl rfl rfl (by kernel_rfl) (by kernel_rfl) (fun _ _ _ _ h => h) (yh_loadB Tb (k := 1) rfl rfl rfl rfl rfl) ?_
    refine wd_take (i := 2) [0, 1] rfl rfl rfl rfl rfl (by kernel_rfl) (by kernel_rfl) (fun _ _ _ _ h => h) (yh_field Tb rfl rfl rfl) ?_
    refine wd_take (i := 3) [0, 1] rfl rfl rfl rfl rfl (by kernel_rfl) (by kernel_rfl) (fun _ _ _ _ h => h) (yh_loadB Tb (k := 0) rfl rfl rfl rfl rfl) ?_
    refine wd_take (i := 4) [0, 1] rfl rfl rfl rfl rfl (by kernel_rfl) (by kernel_rfl) (fun _ _ _ _ h => h) (yh_move rfl rfl) ?_
    obtain ⟨y18, hy18, h⟩ := bd h
    obtain ⟨b18, o18, ha18⟩ := sl_addr h_f_steps hy18
    subst ha18
    obtain ⟨a18, e18, hc18, hf18⟩ := get_step h_f_steps hy18
    have mx18 := rd_max hf18
    refine wd_take (i := 5) [0, 1] rfl rfl rfl rfl rfl (by kernel_rfl) (by kernel_rfl) (fun _ _ _ _ h => h) (yh_idx Tb (k := s5) rfl rfl rfl rfl (get_lt hy18) rfl rfl) ?_
    refine wd_take (i := 6) [0, 1] rfl rfl rfl rfl rfl (by kernel_rfl) (by kernel_rfl) (fun _ _ _ _ h => h) (yh_field Tb rfl rfl rfl) ?_
    refine wd_take (i := 7) [0, 1] rfl rfl rfl rfl rfl (by kernel_rfl) (by kernel_rfl) (fun _ _ _ _ h => h) (yh_loadAF Tb (j := 0) rfl rfl rfl hc18 rfl) ?_
    obtain ⟨x21, hx21, h⟩ := bd h
    refine wd_one 8 rfl rfl (by kernel_rfl) (ow_cV rfl hb84 rfl (fun w hw => c_spec_l2At N _ _ _ hx21 w (Lay.at_ h_g_steps hw)) rfl rfl (kk_wd [0, 1] (by kernel_rfl) ?_))
    refine wd_take (i := 9) [0, 1] rfl rfl rfl rfl rfl (by kernel_rfl) (by kernel_rfl) (fun _ _ _ _ h => h) (yh_cmpI rfl rfl rfl rfl) ?_
    refine wd_done (by kernel_rfl) ?_
    refine ex_seq ?_
    refine cw_split rfl (fun c2 => ?_) (fun c2 => ?_)
    · skip
      replace h := bt c2 h
      have q2 := leb_true.1 c2
      refine cw_seq ?_
      refine cw_region ?_
      refine wl_u rfl (ow_y (yh_assign rfl rfl) rfl rfl (kk_wl ?_))
      refine wl_nil ?_
      refine ex_seq ?_
      refine cw_ret ?_
      refine ex_block_ret ?_
      refine ex_then_ret ?_
      refine ex_then_ret ?_
      refine ex_block_ret ?_
      refine ex_then_ret ?_
      obtain rfl := Option.some.inj h
      obtain rfl := go_ret hk5
      exact ex_r1 Tb rfl (.tmp rfl) (fun wq hq => ⟨_, rfl, hq.ext, rfl⟩)
    · skip
      replace h := bf c2 h
      have q3 := leb_false.1 c2
      refine cw_skip ?_
      refine ex_block_normal ?_
      refine ex_seq ?_
      refine cw_region ?_
      refine wl_u rfl (ow_y (yh_move rfl rfl) rfl rfl (kk_wl ?_))
      refine wl_u rfl (ow_y (yh_arI rfl rfl rfl rfl (by omega)) rfl rfl (kk_wl ?_))
      refine wl_u rfl (ow_y (yh_assign rfl rfl) rfl rfl (kk_wl ?_))
      refine wl_nil ?_
      exact ex_next [0, 1] (hn5 (n5, s5 + 1) (Nat.lt_succ_self _) h) ⟨rfl, rfl, rfl, trivial⟩ (by kernel_rfl)
  · skip
    replace h := bf c1 h
    have q4 := ltb_false.1 c1
    refine cw_exit ?_
    refine ex_then_exit ?_
    refine ex_then_exit ?_
    obtain rfl := Option.some.inj h
    have h := go_brk hk5
    refine ex_block_exit ?_
    refine ex_seq ?_
    refine cw_seq ?_
    refine cw_region ?_
    refine wl_u rfl (ow_y (yh_assign rfl rfl) rfl rfl (kk_wl ?_))
    refine wl_nil ?_
    refine ex_seq ?_
    refine cw_ret ?_
    obtain rfl := Option.some.inj h
    exact ex_r1 Tb rfl (.tmp rfl) (fun wq hq => ⟨_, rfl, hq.ext, rfl⟩)

def m_spec_l12Same_L10 (N : Nat) (a : Step) (b : Step) : Nat → Nat → Option (Ex (Nat) (Bool))
  | 0, _ => none
  | n + 1, s5 => (bif ltb ((s5 : Nat) : Int) ((a.after.length : Nat) : Int) then (a.after[s5]?).bind fun y37 => (b.after[s5]?).bind fun y42 => (bif !(seq y37 y42) then some (Ex.ret false)
 else m_spec_l12Same_L10 N a b n (s5 + 1))
 else some (Ex.brk (s5)))

def m_spec_l12Same (N : Nat) (a : Step) (b : Step) : Option (Bool) := (bif !(seq a.name b.name) then some false
 else (bif a.undo != b.undo then some false
 else (bif !(eqb ((a.after.length : Nat) : Int) ((b.after.length : Nat) : Int)) then some false
 else (m_spec_l12Same_L10 N a b N 0).bind fun e10 => e10.go (fun r => r) fun b10 => some true)))

set_option maxHeartbeats 4000000 in
theorem c_spec_l12Same (N : Nat) (a : Step) (b : Step) (res : Bool) (h : m_spec_l12Same N a b = some res) (w : World) {a_a_after a_b_after : Option Addr} {c_a_after c_b_after : Nat} (h_a_after : strsL.rd w [] [.slice a_a_after a.after.length c_a_after] a.after) (h_b_after : strsL.rd w [] [.slice a_b_after b.after.length c_b_after] b.after) : Ret Tryz.prog 87 [.agg #[.string a.name, .slice a_a_after a.after.length c_a_after, .bool a.undo], .agg #[.string b.name, .slice a_b_after b.after.length c_b_after, .bool b.undo]] w [] fun v w' => v = .bool res := by
  have mh_a_after := rd_max h_a_after
  have mh_b_after := rd_max h_b_after
  unfold m_spec_l12Same at h
  refine ret_enter Tryz.func87 rfl Tryz.ntmps87 rfl (Hp.refl w _) ?_
  refine cw_seq ?_
  refine cw_region ?_
  refine wl_u rfl (ow_boxA rfl rfl rfl rfl (fun g2 => kk_wl ?_))
  refine wl_u rfl (ow_boxA rfl rfl rfl rfl (fun g3 => kk_wl ?_))
  refine wl_u rfl (ow_y (yh_assign rfl rfl) rfl rfl (kk_wl ?_))
  refine wl_nil ?_
  refine ex_seq ?_
  refine cw_seq ?_
  refine cw_seq ?_
  refine cw_region ?_
  refine wl_u rfl (ow_y (yh_field Tb rfl rfl rfl) rfl rfl (kk_wl ?_))
  refine wl_u rfl (ow_y (yh_loadB Tb (k := 1) rfl rfl rfl rfl rfl) rfl rfl (kk_wl ?_))
  refine wl_u rfl (ow_y (yh_field Tb rfl rfl rfl) rfl rfl (kk_wl ?_))
  refine wl_u rfl (ow_y (yh_loadB Tb (k := 0) rfl rfl rfl rfl rfl) rfl rfl (kk_wl ?_))
  refine wl_u rfl (ow_y (yh_cmpS rfl rfl rfl rfl) rfl rfl (kk_wl ?_))
  refine wl_u rfl (ow_y (yh_move rfl rfl) rfl rfl (kk_wl ?_))
  refine wl_s rfl rfl (fun c1 => ?_) (fun c1 => ?_)
  · skip
    replace h := bt c1 h
    refine wl_n rfl rfl rfl rfl ?_
    refine wl_n rfl rfl rfl rfl ?_
    refine wl_n rfl rfl rfl rfl ?_
    refine wl_n rfl rfl rfl rfl ?_
    refine wl_n rfl rfl rfl rfl ?_
    refine wl_u rfl (ow_y (yh_pickT rfl rfl rfl) rfl rfl (kk_wl ?_))
    refine wl_u rfl (ow_y (yh_move rfl rfl) rfl rfl (kk_wl ?_))
    refine wl_s rfl rfl (fun _ => ?_) nofun
    refine wl_n rfl rfl rfl rfl ?_
    refine wl_n rfl rfl rfl rfl ?_
    refine wl_n rfl rfl rfl rfl ?_
    refine wl_n rfl rfl rfl rfl ?_
    refine wl_n rfl rfl rfl rfl ?_
    refine wl_n rfl rfl rfl rfl ?_
    refine wl_n rfl rfl rfl rfl ?_
    refine wl_u rfl (ow_y (yh_pickT rfl rfl rfl) rfl rfl (kk_wl ?_))
    refine wl_nil ?_
    refine ex_seq ?_
    refine cw_true rfl ?_
    refine cw_seq ?_
    refine cw_region ?_
    refine wl_u rfl (ow_y (yh_assign rfl rfl) rfl rfl (kk_wl ?_))
    refine wl_nil ?_
    refine ex_seq ?_
    refine cw_ret ?_
    refine ex_then_ret ?_
    obtain rfl := Option.some.inj h
    exact ex_r1 Tb rfl (.tmp rfl) (fun wq hq => ⟨_, rfl, hq.ext, rfl⟩)
  · skip
    replace h := bf c1 h
    refine wl_g rfl rfl (ow_y (yh_field Tb rfl rfl rfl) rfl rfl (kk_wl ?_))
    refine wl_g rfl rfl (ow_y (yh_loadB Tb (k := 1) rfl rfl rfl rfl rfl) rfl rfl (kk_wl ?_))
    refine wl_g rfl rfl (ow_y (yh_field Tb rfl rfl rfl) rfl rfl (kk_wl ?_))
    refine wl_g rfl rfl (ow_y (yh_loadB Tb (k := 0) rfl rfl rfl rfl rfl) rfl rfl (kk_wl ?_))
    refine wl_g rfl rfl (ow_y (yh_cmpB rfl rfl rfl rfl (by kernel_rfl)) rfl rfl (kk_wl ?_))
    refine wl_u rfl (ow_y (yh_pickF rfl rfl rfl) rfl rfl (kk_wl ?_))
    refine wl_u rfl (ow_y (yh_move rfl rfl) rfl rfl (kk_wl ?_))
    refine wl_s rfl rfl (fun c2 => ?_) (fun c2 => ?_)
    · skip
      replace h := bt c2 h
      refine wl_n rfl rfl rfl rfl ?_
      refine wl_n rfl rfl rfl rfl ?_
      refine wl_n rfl rfl rfl rfl ?_
      refine wl_n rfl rfl rfl rfl ?_
      refine wl_n rfl rfl rfl rfl ?_
      refine wl_n rfl rfl rfl rfl ?_
      refine wl_n rfl rfl rfl rfl ?_
      refine wl_u rfl (ow_y (yh_pickT rfl rfl rfl) rfl rfl (kk_wl ?_))
      refine wl_nil ?_
      refine ex_seq ?_
      refine cw_true rfl ?_
      refine cw_seq ?_
      refine cw_region ?_
      refine wl_u rfl (ow_y (yh_assign rfl rfl) rfl rfl (kk_wl ?_))
      refine wl_nil ?_
      refine ex_seq ?_
      refine cw_ret ?_
      refine ex_then_ret ?_
      obtain rfl := Option.some.inj h
      exact ex_r1 Tb rfl (.tmp rfl) (fun wq hq => ⟨_, rfl, hq.ext, rfl⟩)
    · skip
      replace h := bf c2 h
      refine wl_g rfl rfl (ow_y (yh_field Tb rfl rfl rfl) rfl rfl (kk_wl ?_))
      refine wl_g rfl rfl (ow_y (yh_loadB Tb (k := 1) rfl rfl rfl rfl rfl) rfl rfl (kk_wl ?_))
      refine wl_g rfl rfl (ow_y (yh_lenS Tb rfl rfl rfl rfl) rfl rfl (kk_wl ?_))
      refine wl_g rfl rfl (ow_y (yh_field Tb rfl rfl rfl) rfl rfl (kk_wl ?_))
      refine wl_g rfl rfl (ow_y (yh_loadB Tb (k := 0) rfl rfl rfl rfl rfl) rfl rfl (kk_wl ?_))
      refine wl_g rfl rfl (ow_y (yh_lenS Tb rfl rfl rfl rfl) rfl rfl (kk_wl ?_))
      refine wl_g rfl rfl (ow_y (yh_cmpI rfl rfl rfl rfl) rfl rfl (kk_wl ?_))
      refine wl_u rfl (ow_y (yh_pickF rfl rfl rfl) rfl rfl (kk_wl ?_))
      refine wl_nil ?_
      refine ex_seq ?_
      refine cw_split rfl (fun c3 => ?_) (fun c3 => ?_)
      · skip
        replace h := bt c3 h
        have q1 := eqb_false.1 (nt c3)
        refine cw_seq ?_
        refine cw_region ?_
        refine wl_u rfl (ow_y (yh_assign rfl rfl) rfl rfl (kk_wl ?_))
        refine wl_nil ?_
        refine ex_seq ?_
        refine cw_ret ?_
        refine ex_then_ret ?_
        obtain rfl := Option.some.inj h
        exact ex_r1 Tb rfl (.tmp rfl) (fun wq hq => ⟨_, rfl, hq.ext, rfl⟩)
      · skip
        replace h := bf c3 h
        have q2 := eqb_true.1 (nf c3)
        refine cw_skip ?_
        refine ex_seq ?_
        refine cw_seq ?_
        refine cw_seq ?_
        refine cw_region ?_
        refine wl_u rfl (ow_y (yh_assign rfl rfl) rfl rfl (kk_wl ?_))
        refine wl_nil ?_
        refine ex_seq ?_
        refine cw_block ?_
        obtain ⟨e10, he10, hk10⟩ := bd h
        clear h
        refine cw_loopG (σ := Nat × Nat) (fun s => m_spec_l12Same_L10 N a b s.1 s.2 = some e10) (fun s => [(2, .pointer (some ⟨g2, 0, none⟩)), (3, .pointer (some ⟨g3, 0, none⟩)), (5, .int .i64 ((s.2 : Nat) : Int))]) (fun s => [blkC g2 49 [.string a.name, .slice a_a_after a.after.length c_a_after, .bool a.undo], blkC g3 49 [.string b.name, .slice a_b_after b.after.length c_b_after, .bool b.undo]]) (fun s => s.1) (N, 0) [1, 0] he10 ⟨rfl, rfl, rfl, trivial⟩ rfl (fun KL s he10 hn10 => ?_)
        obtain ⟨n10, s5⟩ := s
        simp only at he10 hn10 ⊢
        rcases n10 with _ | n10
        · exact nosome he10
        have h := he10; rw [m_spec_l12Same_L10] at h
        refine cw_seq ?_
        refine cw_seq ?_
        refine cw_region ?_
        refine wl_u rfl (ow_y (yh_move rfl rfl) rfl rfl (kk_wl ?_))
        refine wl_u rfl (ow_y (yh_field Tb rfl rfl rfl) rfl rfl (kk_wl ?_))
        refine wl_u rfl (ow_y (yh_loadB Tb (k := 0) rfl rfl rfl rfl rfl) rfl rfl (kk_wl ?_))
        refine wl_u rfl (ow_y (yh_lenS Tb rfl rfl rfl rfl) rfl rfl (kk_wl ?_))
        refine wl_u rfl (ow_y (yh_cmpI rfl rfl rfl rfl) rfl rfl (kk_wl ?_))
        refine wl_nil ?_
        refine ex_seq ?_
        refine cw_split rfl (fun c4 => ?_) (fun c4 => ?_)
        · skip
          replace h := bt c4 h
          have q3 := ltb_true.1 c4
          refine cw_skip ?_
          refine ex_seq ?_
          refine cw_seq ?_
          refine cw_block ?_
          refine cw_seq ?_
          refine cw_dr [0, 1, 2, 3, 4, 5, 6, 7, 8, 9, 10] [] [blkC g2 49 [.string a.name, .slice a_a_after a.after.length c_a_after, .bool a.undo], blkC g3 49 [.string b.name, .slice a_b_after b.after.length c_b_after, .bool b.undo]] (by kernel_rfl) ?_
          refine wd_take (i := 0) [0, 1] rfl rfl rfl rfl rfl (by kernel_rfl) (by kernel_rfl) (fun _ _ _ _ h => h) (yh_field Tb rfl rfl rfl) ?_
          refine wd_take (i := 1) [0, 1] rfl rfl rfl rfl rfl (by kernel_rfl) (by kernel_rfl) (fun _ _ _ _ h => h) (yh_loadB Tb (k := 0) rfl rfl rfl rfl rfl) ?_
          refine wd_take (i := 2) [0, 1] rfl rfl rfl rfl rfl (by kernel_rfl) (by kernel_rfl) (fun _ _ _ _ h => h) (yh_move rfl rfl) ?_
          obtain ⟨y37, hy37, h⟩ := bd h
          obtain ⟨b37, o37, ha37⟩ := sl_addr h_a_after hy37
          subst ha37
          have hc37 := get_str h_a_after hy37
          refine wd_take (i := 3) [0, 1] rfl rfl rfl rfl rfl (by kernel_rfl) (by kernel_rfl) (fun _ _ _ _ h => h) (yh_idx Tb (k := s5) rfl rfl rfl rfl (get_lt hy37) rfl rfl) ?_
          refine wd_take (i := 4) [0, 1] rfl rfl rfl rfl rfl (by kernel_rfl) (by kernel_rfl) (fun _ _ _ _ h => h) (yh_loadA0 Tb rfl rfl rfl hc37 rfl) ?_
          refine wd_take (i := 5) [0, 1] rfl rfl rfl rfl rfl (by kernel_rfl) (by kernel_rfl) (fun _ _ _ _ h => h) (yh_field Tb rfl rfl rfl) ?_
          refine wd_take (i := 6) [0, 1] rfl rfl rfl rfl rfl (by kernel_rfl) (by kernel_rfl) (fun _ _ _ _ h => h) (yh_loadB Tb (k := 1) rfl rfl rfl rfl rfl) ?_
          refine wd_take (i := 7) [0, 1] rfl rfl rfl rfl rfl (by kernel_rfl) (by kernel_rfl) (fun _ _ _ _ h => h) (yh_move rfl rfl) ?_
          obtain ⟨y42, hy42, h⟩ := bd h
          obtain ⟨b42, o42, ha42⟩ := sl_addr h_b_after hy42
          subst ha42
          have hc42 := get_str h_b_after hy42
          refine wd_take (i := 8) [0, 1] rfl rfl rfl rfl rfl (by kernel_rfl) (by kernel_rfl) (fun _ _ _ _ h => h) (yh_idx Tb (k := s5) rfl rfl rfl rfl (get_lt hy42) rfl rfl) ?_
          refine wd_take (i := 9) [0, 1] rfl rfl rfl rfl rfl (by kernel_rfl) (by kernel_rfl) (fun _ _ _ _ h => h) (yh_loadA0 Tb rfl rfl rfl hc42 rfl) ?_
          refine wd_take (i := 10) [0, 1] rfl rfl rfl rfl rfl (by kernel_rfl) (by kernel_rfl) (fun _ _ _ _ h => h) (yh_cmpS rfl rfl rfl rfl) ?_
          refine wd_done (by kernel_rfl) ?_
          refine ex_seq ?_
          refine cw_split rfl (fun c5 => ?_) (fun c5 => ?_)
          · skip
            replace h := bt c5 h
            refine cw_seq ?_
            refine cw_region ?_
            refine wl_u rfl (ow_y (yh_assign rfl rfl) rfl rfl (kk_wl ?_))
            refine wl_nil ?_
            refine ex_seq ?_
            refine cw_ret ?_
            refine ex_block_ret ?_
            refine ex_then_ret ?_
            refine ex_then_ret ?_
            refine ex_block_ret ?_
            refine ex_then_ret ?_
            obtain rfl := Option.some.inj h
            obtain rfl := go_ret hk10
            exact ex_r1 Tb rfl (.tmp rfl) (fun wq hq => ⟨_, rfl, hq.ext, rfl⟩)
          · skip
            replace h := bf c5 h
            refine cw_skip ?_
            refine ex_block_normal ?_
            refine ex_seq ?_
            refine cw_region ?_
            refine wl_u rfl (ow_y (yh_move rfl rfl) rfl rfl (kk_wl ?_))
            refine wl_u rfl (ow_y (yh_arI rfl rfl rfl rfl (by omega)) rfl rfl (kk_wl ?_))
            refine wl_u rfl (ow_y (yh_assign rfl rfl) rfl rfl (kk_wl ?_))
            refine wl_nil ?_
            exact ex_next [0, 1] (hn10 (n10, s5 + 1) (Nat.lt_succ_self _) h) ⟨rfl, rfl, rfl, trivial⟩ (by kernel_rfl)
        · skip
          replace h := bf c4 h
          have q4 := ltb_false.1 c4
          refine cw_exit ?_
          refine ex_then_exit ?_
          refine ex_then_exit ?_
          obtain rfl := Option.some.inj h
          have h := go_brk hk10
          refine ex_block_exit ?_
          refine ex_seq ?_
          refine cw_seq ?_
          refine cw_region ?_
          refine wl_u rfl (ow_y (yh_assign rfl rfl) rfl rfl (kk_wl ?_))
          refine wl_nil ?_
          refine ex_seq ?_
          refine cw_ret ?_
          obtain rfl := Option.some.inj h
          exact ex_r1 Tb rfl (.tmp rfl) (fun wq hq => ⟨_, rfl, hq.ext, rfl⟩)

def m_spec_l12Free_L6 (N : Nat) (f : Flow) (g : Flow) : Nat → (List Change) → Nat → Option (Ex (List Change × Nat) (List Change))
  | 0, _, _ => none
  | n + 1, s5, s6 => (bif ltb ((s6 : Nat) : Int) ((f.steps.length : Nat) : Int) then (f.steps[s6]?).bind fun y20 => (m_spec_l2At N g.steps y20.name).bind fun x26 => (bif leb 0 x26 then (bif ltb 0 ((y20.after.length : Nat) : Int) then (geti g.steps x26).bind fun y42 => (m_spec_l12Same N y20 (Step.mk y20.name y42.after y20.undo)).bind fun x48 => (bif !x48 then (appd s5 ([(Change.mk 3 (Step.mk y20.name ([] : List Str) false))])).bind fun l58 => m_spec_l12Free_L6 N f g n (s5 ++ ([(Change.mk 3 (Step.mk y20.name ([] : List Str) false))])) (s6 + 1)
 else m_spec_l12Free_L6 N f g n s5 (s6 + 1))
 else m_spec_l12Free_L6 N f g n s5 (s6 + 1))
 else m_spec_l12Free_L6 N f g n s5 (s6 + 1))
 else some (Ex.brk (s5, s6)))

def m_spec_l12Free (N : Nat) (f : Flow) (g : Flow) : Option (List Change) := (m_spec_l12Free_L6 N f g N ([] : List Change) 0).bind fun e6 => e6.go (fun r => r) fun b6 => some b6.1

set_option maxHeartbeats 4000000 in
theorem c_spec_l12Free (N : Nat) (f : Flow) (g : Flow) (res : List Change) (h : m_spec_l12Free N f g = some res) (w : World) {a_f_steps a_g_steps : Option Addr} {c_f_steps c_g_steps : Nat} (h_f_steps : stepsL.rd w [] [.slice a_f_steps f.steps.length c_f_steps] f.steps) (h_g_steps : stepsL.rd w [] [.slice a_g_steps g.steps.length c_g_steps] g.steps) : Ret Tryz.prog 44 [.agg #[.int .i64 f.ver, .slice a_f_steps f.steps.length c_f_steps], .agg #[.int .i64 g.ver, .slice a_g_steps g.steps.length c_g_steps]] w [] fun v w' => ∃ a1 c1 F1, v = .slice a1 res.length c1 ∧ NewC w w' [owC changesL F1 [.slice a1 res.length c1] res] := by
  have mh_f_steps := rd_max h_f_steps
  have mh_g_steps := rd_max h_g_steps
  unfold m_spec_l12Free at h
  refine ret_enter Tryz.func44 rfl Tryz.ntmps44 rfl (Hp.refl w _) ?_
  refine cw_seq ?_
  refine cw_region ?_
  refine wl_u rfl (ow_boxA rfl rfl rfl rfl (fun g2 => kk_wl ?_))
  refine wl_u rfl (ow_boxA rfl rfl rfl rfl (fun g3 => kk_wl ?_))
  refine wl_u rfl (ow_y (yh_assign rfl rfl) rfl rfl (kk_wl ?_))
  refine wl_nil ?_
  refine ex_seq ?_
  refine cw_seq ?_
  refine cw_region ?_
  refine wl_u rfl (ow_lit0 Tb rfl rfl rfl rfl rfl rfl (fun g9 => kk_chg (c' := owC changesL [g9] [.slice (some ⟨g9, 0, none⟩) 0 0] ([] : List Change)) 0 rfl (fun w hA => own_changesL ([] : List Change) hA rfl (by simp [maxLen])) rfl (kk_wl ?_)))
  refine wl_u rfl (ow_y (yh_assign rfl rfl) rfl rfl (kk_wl ?_))
  refine wl_nil ?_
  refine ex_seq ?_
  refine cw_seq ?_
  refine cw_seq ?_
  refine cw_region ?_
  refine wl_u rfl (ow_y (yh_assign rfl rfl) rfl rfl (kk_wl ?_))
  refine wl_nil ?_
  refine ex_seq ?_
  refine cw_block ?_
  obtain ⟨e6, he6, hk6⟩ := bd h
  clear h
  refine cw_loopG (σ := Nat × (List Change) × Nat × (Option Addr) × Nat × (List Nat)) (fun s => m_spec_l12Free_L6 N f g s.1 s.2.1 s.2.2.1 = some e6) (fun s => [(2, .pointer (some ⟨g2, 0, none⟩)), (3, .pointer (some ⟨g3, 0, none⟩)), (5, .slice s.2.2.2.1 s.2.1.length s.2.2.2.2.1), (6, .int .i64 ((s.2.2.1 : Nat) : Int))]) (fun s => [blkC g2 25 [.int .i64 f.ver, .slice a_f_steps f.steps.length c_f_steps], blkC g3 25 [.int .i64 g.ver, .slice a_g_steps g.steps.length c_g_steps], owC changesL s.2.2.2.2.2 [.slice s.2.2.2.1 s.2.1.length s.2.2.2.2.1] s.2.1]) (fun s => s.1) (N, ([] : List Change), 0, (some ⟨g9, 0, none⟩), 0, [g9]) [2, 1, 0] he6 ⟨rfl, rfl, rfl, rfl, trivial⟩ rfl (fun KL s he6 hn6 => ?_)
  obtain ⟨n6, s5, s6, as5, cs5, Fs5⟩ := s
  simp only at he6 hn6 ⊢
  rcases n6 with _ | n6
  · exact nosome he6
  have h := he6; rw [m_spec_l12Free_L6] at h
  refine cw_seq ?_
  refine cw_seq ?_
  refine cw_region ?_
  refine wl_u rfl (ow_y (yh_move rfl rfl) rfl rfl (kk_wl ?_))
  refine wl_u rfl (ow_y (yh_field Tb rfl rfl rfl) rfl rfl (kk_wl ?_))
  refine wl_u rfl (ow_y (yh_loadB Tb (k := 0) rfl rfl rfl rfl rfl) rfl rfl (kk_wl ?_))
  refine wl_u rfl (ow_y (yh_lenS Tb rfl rfl rfl rfl) rfl rfl (kk_wl ?_))
  refine wl_u rfl (ow_y (yh_cmpI rfl rfl rfl rfl) rfl rfl (kk_wl ?_))
  refine wl_nil ?_
  refine ex_seq ?_
  refine cw_split rfl (fun c1 => ?_) (fun c1 => ?_)
  · skip
    replace h := bt c1 h
    have q1 := ltb_true.1 c1
    refine cw_skip ?_
    refine ex_seq ?_
    refine cw_seq ?_
    refine cw_block ?_
    refine cw_seq ?_
    refine cw_region ?_
    refine wl_u rfl (ow_y (yh_field Tb rfl rfl rfl) rfl rfl (kk_wl ?_))
    refine wl_u rfl (ow_y (yh_loadB Tb (k := 0) rfl rfl rfl rfl rfl) rfl rfl (kk_wl ?_))
    refine wl_u rfl (ow_y (yh_move rfl rfl) rfl rfl (kk_wl ?_))
    obtain ⟨y20, hy20, h⟩ := bd h
    obtain ⟨b20, o20, ha20⟩ := sl_addr h_f_steps hy20
    subst ha20
    obtain ⟨a20, e20, hc20, hf20⟩ := get_step h_f_steps hy20
    have mx20 := rd_max hf20
    refine wl_u rfl (ow_y (yh_idx Tb (k := s6) rfl rfl rfl rfl (get_lt hy20) rfl rfl) rfl rfl (kk_wl ?_))
    refine wl_u rfl (ow_y (yh_loadAN Tb rfl rfl rfl rfl hc20 rfl) rfl rfl (kk_wl ?_))
    refine wl_u rfl (ow_allocA Tb rfl rfl rfl rfl (fun g7 => kk_wl ?_))
    refine wl_u rfl (ow_storeA Tb (k := 0) rfl rfl rfl rfl rfl rfl rfl rfl rfl (kk_wl ?_))
    refine wl_nil ?_
    refine ex_seq ?_
    refine cw_seq ?_
    refine cw_region ?_
    refine wl_u rfl (ow_y (yh_field Tb rfl rfl rfl) rfl rfl (kk_wl ?_))
    refine wl_u rfl (ow_y (yh_loadB Tb (k := 2) rfl rfl rfl rfl rfl) rfl rfl (kk_wl ?_))
    refine wl_u rfl (ow_y (yh_field Tb rfl rfl rfl) rfl rfl (kk_wl ?_))
    refine wl_u rfl (ow_y (yh_loadB Tb (k := 0) rfl rfl rfl rfl rfl) rfl rfl (kk_wl ?_))
    obtain ⟨x26, hx26, h⟩ := bd h
    refine wl_u rfl (ow_cV rfl hb84 rfl (fun w hw => c_spec_l2At N _ _ _ hx26 w (Lay.at_ h_g_steps hw)) rfl rfl (kk_wl ?_))
    refine wl_u rfl (ow_y (yh_assign rfl rfl) rfl rfl (kk_wl ?_))
    refine wl_nil ?_
    refine ex_seq ?_
    refine cw_seq ?_
    refine cw_dr [0, 1, 2, 3, 4, 5, 6, 7, 8, 9, 10, 11, 12, 13, 14, 15, 16, 17, 18, 19, 20, 22, 23] [] [blkC g7 49 [.string y20.name, .slice a20 y20.after.length e20, .bool y20.undo], blkC g2 25 [.int .i64 f.ver, .slice (some ⟨b20, o20, none⟩) f.steps.length c_f_steps], blkC g3 25 [.int .i64 g.ver, .slice a_g_steps g.steps.length c_g_steps], owC changesL Fs5 [.slice as5 s5.length cs5] s5] (by kernel_rfl) ?_
    refine wd_take (i := 0) [0, 1, 2, 3] rfl rfl rfl rfl rfl (by kernel_rfl) (by kernel_rfl) (fun _ _ _ _ h => h) (yh_move rfl rfl) ?_
    refine wd_take (i := 1) [0, 1, 2, 3] rfl rfl rfl rfl rfl (by kernel_rfl) (by kernel_rfl) (fun _ _ _ _ h => h) (yh_cmpI rfl rfl rfl rfl) ?_
    refine wd_take (i := 2) [0, 1, 2, 3] rfl rfl rfl rfl rfl (by kernel_rfl) (by kernel_rfl) (fun _ _ _ _ h => h) (yh_move rfl rfl) ?_
    refine wd_split 3 rfl rfl rfl (fun c2 => ?_) (fun c2 => ?_)
    · skip
      replace h := bt c2 h
      have q2 := leb_true.1 c2
      refine wd_take (i := 3) [0, 1, 2, 3] rfl rfl rfl rfl rfl (by kernel_rfl) (by kernel_rfl) (fun _ _ _ _ h => h) (yh_field Tb rfl rfl rfl) ?_
      refine wd_take (i := 4) [0, 1, 2, 3] rfl rfl rfl rfl rfl (by kernel_rfl) (by kernel_rfl) (fun _ _ _ _ h => h) (yh_loadB Tb (k := 0) rfl rfl rfl rfl rfl) ?_
      refine wd_take (i := 5) [0, 1, 2, 3] rfl rfl rfl rfl rfl (by kernel_rfl) (by kernel_rfl) (fun _ _ _ _ h => h) (yh_lenS Tb rfl rfl rfl rfl) ?_
      refine wd_take (i := 6) [0, 1, 2, 3] rfl rfl rfl rfl rfl (by kernel_rfl) (by kernel_rfl) (fun _ _ _ _ h => h) (yh_cmpI rfl rfl rfl rfl) ?_
      refine wd_take (i := 7) [0, 1, 2, 3] rfl rfl rfl rfl rfl (by kernel_rfl) (by kernel_rfl) (fun _ _ _ _ h => h) (yh_pickT rfl rfl rfl) ?_
      refine wd_take (i := 8) [0, 1, 2, 3] rfl rfl rfl rfl rfl (by kernel_rfl) (by kernel_rfl) (fun _ _ _ _ h => h) (yh_move rfl rfl) ?_
      refine wd_split 9 rfl rfl rfl (fun c3 => ?_) (fun c3 => ?_)
      · skip
        replace h := bt c3 h
        have q3 := ltb_true.1 c3
        refine wd_take (i := 9) [0, 1, 2, 3] rfl rfl rfl rfl rfl (by kernel_rfl) (by kernel_rfl) (fun _ _ _ _ h => h) (yh_loadBA Tb (k := 0) rfl rfl rfl rfl rfl rfl) ?_
        refine wd_take (i := 10) [0, 1, 2, 3] rfl rfl rfl rfl rfl (by kernel_rfl) (by kernel_rfl) (fun _ _ _ _ h => h) (yh_field Tb rfl rfl rfl) ?_
        refine wd_take (i := 11) [0, 1, 2, 3] rfl rfl rfl rfl rfl (by kernel_rfl) (by kernel_rfl) (fun _ _ _ _ h => h) (yh_loadB Tb (k := 0) rfl rfl rfl rfl rfl) ?_
        refine wd_take (i := 12) [0, 1, 2, 3] rfl rfl rfl rfl rfl (by kernel_rfl) (by kernel_rfl) (fun _ _ _ _ h => h) (yh_field Tb rfl rfl rfl) ?_
        refine wd_take (i := 13) [0, 1, 2, 3] rfl rfl rfl rfl rfl (by kernel_rfl) (by kernel_rfl) (fun _ _ _ _ h => h) (yh_loadB Tb (k := 2) rfl rfl rfl rfl rfl) ?_
        refine wd_take (i := 14) [0, 1, 2, 3] rfl rfl rfl rfl rfl (by kernel_rfl) (by kernel_rfl) (fun _ _ _ _ h => h) (yh_move rfl rfl) ?_
        obtain ⟨y42, zy42, h⟩ := bd h
        obtain ⟨iy42, hy42⟩ := geti_some zy42
        obtain ⟨b42, o42, ha42⟩ := sl_addr h_g_steps hy42
        subst ha42
        obtain ⟨a42, e42, hc42, hf42⟩ := get_step h_g_steps hy42
        have mx42 := rd_max hf42
        refine wd_take (i := 15) [0, 1, 2, 3] rfl rfl rfl rfl rfl (by kernel_rfl) (by kernel_rfl) (fun _ _ _ _ h => h) (yh_idx Tb (k := x26.toNat) rfl rfl rfl iy42 (get_lt hy42) rfl rfl) ?_
        refine wd_take (i := 16) [0, 1, 2, 3] rfl rfl rfl rfl rfl (by kernel_rfl) (by kernel_rfl) (fun _ _ _ _ h => h) (yh_field Tb rfl rfl rfl) ?_
        refine wd_take (i := 17) [0, 1, 2, 3] rfl rfl rfl rfl rfl (by kernel_rfl) (by kernel_rfl) (fun _ _ _ _ h => h) (yh_loadAF Tb (j := 1) rfl rfl rfl hc42 rfl) ?_
        refine wd_take (i := 18) [0, 1, 2, 3] rfl rfl rfl rfl rfl (by kernel_rfl) (by kernel_rfl) (fun _ _ _ _ h => h) (yh_field Tb rfl rfl rfl) ?_
        refine wd_take (i := 19) [0, 1, 2, 3] rfl rfl rfl rfl rfl (by kernel_rfl) (by kernel_rfl) (fun _ _ _ _ h => h) (yh_loadB Tb (k := 0) rfl rfl rfl rfl rfl) ?_
        refine wd_take (i := 20) [0, 1, 2, 3] rfl rfl rfl rfl rfl (by kernel_rfl) (by kernel_rfl) (fun _ _ _ _ h => h) (yh_buildA rfl rfl (by kernel_rfl)) ?_
        obtain ⟨x48, hx48, h⟩ := bd h
        refine wd_one 21 rfl rfl (by kernel_rfl) (ow_cV rfl hb87 rfl (fun w hw => c_spec_l12Same N _ _ _ hx48 w (Lay.at_ hf20 hw) (Lay.at_ hf42 hw)) rfl rfl (kk_wd [0, 1, 2, 3] (by kernel_rfl) ?_))
        refine wd_take (i := 22) [0, 1, 2, 3] rfl rfl rfl rfl rfl (by kernel_rfl) (by kernel_rfl) (fun _ _ _ _ h => h) (yh_not rfl rfl) ?_
        refine wd_take (i := 23) [0, 1, 2, 3] rfl rfl rfl rfl rfl (by kernel_rfl) (by kernel_rfl) (fun _ _ _ _ h => h) (yh_pickT rfl rfl rfl) ?_
        refine wd_done (by kernel_rfl) ?_
        refine ex_seq ?_
        refine cw_split rfl (fun c4 => ?_) (fun c4 => ?_)
        · skip
          replace h := bt c4 h
          refine cw_region ?_
          refine wl_u rfl (ow_y (yh_move rfl rfl) rfl rfl (kk_wl ?_))
          refine wl_u rfl (ow_y (yh_field Tb rfl rfl rfl) rfl rfl (kk_wl ?_))
          refine wl_u rfl (ow_y (yh_loadB Tb (k := 0) rfl rfl rfl rfl rfl) rfl rfl (kk_wl ?_))
          refine wl_u rfl (ow_lit0 Tb rfl rfl rfl rfl rfl rfl (fun g54 => kk_chg (c' := owC strsL [g54] [.slice (some ⟨g54, 0, none⟩) 0 0] ([] : List Str)) 0 rfl (fun w hA => own_strsL ([] : List Str) hA rfl (by simp [maxLen])) rfl (kk_wl ?_)))
          refine wl_u rfl (ow_y (yh_build [.string y20.name, .slice (some ⟨g54, 0, none⟩) 0 0, .bool false] rfl rfl (by kernel_rfl)) rfl rfl (kk_wl ?_))
          refine wl_u rfl (ow_y (yh_build [.int .i64 3, .string y20.name, .slice (some ⟨g54, 0, none⟩) 0 0, .bool false] rfl rfl (by kernel_rfl)) rfl rfl (kk_wl ?_))
          refine wl_u rfl (ow_litA Tb rfl rfl rfl rfl rfl rfl (by decide) rfl rfl (fun g57 => kk_wl ?_))
          obtain ⟨hll58, h⟩ := bd_appd h
          refine wl_u rfl (ow_chg (c' := owC changeL [g54] [.int .i64 3, .string y20.name, .slice (some ⟨g54, 0, none⟩) 0 0, .bool false] (Change.mk 3 (Step.mk y20.name ([] : List Str) false))) 1 rfl (fun w hA => changeL_mk (Change.mk 3 (Step.mk y20.name ([] : List Str) false)) hA) rfl (ow_appE Tb (i := 5) (j := 0) (k := 1) rfl rfl rfl rfl rfl rfl rfl rfl rfl rfl rfl (app1 hll58) (by decide) rfl rfl (fun a58 c58 F58 => kk_wl ?_)))
          refine wl_u rfl (ow_y (yh_assign rfl rfl) rfl rfl (kk_wl ?_))
          refine wl_nil ?_
          refine ex_block_normal ?_
          refine ex_seq ?_
          refine cw_region ?_
          refine wl_u rfl (ow_y (yh_move rfl rfl) rfl rfl (kk_wl ?_))
          refine wl_u rfl (ow_y (yh_arI rfl rfl rfl rfl (by omega)) rfl rfl (kk_wl ?_))
          refine wl_u rfl (ow_y (yh_assign rfl rfl) rfl rfl (kk_wl ?_))
          refine wl_nil ?_
          exact ex_next [3, 4, 0] (hn6 (n6, (s5 ++ ([(Change.mk 3 (Step.mk y20.name ([] : List Str) false))])), s6 + 1, a58, c58, F58) (Nat.lt_succ_self _) h) ⟨rfl, rfl, rfl, rfl, trivial⟩ (by kernel_rfl)
        · skip
          replace h := bf c4 h
          refine cw_skip ?_
          refine ex_block_normal ?_
          refine ex_seq ?_
          refine cw_region ?_
          refine wl_u rfl (ow_y (yh_move rfl rfl) rfl rfl (kk_wl ?_))
          refine wl_u rfl (ow_y (yh_arI rfl rfl rfl rfl (by omega)) rfl rfl (kk_wl ?_))
          refine wl_u rfl (ow_y (yh_assign rfl rfl) rfl rfl (kk_wl ?_))
          refine wl_nil ?_
          exact ex_next [1, 2, 3] (hn6 (n6, s5, s6 + 1, as5, cs5, Fs5) (Nat.lt_succ_self _) h) ⟨rfl, rfl, rfl, rfl, trivial⟩ (by kernel_rfl)
      · skip
        replace h := bf c3 h
        have q4 := ltb_false.1 c3
        refine wd_skip (i := 9) [0, 1, 2, 3] rfl rfl rfl rfl (by kernel_rfl) (by kernel_rfl) (fun _ _ _ h => h) ?_
        refine wd_skip (i := 10) [0, 1, 2, 3] rfl rfl rfl rfl (by kernel_rfl) (by kernel_rfl) (fun _ _ _ h => h) ?_
        refine wd_skip (i := 11) [0, 1, 2, 3] rfl rfl rfl rfl (by kernel_rfl) (by kernel_rfl) (fun _ _ _ h => h) ?_
        refine wd_skip (i := 12) [0, 1, 2, 3] rfl rfl rfl rfl (by kernel_rfl) (by kernel_rfl) (fun _ _ _ h => h) ?_
        refine wd_skip (i := 13) [0, 1, 2, 3] rfl rfl rfl rfl (by kernel_rfl) (by kernel_rfl) (fun _ _ _ h => h) ?_
        refine wd_skip (i := 14) [0, 1, 2, 3] rfl rfl rfl rfl (by kernel_rfl) (by kernel_rfl) (fun _ _ _ h => h) ?_
        refine wd_skip (i := 15) [0, 1, 2, 3] rfl rfl rfl rfl (by kernel_rfl) (by kernel_rfl) (fun _ _ _ h => h) ?_
        refine wd_skip (i := 16) [0, 1, 2, 3] rfl rfl rfl rfl (by kernel_rfl) (by kernel_rfl) (fun _ _ _ h => h) ?_
        refine wd_skip (i := 17) [0, 1, 2, 3] rfl rfl rfl rfl (by kernel_rfl) (by kernel_rfl) (fun _ _ _ h => h) ?_
        refine wd_skip (i := 18) [0, 1, 2, 3] rfl rfl rfl rfl (by kernel_rfl) (by kernel_rfl) (fun _ _ _ h => h) ?_
        refine wd_skip (i := 19) [0, 1, 2, 3] rfl rfl rfl rfl (by kernel_rfl) (by kernel_rfl) (fun _ _ _ h => h) ?_
        refine wd_skip (i := 20) [0, 1, 2, 3] rfl rfl rfl rfl (by kernel_rfl) (by kernel_rfl) (fun _ _ _ h => h) ?_
        refine wd_offD 21 rfl rfl rfl rfl (by kernel_rfl) [0, 1, 2, 3] (fun _ => rfl) ?_
        refine wd_skip (i := 22) [0, 1, 2, 3] rfl rfl rfl rfl (by kernel_rfl) (by kernel_rfl) (fun _ _ _ h => h) ?_
        refine wd_take (i := 23) [0, 1, 2, 3] rfl rfl rfl rfl rfl (by kernel_rfl) (by kernel_rfl) (fun _ _ _ _ h => h) (yh_pickF rfl rfl rfl) ?_
        refine wd_done (by kernel_rfl) ?_
        refine ex_seq ?_
        refine cw_false rfl ?_
        refine cw_skip ?_
        refine ex_block_normal ?_
        refine ex_seq ?_
        refine cw_region ?_
        refine wl_u rfl (ow_y (yh_move rfl rfl) rfl rfl (kk_wl ?_))
        refine wl_u rfl (ow_y (yh_arI rfl rfl rfl rfl (by omega)) rfl rfl (kk_wl ?_))
        refine wl_u rfl (ow_y (yh_assign rfl rfl) rfl rfl (kk_wl ?_))
        refine wl_nil ?_
        exact ex_next [1, 2, 3] (hn6 (n6, s5, s6 + 1, as5, cs5, Fs5) (Nat.lt_succ_self _) h) ⟨rfl, rfl, rfl, rfl, trivial⟩ (by kernel_rfl)
    · skip
      replace h := bf c2 h
      have q5 := leb_false.1 c2
      refine wd_skip (i := 3) [0, 1, 2, 3] rfl rfl rfl rfl (by kernel_rfl) (by kernel_rfl) (fun _ _ _ h => h) ?_
      refine wd_skip (i := 4) [0, 1, 2, 3] rfl rfl rfl rfl (by kernel_rfl) (by kernel_rfl) (fun _ _ _ h => h) ?_
      refine wd_skip (i := 5) [0, 1, 2, 3] rfl rfl rfl rfl (by kernel_rfl) (by kernel_rfl) (fun _ _ _ h => h) ?_
      refine wd_skip (i := 6) [0, 1, 2, 3] rfl rfl rfl rfl (by kernel_rfl) (by kernel_rfl) (fun _ _ _ h => h) ?_
      refine wd_take (i := 7) [0, 1, 2, 3] rfl rfl rfl rfl rfl (by kernel_rfl) (by kernel_rfl) (fun _ _ _ _ h => h) (yh_pickF rfl rfl rfl) ?_
      refine wd_take (i := 8) [0, 1, 2, 3] rfl rfl rfl rfl rfl (by kernel_rfl) (by kernel_rfl) (fun _ _ _ _ h => h) (yh_move rfl rfl) ?_
      refine wd_split 9 rfl rfl rfl nofun (fun _ => ?_)
      refine wd_skip (i := 9) [0, 1, 2, 3] rfl rfl rfl rfl (by kernel_rfl) (by kernel_rfl) (fun _ _ _ h => h) ?_
      refine wd_skip (i := 10) [0, 1, 2, 3] rfl rfl rfl rfl (by kernel_rfl) (by kernel_rfl) (fun _ _ _ h => h) ?_
      refine wd_skip (i := 11) [0, 1, 2, 3] rfl rfl rfl rfl (by kernel_rfl) (by kernel_rfl) (fun _ _ _ h => h) ?_
      refine wd_skip (i := 12) [0, 1, 2, 3] rfl rfl rfl rfl (by kernel_rfl) (by kernel_rfl) (fun _ _ _ h => h) ?_
      refine wd_skip (i := 13) [0, 1, 2, 3] rfl rfl rfl rfl (by kernel_rfl) (by kernel_rfl) (fun _ _ _ h => h) ?_
      refine wd_skip (i := 14) [0, 1, 2, 3] rfl rfl rfl rfl (by kernel_rfl) (by kernel_rfl) (fun _ _ _ h => h) ?_
      refine wd_skip (i := 15) [0, 1, 2, 3] rfl rfl rfl rfl (by kernel_rfl) (by kernel_rfl) (fun _ _ _ h => h) ?_
      refine wd_skip (i := 16) [0, 1, 2, 3] rfl rfl rfl rfl (by kernel_rfl) (by kernel_rfl) (fun _ _ _ h => h) ?_
      refine wd_skip (i := 17) [0, 1, 2, 3] rfl rfl rfl rfl (by kernel_rfl) (by kernel_rfl) (fun _ _ _ h => h) ?_
      refine wd_skip (i := 18) [0, 1, 2, 3] rfl rfl rfl rfl (by kernel_rfl) (by kernel_rfl) (fun _ _ _ h => h) ?_
      refine wd_skip (i := 19) [0, 1, 2, 3] rfl rfl rfl rfl (by kernel_rfl) (by kernel_rfl) (fun _ _ _ h => h) ?_
      refine wd_skip (i := 20) [0, 1, 2, 3] rfl rfl rfl rfl (by kernel_rfl) (by kernel_rfl) (fun _ _ _ h => h) ?_
      refine wd_offD 21 rfl rfl rfl rfl (by kernel_rfl) [0, 1, 2, 3] (fun _ => rfl) ?_
      refine wd_skip (i := 22) [0, 1, 2, 3] rfl rfl rfl rfl (by kernel_rfl) (by kernel_rfl) (fun _ _ _ h => h) ?_
      refine wd_take (i := 23) [0, 1, 2, 3] rfl rfl rfl rfl rfl (by kernel_rfl) (by kernel_rfl) (fun _ _ _ _ h => h) (yh_pickF rfl rfl rfl) ?_
      refine wd_done (by kernel_rfl) ?_
      refine ex_seq ?_
      refine cw_false rfl ?_
      refine cw_skip ?_
      refine ex_block_normal ?_
      refine ex_seq ?_
      refine cw_region ?_
      refine wl_u rfl (ow_y (yh_move rfl rfl) rfl rfl (kk_wl ?_))
      refine wl_u rfl (ow_y (yh_arI rfl rfl rfl rfl (by omega)) rfl rfl (kk_wl ?_))
      refine wl_u rfl (ow_y (yh_assign rfl rfl) rfl rfl (kk_wl ?_))
      refine wl_nil ?_
      exact ex_next [1, 2, 3] (hn6 (n6, s5, s6 + 1, as5, cs5, Fs5) (Nat.lt_succ_self _) h) ⟨rfl, rfl, rfl, rfl, trivial⟩ (by kernel_rfl)
  · skip
    replace h := bf c1 h
    have q6 := ltb_false.1 c1
    refine cw_exit ?_
    refine ex_then_exit ?_
    refine ex_then_exit ?_
    obtain rfl := Option.some.inj h
    have h := go_brk hk6
    refine ex_block_exit ?_
    refine ex_seq ?_
    refine cw_seq ?_
    refine cw_region ?_
    refine wl_u rfl (ow_y (yh_move rfl rfl) rfl rfl (kk_wl ?_))
    refine wl_u rfl (ow_y (yh_assign rfl rfl) rfl rfl (kk_wl ?_))
    refine wl_nil ?_
    refine ex_seq ?_
    refine cw_ret ?_
    obtain rfl := Option.some.inj h
    exact ex_r1 Tb rfl (.tmp rfl) (fun wq hq => ⟨_, rfl, hq.ext, ⟨as5, cs5, Fs5, rfl, NewC.sel [2] hq rfl⟩⟩)

def m_spec_l12Gone_L7 (N : Nat) (g : Flow) (x11 : List Str) : Nat → (List Change) → Int → Option (Ex (List Change × Int) (List Change))
  | 0, _, _ => none
  | n + 1, s5, s7 => (bif leb 0 s7 then (geti x11 s7).bind fun y23 => (m_spec_l2At N g.steps y23).bind fun x25 => (bif ltb x25 0 then (appd s5 ([(Change.mk 2 (Step.mk y23 ([] : List Str) false))])).bind fun l36 => m_spec_l12Gone_L7 N g x11 n (s5 ++ ([(Change.mk 2 (Step.mk y23 ([] : List Str) false))])) (w64 (s7 - 1))
 else m_spec_l12Gone_L7 N g x11 n s5 (w64 (s7 - 1)))
 else some (Ex.brk (s5, s7)))

def m_spec_l12Gone (N : Nat) (f : Flow) (g : Flow) : Option (List Change) := (m_spec_l2Order N f.steps).bind fun x11 => (m_spec_l12Gone_L7 N g x11 N ([] : List Change) (((x11.length : Nat) : Int) - 1)).bind fun e7 => e7.go (fun r => r) fun b7 => some b7.1

set_option maxHeartbeats 4000000 in
theorem c_spec_l12Gone (N : Nat) (f : Flow) (g : Flow) (res : List Change) (h : m_spec_l12Gone N f g = some res) (w : World) {a_f_steps a_g_steps : Option Addr} {c_f_steps c_g_steps : Nat} (h_f_steps : stepsL.rd w [] [.slice a_f_steps f.steps.length c_f_steps] f.steps) (h_g_steps : stepsL.rd w [] [.slice a_g_steps g.steps.length c_g_steps] g.steps) : Ret Tryz.prog 45 [.agg #[.int .i64 f.ver, .slice a_f_steps f.steps.length c_f_steps], .agg #[.int .i64 g.ver, .slice a_g_steps g.steps.length c_g_steps]] w [] fun v w' => ∃ a1 c1 F1, v = .slice a1 res.length c1 ∧ NewC w w' [owC changesL F1 [.slice a1 res.length c1] res] := by
  have mh_f_steps := rd_max h_f_steps
  have mh_g_steps := rd_max h_g_steps
  unfold m_spec_l12Gone at h
  refine ret_enter Tryz.func45 rfl Tryz.ntmps45 rfl (Hp.refl w _) ?_
  refine cw_seq ?_
  refine cw_region ?_
  refine wl_u rfl (ow_boxA rfl rfl rfl rfl (fun g2 => kk_wl ?_))
  refine wl_u rfl (ow_boxA rfl rfl rfl rfl (fun g3 => kk_wl ?_))
  refine wl_u rfl (ow_y (yh_assign rfl rfl) rfl rfl (kk_wl ?_))
  refine wl_nil ?_
  refine ex_seq ?_
  refine cw_seq ?_
  refine cw_region ?_
  refine wl_u rfl (ow_lit0 Tb rfl rfl rfl rfl rfl rfl (fun g8 => kk_chg (c' := owC changesL [g8] [.slice (some ⟨g8, 0, none⟩) 0 0] ([] : List Change)) 0 rfl (fun w hA => own_changesL ([] : List Change) hA rfl (by simp [maxLen])) rfl (kk_wl ?_)))
  refine wl_u rfl (ow_y (yh_assign rfl rfl) rfl rfl (kk_wl ?_))
  refine wl_nil ?_
  refine ex_seq ?_
  refine cw_seq ?_
  refine cw_region ?_
  refine wl_u rfl (ow_y (yh_field Tb rfl rfl rfl) rfl rfl (kk_wl ?_))
  refine wl_u rfl (ow_y (yh_loadB Tb (k := 2) rfl rfl rfl rfl rfl) rfl rfl (kk_wl ?_))
  obtain ⟨x11, hx11, h⟩ := bd h
  refine wl_u rfl (ow_cN1 rfl hb86 rfl (fun w hw => c_spec_l2Order N _ _ hx11 w (Lay.at_ h_f_steps hw)) rfl rfl (fun a11 c11 F11 => kk_wl ?_))
  refine wl_u rfl (ow_y (yh_assign rfl rfl) rfl rfl (kk_wl ?_))
  refine wl_nil ?_
  refine ex_seq ?_
  refine cw_seq ?_
  refine cw_seq ?_
  refine cw_region ?_
  refine wl_u rfl (ow_y (yh_move rfl rfl) rfl rfl (kk_wl ?_))
  refine wl_know (x11.length ≤ 9223372036854775807) (fun w hw => own_max 0 rfl hw) (fun mo13 => ?_)
  refine wl_u rfl (ow_y (yh_lenS Tb rfl rfl rfl rfl) rfl rfl (kk_wl ?_))
  refine wl_u rfl (ow_y (yh_arI rfl rfl rfl rfl (by omega)) rfl rfl (kk_wl ?_))
  refine wl_u rfl (ow_y (yh_assign rfl rfl) rfl rfl (kk_wl ?_))
  refine wl_nil ?_
  refine ex_seq ?_
  refine cw_block ?_
  obtain ⟨e7, he7, hk7⟩ := bd h
  clear h
  refine cw_loopG (σ := Nat × (List Change) × Int × (Option Addr) × Nat × (List Nat)) (fun s => m_spec_l12Gone_L7 N g x11 s.1 s.2.1 s.2.2.1 = some e7) (fun s => [(3, .pointer (some ⟨g3, 0, none⟩)), (5, .slice s.2.2.2.1 s.2.1.length s.2.2.2.2.1), (6, .slice a11 x11.length c11), (7, .int .i64 s.2.2.1)]) (fun s => [blkC g3 25 [.int .i64 g.ver, .slice a_g_steps g.steps.length c_g_steps], owC changesL s.2.2.2.2.2 [.slice s.2.2.2.1 s.2.1.length s.2.2.2.2.1] s.2.1, owC strsL F11 [.slice a11 x11.length c11] x11]) (fun s => s.1) (N, ([] : List Change), ((x11.length : Nat) : Int) - 1, (some ⟨g8, 0, none⟩), 0, [g8]) [2, 1, 0] he7 ⟨rfl, rfl, rfl, rfl, trivial⟩ rfl (fun KL s he7 hn7 => ?_)
  obtain ⟨n7, s5, s7, as5, cs5, Fs5⟩ := s
  simp only at he7 hn7 ⊢
  rcases n7 with _ | n7
  · exact nosome he7
  have h := he7; rw [m_spec_l12Gone_L7] at h
  refine cw_seq ?_
  refine cw_seq ?_
  refine cw_region ?_
  refine wl_u rfl (ow_y (yh_move rfl rfl) rfl rfl (kk_wl ?_))
  refine wl_u rfl (ow_y (yh_cmpI rfl rfl rfl rfl) rfl rfl (kk_wl ?_))
  refine wl_nil ?_
  refine ex_seq ?_
  refine cw_split rfl (fun c1 => ?_) (fun c1 => ?_)
  · skip
    replace h := bt c1 h
    have q1 := leb_true.1 c1
    refine cw_skip ?_
    refine ex_seq ?_
    refine cw_seq ?_
    refine cw_block ?_
    refine cw_seq ?_
    refine cw_dr [0, 1, 2, 3, 4, 5, 7] [] [blkC g3 25 [.int .i64 g.ver, .slice a_g_steps g.steps.length c_g_steps], owC changesL Fs5 [.slice as5 s5.length cs5] s5, owC strsL F11 [.slice a11 x11.length c11] x11] (by kernel_rfl) ?_
    refine wd_take (i := 0) [0, 1, 2] rfl rfl rfl rfl rfl (by kernel_rfl) (by kernel_rfl) (fun _ _ _ _ h => h) (yh_field Tb rfl rfl rfl) ?_
    refine wd_take (i := 1) [0, 1, 2] rfl rfl rfl rfl rfl (by kernel_rfl) (by kernel_rfl) (fun _ _ _ _ h => h) (yh_loadB Tb (k := 0) rfl rfl rfl rfl rfl) ?_
    refine wd_take (i := 2) [0, 1, 2] rfl rfl rfl rfl rfl (by kernel_rfl) (by kernel_rfl) (fun _ _ _ _ h => h) (yh_move rfl rfl) ?_
    refine wd_take (i := 3) [0, 1, 2] rfl rfl rfl rfl rfl (by kernel_rfl) (by kernel_rfl) (fun _ _ _ _ h => h) (yh_move rfl rfl) ?_
    obtain ⟨y23, zy23, h⟩ := bd h
    obtain ⟨iy23, hy23⟩ := geti_some zy23
    refine wd_ex (fun g => a11 = some ⟨g, 0, none⟩) (fun w hw => by exact own_addrK 2 rfl hy23 hw) (fun g23 hg23 => ?_)
    subst hg23
    refine wd_take (i := 4) [0, 1, 2] rfl rfl rfl rfl rfl (by kernel_rfl) (by kernel_rfl) (fun _ _ _ _ h => h) (yh_idx Tb (k := s7.toNat) rfl rfl rfl iy23 (get_lt hy23) rfl rfl) ?_
    refine wd_take (i := 5) [0, 1, 2] rfl rfl rfl rfl rfl (by kernel_rfl) (by kernel_rfl) (fun _ _ _ _ h => h) (yh_loadO0 Tb 2 rfl rfl rfl rfl rfl hy23 rfl) ?_
    obtain ⟨x25, hx25, h⟩ := bd h
    refine wd_one 6 rfl rfl (by kernel_rfl) (ow_cV rfl hb84 rfl (fun w hw => c_spec_l2At N _ _ _ hx25 w (Lay.at_ h_g_steps hw)) rfl rfl (kk_wd [0, 1, 2] (by kernel_rfl) ?_))
    refine wd_take (i := 7) [0, 1, 2] rfl rfl rfl rfl rfl (by kernel_rfl) (by kernel_rfl) (fun _ _ _ _ h => h) (yh_cmpI rfl rfl rfl rfl) ?_
    refine wd_done (by kernel_rfl) ?_
    refine ex_seq ?_
    refine cw_split rfl (fun c2 => ?_) (fun c2 => ?_)
    · skip
      replace h := bt c2 h
      have q2 := ltb_true.1 c2
      refine cw_region ?_
      refine wl_u rfl (ow_y (yh_move rfl rfl) rfl rfl (kk_wl ?_))
      refine wl_u rfl (ow_y (yh_move rfl rfl) rfl rfl (kk_wl ?_))
      refine wl_u rfl (ow_y (yh_move rfl rfl) rfl rfl (kk_wl ?_))
      refine wl_u rfl (ow_y (yh_idx Tb (k := s7.toNat) rfl rfl rfl iy23 (get_lt hy23) rfl rfl) rfl rfl (kk_wl ?_))
      refine wl_u rfl (ow_y (yh_loadO0 Tb 2 rfl rfl rfl rfl rfl hy23 rfl) rfl rfl (kk_wl ?_))
      refine wl_u rfl (ow_lit0 Tb rfl rfl rfl rfl rfl rfl (fun g32 => kk_chg (c' := owC strsL [g32] [.slice (some ⟨g32, 0, none⟩) 0 0] ([] : List Str)) 0 rfl (fun w hA => own_strsL ([] : List Str) hA rfl (by simp [maxLen])) rfl (kk_wl ?_)))
      refine wl_u rfl (ow_y (yh_build [.string y23, .slice (some ⟨g32, 0, none⟩) 0 0, .bool false] rfl rfl (by kernel_rfl)) rfl rfl (kk_wl ?_))
      refine wl_u rfl (ow_y (yh_build [.int .i64 2, .string y23, .slice (some ⟨g32, 0, none⟩) 0 0, .bool false] rfl rfl (by kernel_rfl)) rfl rfl (kk_wl ?_))
      refine wl_u rfl (ow_litA Tb rfl rfl rfl rfl rfl rfl (by decide) rfl rfl (fun g35 => kk_wl ?_))
      obtain ⟨hll36, h⟩ := bd_appd h
      refine wl_u rfl (ow_chg (c' := owC changeL [g32] [.int .i64 2, .string y23, .slice (some ⟨g32, 0, none⟩) 0 0, .bool false] (Change.mk 2 (Step.mk y23 ([] : List Str) false))) 1 rfl (fun w hA => changeL_mk (Change.mk 2 (Step.mk y23 ([] : List Str) false)) hA) rfl (ow_appE Tb (i := 3) (j := 0) (k := 1) rfl rfl rfl rfl rfl rfl rfl rfl rfl rfl rfl (app1 hll36) (by decide) rfl rfl (fun a36 c36 F36 => kk_wl ?_)))
      refine wl_u rfl (ow_y (yh_assign rfl rfl) rfl rfl (kk_wl ?_))
      refine wl_nil ?_
      refine ex_block_normal ?_
      refine ex_seq ?_
      refine cw_region ?_
      refine wl_u rfl (ow_y (yh_move rfl rfl) rfl rfl (kk_wl ?_))
      refine wl_u rfl (ow_y (yh_arW rfl rfl rfl rfl) rfl rfl (kk_wl ?_))
      refine wl_u rfl (ow_y (yh_assign rfl rfl) rfl rfl (kk_wl ?_))
      refine wl_nil ?_
      exact ex_next [2, 0, 3] (hn7 (n7, (s5 ++ ([(Change.mk 2 (Step.mk y23 ([] : List Str) false))])), w64 (s7 - 1), a36, c36, F36) (Nat.lt_succ_self _) h) ⟨rfl, rfl, rfl, rfl, trivial⟩ (by kernel_rfl)
    · skip
      replace h := bf c2 h
      have q3 := ltb_false.1 c2
      refine cw_skip ?_
      refine ex_block_normal ?_
      refine ex_seq ?_
      refine cw_region ?_
      refine wl_u rfl (ow_y (yh_move rfl rfl) rfl rfl (kk_wl ?_))
      refine wl_u rfl (ow_y (yh_arW rfl rfl rfl rfl) rfl rfl (kk_wl ?_))
      refine wl_u rfl (ow_y (yh_assign rfl rfl) rfl rfl (kk_wl ?_))
      refine wl_nil ?_
      exact ex_next [0, 1, 2] (hn7 (n7, s5, w64 (s7 - 1), as5, cs5, Fs5) (Nat.lt_succ_self _) h) ⟨rfl, rfl, rfl, rfl, trivial⟩ (by kernel_rfl)
  · skip
    replace h := bf c1 h
    have q4 := leb_false.1 c1
    refine cw_exit ?_
    refine ex_then_exit ?_
    refine ex_then_exit ?_
    obtain rfl := Option.some.inj h
    have h := go_brk hk7
    refine ex_block_exit ?_
    refine ex_seq ?_
    refine cw_seq ?_
    refine cw_region ?_
    refine wl_u rfl (ow_y (yh_move rfl rfl) rfl rfl (kk_wl ?_))
    refine wl_u rfl (ow_y (yh_assign rfl rfl) rfl rfl (kk_wl ?_))
    refine wl_nil ?_
    refine ex_seq ?_
    refine cw_ret ?_
    obtain rfl := Option.some.inj h
    exact ex_r1 Tb rfl (.tmp rfl) (fun wq hq => ⟨_, rfl, hq.ext, ⟨as5, cs5, Fs5, rfl, NewC.sel [1] hq rfl⟩⟩)

def m_spec_l12Made_L7 (N : Nat) (u0 : Flow) (u1 : Flow) (x14 : List Str) : Nat → (List Change) → Nat → Option (Ex (List Change × Nat) (List Change))
  | 0, _, _ => none
  | n + 1, s5, s7 => (bif ltb ((s7 : Nat) : Int) ((x14.length : Nat) : Int) then (x14[s7]?).bind fun y27 => (m_spec_l2At N u1.steps y27).bind fun x29 => (geti u1.steps x29).bind fun y30 => (m_spec_l2At N u0.steps y30.name).bind fun x36 => (bif ltb x36 0 then (m_spec_l2Step N y30).bind fun x41 => (appd s5 [(Change.mk 1 x41)]).bind fun l44 => m_spec_l12Made_L7 N u0 u1 x14 n (s5 ++ [(Change.mk 1 x41)]) (s7 + 1)
 else (geti u0.steps x36).bind fun y48 => (((bif ltb 0 ((y30.after.length : Nat) : Int) then (m_spec_l12Same N y48 (Step.mk y30.name y30.after y48.undo)).bind fun x63 => some (!x63)
 else some false) : Option (Bool)).bind fun j119 => (bif j119 then (m_spec_l2Step N (Step.mk y30.name y30.after false)).bind fun x72 => (appd s5 [(Change.mk 3 x72)]).bind fun l75 => some (s5 ++ [(Change.mk 3 x72)])
 else some s5) : Option ((List Change))).bind fun j118 => (bif y48.undo != y30.undo then (appd j118 ([(Change.mk 4 (Step.mk y30.name ([] : List Str) y30.undo))])).bind fun l90 => m_spec_l12Made_L7 N u0 u1 x14 n (j118 ++ ([(Change.mk 4 (Step.mk y30.name ([] : List Str) y30.undo))])) (s7 + 1)
 else m_spec_l12Made_L7 N u0 u1 x14 n j118 (s7 + 1)))
 else some (Ex.brk (s5, s7)))

def m_spec_l12Made (N : Nat) (u0 : Flow) (u1 : Flow) : Option (List Change) := (m_spec_l2Order N u1.steps).bind fun x14 => (m_spec_l12Made_L7 N u0 u1 x14 N ([] : List Change) 0).bind fun e7 => e7.go (fun r => r) fun b7 => some b7.1

set_option maxHeartbeats 4000000 in
theorem c_spec_l12Made (N : Nat) (u0 : Flow) (u1 : Flow) (res : List Change) (h : m_spec_l12Made N u0 u1 = some res) (w : World) {a_u0_steps a_u1_steps : Option Addr} {c_u0_steps c_u1_steps : Nat} (h_u0_steps : stepsL.rd w [] [.slice a_u0_steps u0.steps.length c_u0_steps] u0.steps) (h_u1_steps : stepsL.rd w [] [.slice a_u1_steps u1.steps.length c_u1_steps] u1.steps) : Ret Tryz.prog 46 [.agg #[.int .i64 u0.ver, .slice a_u0_steps u0.steps.length c_u0_steps], .agg #[.int .i64 u1.ver, .slice a_u1_steps u1.steps.length c_u1_steps]] w [] fun v w' => ∃ a1 c1 F1, v = .slice a1 res.length c1 ∧ NewC w w' [owC changesL F1 [.slice a1 res.length c1] res] := by
  have mh_u0_steps := rd_max h_u0_steps
  have mh_u1_steps := rd_max h_u1_steps
  unfold m_spec_l12Made at h
  refine ret_enter Tryz.func46 rfl Tryz.ntmps46 rfl (Hp.refl w _) ?_
  refine cw_seq ?_
  refine cw_region ?_
  refine wl_u rfl (ow_boxA rfl rfl rfl rfl (fun g2 => kk_wl ?_))
  refine wl_u rfl (ow_boxA rfl rfl rfl rfl (fun g3 => kk_wl ?_))
  refine wl_u rfl (ow_y (yh_assign rfl rfl) rfl rfl (kk_wl ?_))
  refine wl_nil ?_
  refine ex_seq ?_
  refine cw_seq ?_
  refine cw_region ?_
  refine wl_u rfl (ow_lit0 Tb rfl rfl rfl rfl rfl rfl (fun g11 => kk_chg (c' := owC changesL [g11] [.slice (some ⟨g11, 0, none⟩) 0 0] ([] : List Change)) 0 rfl (fun w hA => own_changesL ([] : List Change) hA rfl (by simp [maxLen])) rfl (kk_wl ?_)))
  refine wl_u rfl (ow_y (yh_assign rfl rfl) rfl rfl (kk_wl ?_))
  refine wl_nil ?_
  refine ex_seq ?_
  refine cw_seq ?_
  refine cw_region ?_
  refine wl_u rfl (ow_y (yh_field Tb rfl rfl rfl) rfl rfl (kk_wl ?_))
  refine wl_u rfl (ow_y (yh_loadB Tb (k := 1) rfl rfl rfl rfl rfl) rfl rfl (kk_wl ?_))
  obtain ⟨x14, hx14, h⟩ := bd h
  refine wl_u rfl (ow_cN1 rfl hb86 rfl (fun w hw => c_spec_l2Order N _ _ hx14 w (Lay.at_ h_u1_steps hw)) rfl rfl (fun a14 c14 F14 => kk_wl ?_))
  refine wl_u rfl (ow_y (yh_assign rfl rfl) rfl rfl (kk_wl ?_))
  refine wl_nil ?_
  refine ex_seq ?_
  refine cw_seq ?_
  refine cw_seq ?_
  refine cw_region ?_
  refine wl_u rfl (ow_y (yh_assign rfl rfl) rfl rfl (kk_wl ?_))
  refine wl_nil ?_
  refine ex_seq ?_
  refine cw_block ?_
  obtain ⟨e7, he7, hk7⟩ := bd h
  clear h
  refine cw_loopG (σ := Nat × (List Change) × Nat × (Option Addr) × Nat × (List Nat)) (fun s => m_spec_l12Made_L7 N u0 u1 x14 s.1 s.2.1 s.2.2.1 = some e7) (fun s => [(2, .pointer (some ⟨g2, 0, none⟩)), (3, .pointer (some ⟨g3, 0, none⟩)), (5, .slice s.2.2.2.1 s.2.1.length s.2.2.2.2.1), (6, .slice a14 x14.length c14), (7, .int .i64 ((s.2.2.1 : Nat) : Int))]) (fun s => [blkC g2 25 [.int .i64 u0.ver, .slice a_u0_steps u0.steps.length c_u0_steps], blkC g3 25 [.int .i64 u1.ver, .slice a_u1_steps u1.steps.length c_u1_steps], owC changesL s.2.2.2.2.2 [.slice s.2.2.2.1 s.2.1.length s.2.2.2.2.1] s.2.1, owC strsL F14 [.slice a14 x14.length c14] x14]) (fun s => s.1) (N, ([] : List Change), 0, (some ⟨g11, 0, none⟩), 0, [g11]) [3, 2, 1, 0] he7 ⟨rfl, rfl, rfl, rfl, rfl, trivial⟩ rfl (fun KL s he7 hn7 => ?_)
  obtain ⟨n7, s5, s7, as5, cs5, Fs5⟩ := s
  simp only at he7 hn7 ⊢
  rcases n7 with _ | n7
  · exact nosome he7
  have h := he7; rw [m_spec_l12Made_L7] at h
  refine cw_seq ?_
  refine cw_seq ?_
  refine cw_region ?_
  refine wl_u rfl (ow_y (yh_move rfl rfl) rfl rfl (kk_wl ?_))
  refine wl_u rfl (ow_y (yh_move rfl rfl) rfl rfl (kk_wl ?_))
  refine wl_know (x14.length ≤ 9223372036854775807) (fun w hw => own_max 3 rfl hw) (fun mo17 => ?_)
  refine wl_u rfl (ow_y (yh_lenS Tb rfl rfl rfl rfl) rfl rfl (kk_wl ?_))
  refine wl_u rfl (ow_y (yh_cmpI rfl rfl rfl rfl) rfl rfl (kk_wl ?_))
  refine wl_nil ?_
  refine ex_seq ?_
  refine cw_split rfl (fun c1 => ?_) (fun c1 => ?_)
  · skip
    replace h := bt c1 h
    have q1 := ltb_true.1 c1
    refine cw_skip ?_
    refine ex_seq ?_
    refine cw_seq ?_
    refine cw_block ?_
    refine cw_seq ?_
    refine cw_dr [0, 1, 2, 3, 4, 5, 6, 7, 9, 10] [12] [blkC g2 25 [.int .i64 u0.ver, .slice a_u0_steps u0.steps.length c_u0_steps], blkC g3 25 [.int .i64 u1.ver, .slice a_u1_steps u1.steps.length c_u1_steps], owC changesL Fs5 [.slice as5 s5.length cs5] s5, owC strsL F14 [.slice a14 x14.length c14] x14] (by kernel_rfl) ?_
    refine wd_take (i := 0) [0, 1, 2, 3] rfl rfl rfl rfl rfl (by kernel_rfl) (by kernel_rfl) (fun _ _ _ _ h => h) (yh_field Tb rfl rfl rfl) ?_
    refine wd_take (i := 1) [0, 1, 2, 3] rfl rfl rfl rfl rfl (by kernel_rfl) (by kernel_rfl) (fun _ _ _ _ h => h) (yh_loadB Tb (k := 1) rfl rfl rfl rfl rfl) ?_
    refine wd_take (i := 2) [0, 1, 2, 3] rfl rfl rfl rfl rfl (by kernel_rfl) (by kernel_rfl) (fun _ _ _ _ h => h) (yh_field Tb rfl rfl rfl) ?_
    refine wd_take (i := 3) [0, 1, 2, 3] rfl rfl rfl rfl rfl (by kernel_rfl) (by kernel_rfl) (fun _ _ _ _ h => h) (yh_loadB Tb (k := 1) rfl rfl rfl rfl rfl) ?_
    refine wd_take (i := 4) [0, 1, 2, 3] rfl rfl rfl rfl rfl (by kernel_rfl) (by kernel_rfl) (fun _ _ _ _ h => h) (yh_move rfl rfl) ?_
    refine wd_take (i := 5) [0, 1, 2, 3] rfl rfl rfl rfl rfl (by kernel_rfl) (by kernel_rfl) (fun _ _ _ _ h => h) (yh_move rfl rfl) ?_
    obtain ⟨y27, hy27, h⟩ := bd h
    refine wd_ex (fun g => a14 = some ⟨g, 0, none⟩) (fun w hw => by exact own_addrK 3 rfl hy27 hw) (fun g27 hg27 => ?_)
    subst hg27
    refine wd_take (i := 6) [0, 1, 2, 3] rfl rfl rfl rfl rfl (by kernel_rfl) (by kernel_rfl) (fun _ _ _ _ h => h) (yh_idx Tb (k := s7) rfl rfl rfl rfl (get_lt hy27) rfl rfl) ?_
    refine wd_take (i := 7) [0, 1, 2, 3] rfl rfl rfl rfl rfl (by kernel_rfl) (by kernel_rfl) (fun _ _ _ _ h => h) (yh_loadO0 Tb 3 rfl rfl rfl rfl rfl hy27 rfl) ?_
    refine wd_all [8, 11] (by kernel_rfl) (by simp) (fun i hi => ?_)
    simp only [List.mem_cons, List.not_mem_nil, or_false] at hi
    rcases hi with rfl | rfl
    · refine ⟨_, rfl, rfl, ?_⟩
      obtain ⟨x29, hx29, h⟩ := bd h
      refine (ow_cV rfl hb84 rfl (fun w hw => c_spec_l2At N _ _ _ hx29 w (Lay.at_ h_u1_steps hw)) rfl rfl (kk_wd [0, 1, 2, 3] (by kernel_rfl) ?_))
      obtain ⟨y30, zy30, h⟩ := bd h
      obtain ⟨iy30, hy30⟩ := geti_some zy30
      obtain ⟨b30, o30, ha30⟩ := sl_addr h_u1_steps hy30
      subst ha30
      obtain ⟨a30, e30, hc30, hf30⟩ := get_step h_u1_steps hy30
      have mx30 := rd_max hf30
      refine wd_take (i := 9) [0, 1, 2, 3] rfl rfl rfl rfl rfl (by kernel_rfl) (by kernel_rfl) (fun _ _ _ _ h => h) (yh_idx Tb (k := x29.toNat) rfl rfl rfl iy30 (get_lt hy30) rfl rfl) ?_
      refine wd_take (i := 10) [0, 1, 2, 3] rfl rfl rfl rfl rfl (by kernel_rfl) (by kernel_rfl) (fun _ _ _ _ h => h) (yh_loadAN Tb rfl rfl rfl rfl hc30 rfl) ?_
      refine wd_one 11 rfl rfl (by kernel_rfl) (ow_allocA Tb rfl rfl rfl rfl (fun g8 => kk_wd [1, 2, 3, 4] (by kernel_rfl) ?_))
      refine wd_one 12 rfl rfl (by kernel_rfl) (ow_storeA Tb (k := 0) rfl rfl rfl rfl rfl rfl rfl rfl rfl (kk_wdT rfl ?_))
      refine wd_done (by kernel_rfl) ?_
      refine ex_seq ?_
      refine cw_seq ?_
      refine cw_region ?_
      refine wl_u rfl (ow_y (yh_field Tb rfl rfl rfl) rfl rfl (kk_wl ?_))
      refine wl_u rfl (ow_y (yh_loadB Tb (k := 1) rfl rfl rfl rfl rfl) rfl rfl (kk_wl ?_))
      refine wl_u rfl (ow_y (yh_field Tb rfl rfl rfl) rfl rfl (kk_wl ?_))
      refine wl_u rfl (ow_y (yh_loadB Tb (k := 0) rfl rfl rfl rfl rfl) rfl rfl (kk_wl ?_))
      obtain ⟨x36, hx36, h⟩ := bd h
      refine wl_u rfl (ow_cV rfl hb84 rfl (fun w hw => c_spec_l2At N _ _ _ hx36 w (Lay.at_ h_u0_steps hw)) rfl rfl (kk_wl ?_))
      refine wl_u rfl (ow_y (yh_assign rfl rfl) rfl rfl (kk_wl ?_))
      refine wl_nil ?_
      refine ex_seq ?_
      refine cw_seq ?_
      refine cw_seq ?_
      refine cw_region ?_
      refine wl_u rfl (ow_y (yh_move rfl rfl) rfl rfl (kk_wl ?_))
      refine wl_u rfl (ow_y (yh_cmpI rfl rfl rfl rfl) rfl rfl (kk_wl ?_))
      refine wl_nil ?_
      refine ex_seq ?_
      refine cw_split rfl (fun c2 => ?_) (fun c2 => ?_)
      · skip
        replace h := bt c2 h
        have q2 := ltb_true.1 c2
        refine cw_seq ?_
        refine cw_region ?_
        refine wl_u rfl (ow_y (yh_move rfl rfl) rfl rfl (kk_wl ?_))
        refine wl_u rfl (ow_y (yh_loadBA Tb (k := 0) rfl rfl rfl rfl rfl rfl) rfl rfl (kk_wl ?_))
        obtain ⟨x41, hx41, h⟩ := bd h
        refine wl_u rfl (ow_cN1 rfl hb88 rfl (fun w hw => c_spec_l2Step N _ _ hx41 w (Lay.at_ hf30 hw)) rfl rfl (fun a41 c41 F41 => kk_wl ?_))
        refine wl_u rfl (ow_y (yh_build [.int .i64 1, .string x41.name, .slice a41 x41.after.length c41, .bool x41.undo] rfl rfl (by kernel_rfl)) rfl rfl (kk_wl ?_))
        refine wl_u rfl (ow_litA Tb rfl rfl rfl rfl rfl rfl (by decide) rfl rfl (fun g43 => kk_wl ?_))
        obtain ⟨hll44, h⟩ := bd_appd h
        refine wl_u rfl (ow_chg (c' := owC changeL F41 [.int .i64 1, .string x41.name, .slice a41 x41.after.length c41, .bool x41.undo] (Change.mk 1 x41)) 1 rfl (fun w hA => changeL_mk (Change.mk 1 x41) hA) rfl (ow_appE Tb (i := 5) (j := 0) (k := 1) rfl rfl rfl rfl rfl rfl rfl rfl rfl rfl rfl (app1 hll44) (by decide) rfl rfl (fun a44 c44 F44 => kk_wl ?_)))
        refine wl_u rfl (ow_y (yh_assign rfl rfl) rfl rfl (kk_wl ?_))
        refine wl_nil ?_
        refine ex_seq ?_
        refine cw_exit ?_
        refine ex_then_exit ?_
        refine ex_block_exit ?_
        refine ex_seq ?_
        refine cw_region ?_
        refine wl_u rfl (ow_y (yh_move rfl rfl) rfl rfl (kk_wl ?_))
        refine wl_u rfl (ow_y (yh_arI rfl rfl rfl rfl (by omega)) rfl rfl (kk_wl ?_))
        refine wl_u rfl (ow_y (yh_assign rfl rfl) rfl rfl (kk_wl ?_))
        refine wl_nil ?_
        exact ex_next [3, 4, 0, 5] (hn7 (n7, (s5 ++ [(Change.mk 1 x41)]), s7 + 1, a44, c44, F44) (Nat.lt_succ_self _) h) ⟨rfl, rfl, rfl, rfl, rfl, trivial⟩ (by kernel_rfl)
      · skip
        replace h := bf c2 h
        have q3 := ltb_false.1 c2
        refine cw_skip ?_
        refine ex_seq ?_
        refine cw_seq ?_
        refine cw_region ?_
        refine wl_u rfl (ow_y (yh_field Tb rfl rfl rfl) rfl rfl (kk_wl ?_))
        refine wl_u rfl (ow_y (yh_loadB Tb (k := 1) rfl rfl rfl rfl rfl) rfl rfl (kk_wl ?_))
        refine wl_u rfl (ow_y (yh_move rfl rfl) rfl rfl (kk_wl ?_))
        obtain ⟨y48, zy48, h⟩ := bd h
        obtain ⟨iy48, hy48⟩ := geti_some zy48
        obtain ⟨b48, o48, ha48⟩ := sl_addr h_u0_steps hy48
        subst ha48
        obtain ⟨a48, e48, hc48, hf48⟩ := get_step h_u0_steps hy48
        have mx48 := rd_max hf48
        refine wl_u rfl (ow_y (yh_idx Tb (k := x36.toNat) rfl rfl rfl iy48 (get_lt hy48) rfl rfl) rfl rfl (kk_wl ?_))
        refine wl_u rfl (ow_y (yh_loadAN Tb rfl rfl rfl rfl hc48 rfl) rfl rfl (kk_wl ?_))
        refine wl_u rfl (ow_allocA Tb rfl rfl rfl rfl (fun g10 => kk_wl ?_))
        refine wl_u rfl (ow_storeA Tb (k := 0) rfl rfl rfl rfl rfl rfl rfl rfl rfl (kk_wl ?_))
        refine wl_nil ?_
        refine ex_seq ?_
        obtain ⟨j118, he118, hk118⟩ := bd h
        clear h
        refine cw_cut (σ := (Option Addr) × Nat × (List Nat)) (fun s => True) (fun s => [(2, .pointer (some ⟨g2, 0, none⟩)), (3, .pointer (some ⟨g3, 0, none⟩)), (5, .slice s.1 j118.length s.2.1), (6, .slice (some ⟨g27, 0, none⟩) x14.length c14), (7, .int .i64 ((s7 : Nat) : Int)), (8, .pointer (some ⟨g8, 0, none⟩)), (10, .pointer (some ⟨g10, 0, none⟩))]) (fun s => [blkC g2 25 [.int .i64 u0.ver, .slice (some ⟨b48, o48, none⟩) u0.steps.length c_u0_steps], blkC g3 25 [.int .i64 u1.ver, .slice (some ⟨b30, o30, none⟩) u1.steps.length c_u1_steps], owC changesL s.2.2 [.slice s.1 j118.length s.2.1] j118, owC strsL F14 [.slice (some ⟨g27, 0, none⟩) x14.length c14] x14, blkC g8 49 [.string y30.name, .slice a30 y30.after.length e30, .bool y30.undo], blkC g10 49 [.string y48.name, .slice a48 y48.after.length e48, .bool y48.undo]]) (fun s hI => ?_) (fun KL hn118 => ?_)
        · skip
          obtain ⟨ak118_5, ck118_5, Fk118_5⟩ := s
          simp only at ⊢
          have h := hk118
          refine cw_seq ?_
          refine cw_region ?_
          refine wl_u rfl (ow_y (yh_field Tb rfl rfl rfl) rfl rfl (kk_wl ?_))
          refine wl_u rfl (ow_y (yh_loadB Tb (k := 5) rfl rfl rfl rfl rfl) rfl rfl (kk_wl ?_))
          refine wl_u rfl (ow_y (yh_field Tb rfl rfl rfl) rfl rfl (kk_wl ?_))
          refine wl_u rfl (ow_y (yh_loadB Tb (k := 4) rfl rfl rfl rfl rfl) rfl rfl (kk_wl ?_))
          refine wl_u rfl (ow_y (yh_cmpB rfl rfl rfl rfl (by kernel_rfl)) rfl rfl (kk_wl ?_))
          refine wl_nil ?_
          refine ex_seq ?_
          refine cw_split rfl (fun c3 => ?_) (fun c3 => ?_)
          · skip
            replace h := bt c3 h
            refine cw_region ?_
            refine wl_u rfl (ow_y (yh_move rfl rfl) rfl rfl (kk_wl ?_))
            refine wl_u rfl (ow_y (yh_field Tb rfl rfl rfl) rfl rfl (kk_wl ?_))
            refine wl_u rfl (ow_y (yh_loadB Tb (k := 4) rfl rfl rfl rfl rfl) rfl rfl (kk_wl ?_))
            refine wl_u rfl (ow_lit0 Tb rfl rfl rfl rfl rfl rfl (fun g84 => kk_chg (c' := owC strsL [g84] [.slice (some ⟨g84, 0, none⟩) 0 0] ([] : List Str)) 0 rfl (fun w hA => own_strsL ([] : List Str) hA rfl (by simp [maxLen])) rfl (kk_wl ?_)))
            refine wl_u rfl (ow_y (yh_field Tb rfl rfl rfl) rfl rfl (kk_wl ?_))
            refine wl_u rfl (ow_y (yh_loadB Tb (k := 5) rfl rfl rfl rfl rfl) rfl rfl (kk_wl ?_))
            refine wl_u rfl (ow_y (yh_buildA rfl rfl (by kernel_rfl)) rfl rfl (kk_wl ?_))
            refine wl_u rfl (ow_y (yh_build [.int .i64 4, .string y30.name, .slice (some ⟨g84, 0, none⟩) 0 0, .bool y30.undo] rfl rfl (by kernel_rfl)) rfl rfl (kk_wl ?_))
            refine wl_u rfl (ow_litA Tb rfl rfl rfl rfl rfl rfl (by decide) rfl rfl (fun g89 => kk_wl ?_))
            obtain ⟨hll90, h⟩ := bd_appd h
            refine wl_u rfl (ow_chg (c' := owC changeL [g84] [.int .i64 4, .string y30.name, .slice (some ⟨g84, 0, none⟩) 0 0, .bool y30.undo] (Change.mk 4 (Step.mk y30.name ([] : List Str) y30.undo))) 1 rfl (fun w hA => changeL_mk (Change.mk 4 (Step.mk y30.name ([] : List Str) y30.undo)) hA) rfl (ow_appE Tb (i := 4) (j := 0) (k := 1) rfl rfl rfl rfl rfl rfl rfl rfl rfl rfl rfl (app1 hll90) (by decide) rfl rfl (fun a90 c90 F90 => kk_wl ?_)))
            refine wl_u rfl (ow_y (yh_assign rfl rfl) rfl rfl (kk_wl ?_))
            refine wl_nil ?_
            refine ex_block_normal ?_
            refine ex_seq ?_
            refine cw_region ?_
            refine wl_u rfl (ow_y (yh_move rfl rfl) rfl rfl (kk_wl ?_))
            refine wl_u rfl (ow_y (yh_arI rfl rfl rfl rfl (by omega)) rfl rfl (kk_wl ?_))
            refine wl_u rfl (ow_y (yh_assign rfl rfl) rfl rfl (kk_wl ?_))
            refine wl_nil ?_
            exact ex_next [2, 3, 0, 4] (hn7 (n7, (j118 ++ ([(Change.mk 4 (Step.mk y30.name ([] : List Str) y30.undo))])), s7 + 1, a90, c90, F90) (Nat.lt_succ_self _) h) ⟨rfl, rfl, rfl, rfl, rfl, trivial⟩ (by kernel_rfl)
          · skip
            replace h := bf c3 h
            refine cw_skip ?_
            refine ex_block_normal ?_
            refine ex_seq ?_
            refine cw_region ?_
            refine wl_u rfl (ow_y (yh_move rfl rfl) rfl rfl (kk_wl ?_))
            refine wl_u rfl (ow_y (yh_arI rfl rfl rfl rfl (by omega)) rfl rfl (kk_wl ?_))
            refine wl_u rfl (ow_y (yh_assign rfl rfl) rfl rfl (kk_wl ?_))
            refine wl_nil ?_
            exact ex_next [0, 1, 2, 3] (hn7 (n7, j118, s7 + 1, ak118_5, ck118_5, Fk118_5) (Nat.lt_succ_self _) h) ⟨rfl, rfl, rfl, rfl, rfl, trivial⟩ (by kernel_rfl)
        · skip
          have h := he118
          obtain ⟨j119, he119, hk119⟩ := bd h
          clear h
          refine cw_cut (σ := Unit) (fun s => True) (fun s => [(2, .pointer (some ⟨g2, 0, none⟩)), (3, .pointer (some ⟨g3, 0, none⟩)), (5, .slice as5 s5.length cs5), (6, .slice (some ⟨g27, 0, none⟩) x14.length c14), (7, .int .i64 ((s7 : Nat) : Int)), (8, .pointer (some ⟨g8, 0, none⟩)), (10, .pointer (some ⟨g10, 0, none⟩)), (65, .bool j119)]) (fun s => [blkC g2 25 [.int .i64 u0.ver, .slice (some ⟨b48, o48, none⟩) u0.steps.length c_u0_steps], blkC g3 25 [.int .i64 u1.ver, .slice (some ⟨b30, o30, none⟩) u1.steps.length c_u1_steps], owC changesL Fs5 [.slice as5 s5.length cs5] s5, owC strsL F14 [.slice (some ⟨g27, 0, none⟩) x14.length c14] x14, blkC g8 49 [.string y30.name, .slice a30 y30.after.length e30, .bool y30.undo], blkC g10 49 [.string y48.name, .slice a48 y48.after.length e48, .bool y48.undo]]) (fun s hI => ?_) (fun KL hn119 => ?_)
          · skip
            have h := hk119
            refine cw_split rfl (fun c4 => ?_) (fun c4 => ?_)
            · skip
              replace h := bt c4 h
              refine cw_region ?_
              refine wl_u rfl (ow_y (yh_move rfl rfl) rfl rfl (kk_wl ?_))
              refine wl_u rfl (ow_y (yh_field Tb rfl rfl rfl) rfl rfl (kk_wl ?_))
              refine wl_u rfl (ow_y (yh_loadB Tb (k := 4) rfl rfl rfl rfl rfl) rfl rfl (kk_wl ?_))
              refine wl_u rfl (ow_y (yh_field Tb rfl rfl rfl) rfl rfl (kk_wl ?_))
              refine wl_u rfl (ow_y (yh_loadB Tb (k := 4) rfl rfl rfl rfl rfl) rfl rfl (kk_wl ?_))
              refine wl_u rfl (ow_y (yh_build [.string y30.name, .slice a30 y30.after.length e30, .bool false] rfl rfl (by kernel_rfl)) rfl rfl (kk_wl ?_))
              obtain ⟨x72, hx72, h⟩ := bd h
              refine wl_u rfl (ow_cN1 rfl hb88 rfl (fun w hw => c_spec_l2Step N _ _ hx72 w (Lay.at_ hf30 hw)) rfl rfl (fun a72 c72 F72 => kk_wl ?_))
              refine wl_u rfl (ow_y (yh_build [.int .i64 3, .string x72.name, .slice a72 x72.after.length c72, .bool x72.undo] rfl rfl (by kernel_rfl)) rfl rfl (kk_wl ?_))
              refine wl_u rfl (ow_litA Tb rfl rfl rfl rfl rfl rfl (by decide) rfl rfl (fun g74 => kk_wl ?_))
              obtain ⟨hll75, h⟩ := bd_appd h
              refine wl_u rfl (ow_chg (c' := owC changeL F72 [.int .i64 3, .string x72.name, .slice a72 x72.after.length c72, .bool x72.undo] (Change.mk 3 x72)) 1 rfl (fun w hA => changeL_mk (Change.mk 3 x72) hA) rfl (ow_appE Tb (i := 4) (j := 0) (k := 1) rfl rfl rfl rfl rfl rfl rfl rfl rfl rfl rfl (app1 hll75) (by decide) rfl rfl (fun a75 c75 F75 => kk_wl ?_)))
              refine wl_u rfl (ow_y (yh_assign rfl rfl) rfl rfl (kk_wl ?_))
              refine wl_nil ?_
              obtain rfl := Option.some.inj h
              exact ex_next [2, 3, 0, 4, 5, 6] (hn118 (a75, c75, F75) trivial) ⟨rfl, rfl, rfl, rfl, rfl, rfl, rfl, trivial⟩ (by kernel_rfl)
            · skip
              replace h := bf c4 h
              refine cw_skip ?_
              obtain rfl := Option.some.inj h
              exact ex_next [0, 1, 2, 3, 4, 5] (hn118 (as5, cs5, Fs5) trivial) ⟨rfl, rfl, rfl, rfl, rfl, rfl, rfl, trivial⟩ (by kernel_rfl)
          · skip
            have h := he119
            refine cw_region ?_
            refine wl_u rfl (ow_y (yh_field Tb rfl rfl rfl) rfl rfl (kk_wl ?_))
            refine wl_u rfl (ow_y (yh_loadB Tb (k := 1) rfl rfl rfl rfl rfl) rfl rfl (kk_wl ?_))
            refine wl_u rfl (ow_y (yh_lenS Tb rfl rfl rfl rfl) rfl rfl (kk_wl ?_))
            refine wl_u rfl (ow_y (yh_cmpI rfl rfl rfl rfl) rfl rfl (kk_wl ?_))
            refine wl_u rfl (ow_y (yh_move rfl rfl) rfl rfl (kk_wl ?_))
            refine wl_s rfl rfl (fun c5 => ?_) (fun c5 => ?_)
            · skip
              replace h := bt c5 h
              have q4 := ltb_true.1 c5
              refine wl_g rfl rfl (ow_y (yh_loadBA Tb (k := 0) rfl rfl rfl rfl rfl rfl) rfl rfl (kk_wl ?_))
              refine wl_g rfl rfl (ow_y (yh_field Tb rfl rfl rfl) rfl rfl (kk_wl ?_))
              refine wl_g rfl rfl (ow_y (yh_loadB Tb (k := 1) rfl rfl rfl rfl rfl) rfl rfl (kk_wl ?_))
              refine wl_g rfl rfl (ow_y (yh_field Tb rfl rfl rfl) rfl rfl (kk_wl ?_))
              refine wl_g rfl rfl (ow_y (yh_loadB Tb (k := 1) rfl rfl rfl rfl rfl) rfl rfl (kk_wl ?_))
              refine wl_g rfl rfl (ow_y (yh_field Tb rfl rfl rfl) rfl rfl (kk_wl ?_))
              refine wl_g rfl rfl (ow_y (yh_loadB Tb (k := 0) rfl rfl rfl rfl rfl) rfl rfl (kk_wl ?_))
              refine wl_g rfl rfl (ow_y (yh_buildA rfl rfl (by kernel_rfl)) rfl rfl (kk_wl ?_))
              obtain ⟨x63, hx63, h⟩ := bd h
              refine wl_g rfl rfl (ow_cV rfl hb87 rfl (fun w hw => c_spec_l12Same N _ _ _ hx63 w (Lay.at_ hf48 hw) (Lay.at_ hf30 hw)) rfl rfl (kk_wl ?_))
              refine wl_g rfl rfl (ow_y (yh_not rfl rfl) rfl rfl (kk_wl ?_))
              refine wl_u rfl (ow_y (yh_pickT rfl rfl rfl) rfl rfl (kk_wl ?_))
              refine wl_nil ?_
              obtain rfl := Option.some.inj h
              exact ex_next [2, 3, 4, 5, 1, 0] (hn119 () trivial) ⟨rfl, rfl, rfl, rfl, rfl, rfl, rfl, rfl, trivial⟩ (by kernel_rfl)
            · skip
              replace h := bf c5 h
              have q5 := ltb_false.1 c5
              refine wl_n rfl rfl rfl rfl ?_
              refine wl_n rfl rfl rfl rfl ?_
              refine wl_n rfl rfl rfl rfl ?_
              refine wl_n rfl rfl rfl rfl ?_
              refine wl_n rfl rfl rfl rfl ?_
              refine wl_n rfl rfl rfl rfl ?_
              refine wl_n rfl rfl rfl rfl ?_
              refine wl_n rfl rfl rfl rfl ?_
              refine wl_n rfl rfl rfl rfl ?_
              refine wl_n rfl rfl rfl rfl ?_
              refine wl_u rfl (ow_y (yh_pickF rfl rfl rfl) rfl rfl (kk_wl ?_))
              refine wl_nil ?_
              obtain rfl := Option.some.inj h
              exact ex_next [2, 3, 4, 5, 1, 0] (hn119 () trivial) ⟨rfl, rfl, rfl, rfl, rfl, rfl, rfl, rfl, trivial⟩ (by kernel_rfl)
    · refine ⟨_, rfl, rfl, ?_⟩
      refine (ow_allocA Tb rfl rfl rfl rfl (fun g8 => kk_wd [1, 2, 3, 4] (by kernel_rfl) ?_))
      obtain ⟨x29, hx29, h⟩ := bd h
      refine wd_one 8 rfl rfl (by kernel_rfl) (ow_cV rfl hb84 rfl (fun w hw => c_spec_l2At N _ _ _ hx29 w (Lay.at_ h_u1_steps hw)) rfl rfl (kk_wd [1, 2, 3, 4] (by kernel_rfl) ?_))
      obtain ⟨y30, zy30, h⟩ := bd h
      obtain ⟨iy30, hy30⟩ := geti_some zy30
      obtain ⟨b30, o30, ha30⟩ := sl_addr h_u1_steps hy30
      subst ha30
      obtain ⟨a30, e30, hc30, hf30⟩ := get_step h_u1_steps hy30
      have mx30 := rd_max hf30
      refine wd_take (i := 9) [1, 2, 3, 4] rfl rfl rfl rfl rfl (by kernel_rfl) (by kernel_rfl) (fun _ _ _ _ h => h) (yh_idx Tb (k := x29.toNat) rfl rfl rfl iy30 (get_lt hy30) rfl rfl) ?_
      refine wd_take (i := 10) [1, 2, 3, 4] rfl rfl rfl rfl rfl (by kernel_rfl) (by kernel_rfl) (fun _ _ _ _ h => h) (yh_loadAN Tb rfl rfl rfl rfl hc30 rfl) ?_
      refine wd_one 12 rfl rfl (by kernel_rfl) (ow_storeA Tb (k := 0) rfl rfl rfl rfl rfl rfl rfl rfl rfl (kk_wdT rfl ?_))
      refine wd_done (by kernel_rfl) ?_
      refine ex_seq ?_
      refine cw_seq ?_
      refine cw_region ?_
      refine wl_u rfl (ow_y (yh_field Tb rfl rfl rfl) rfl rfl (kk_wl ?_))
      refine wl_u rfl (ow_y (yh_loadB Tb (k := 1) rfl rfl rfl rfl rfl) rfl rfl (kk_wl ?_))
      refine wl_u rfl (ow_y (yh_field Tb rfl rfl rfl) rfl rfl (kk_wl ?_))
      refine wl_u rfl (ow_y (yh_loadB Tb (k := 0) rfl rfl rfl rfl rfl) rfl rfl (kk_wl ?_))
      obtain ⟨x36, hx36, h⟩ := bd h
      refine wl_u rfl (ow_cV rfl hb84 rfl (fun w hw => c_spec_l2At N _ _ _ hx36 w (Lay.at_ h_u0_steps hw)) rfl rfl (kk_wl ?_))
      refine wl_u rfl (ow_y (yh_assign rfl rfl) rfl rfl (kk_wl ?_))
      refine wl_nil ?_
      refine ex_seq ?_
      refine cw_seq ?_
      refine cw_seq ?_
      refine cw_region ?_
      refine wl_u rfl (ow_y (yh_move rfl rfl) rfl rfl (kk_wl ?_))
      refine wl_u rfl (ow_y (yh_cmpI rfl rfl rfl rfl) rfl rfl (kk_wl ?_))
      refine wl_nil ?_
      refine ex_seq ?_
      refine cw_split rfl (fun c6 => ?_) (fun c6 => ?_)
      · skip
        replace h := bt c6 h
        have q6 := ltb_true.1 c6
        refine cw_seq ?_
        refine cw_region ?_
        refine wl_u rfl (ow_y (yh_move rfl rfl) rfl rfl (kk_wl ?_))
        refine wl_u rfl (ow_y (yh_loadBA Tb (k := 0) rfl rfl rfl rfl rfl rfl) rfl rfl (kk_wl ?_))
        obtain ⟨x41, hx41, h⟩ := bd h
        refine wl_u rfl (ow_cN1 rfl hb88 rfl (fun w hw => c_spec_l2Step N _ _ hx41 w (Lay.at_ hf30 hw)) rfl rfl (fun a41 c41 F41 => kk_wl ?_))
        refine wl_u rfl (ow_y (yh_build [.int .i64 1, .string x41.name, .slice a41 x41.after.length c41, .bool x41.undo] rfl rfl (by kernel_rfl)) rfl rfl (kk_wl ?_))
        refine wl_u rfl (ow_litA Tb rfl rfl rfl rfl rfl rfl (by decide) rfl rfl (fun g43 => kk_wl ?_))
        obtain ⟨hll44, h⟩ := bd_appd h
        refine wl_u rfl (ow_chg (c' := owC changeL F41 [.int .i64 1, .string x41.name, .slice a41 x41.after.length c41, .bool x41.undo] (Change.mk 1 x41)) 1 rfl (fun w hA => changeL_mk (Change.mk 1 x41) hA) rfl (ow_appE Tb (i := 5) (j := 0) (k := 1) rfl rfl rfl rfl rfl rfl rfl rfl rfl rfl rfl (app1 hll44) (by decide) rfl rfl (fun a44 c44 F44 => kk_wl ?_)))
        refine wl_u rfl (ow_y (yh_assign rfl rfl) rfl rfl (kk_wl ?_))
        refine wl_nil ?_
        refine ex_seq ?_
        refine cw_exit ?_
        refine ex_then_exit ?_
        refine ex_block_exit ?_
        refine ex_seq ?_
        refine cw_region ?_
        refine wl_u rfl (ow_y (yh_move rfl rfl) rfl rfl (kk_wl ?_))
        refine wl_u rfl (ow_y (yh_arI rfl rfl rfl rfl (by omega)) rfl rfl (kk_wl ?_))
        refine wl_u rfl (ow_y (yh_assign rfl rfl) rfl rfl (kk_wl ?_))
        refine wl_nil ?_
        exact ex_next [3, 4, 0, 5] (hn7 (n7, (s5 ++ [(Change.mk 1 x41)]), s7 + 1, a44, c44, F44) (Nat.lt_succ_self _) h) ⟨rfl, rfl, rfl, rfl, rfl, trivial⟩ (by kernel_rfl)
      · skip
        replace h := bf c6 h
        have q7 := ltb_false.1 c6
        refine cw_skip ?_
        refine ex_seq ?_
        refine cw_seq ?_
        refine cw_region ?_
        refine wl_u rfl (ow_y (yh_field Tb rfl rfl rfl) rfl rfl (kk_wl ?_))
        refine wl_u rfl (ow_y (yh_loadB Tb (k := 1) rfl rfl rfl rfl rfl) rfl rfl (kk_wl ?_))
        refine wl_u rfl (ow_y (yh_move rfl rfl) rfl rfl (kk_wl ?_))
        obtain ⟨y48, zy48, h⟩ := bd h
        obtain ⟨iy48, hy48⟩ := geti_some zy48
        obtain ⟨b48, o48, ha48⟩ := sl_addr h_u0_steps hy48
        subst ha48
        obtain ⟨a48, e48, hc48, hf48⟩ := get_step h_u0_steps hy48
        have mx48 := rd_max hf48
        refine wl_u rfl (ow_y (yh_idx Tb (k := x36.toNat) rfl rfl rfl iy48 (get_lt hy48) rfl rfl) rfl rfl (kk_wl ?_))
        refine wl_u rfl (ow_y (yh_loadAN Tb rfl rfl rfl rfl hc48 rfl) rfl rfl (kk_wl ?_))
        refine wl_u rfl (ow_allocA Tb rfl rfl rfl rfl (fun g10 => kk_wl ?_))
        refine wl_u rfl (ow_storeA Tb (k := 0) rfl rfl rfl rfl rfl rfl rfl rfl rfl (kk_wl ?_))
        refine wl_nil ?_
        refine ex_seq ?_
        obtain ⟨j118, he118, hk118⟩ := bd h
        clear h
        refine cw_cut (σ := (Option Addr) × Nat × (List Nat)) (fun s => True) (fun s => [(2, .pointer (some ⟨g2, 0, none⟩)), (3, .pointer (some ⟨g3, 0, none⟩)), (5, .slice s.1 j118.length s.2.1), (6, .slice (some ⟨g27, 0, none⟩) x14.length c14), (7, .int .i64 ((s7 : Nat) : Int)), (8, .pointer (some ⟨g8, 0, none⟩)), (10, .pointer (some ⟨g10, 0, none⟩))]) (fun s => [blkC g2 25 [.int .i64 u0.ver, .slice (some ⟨b48, o48, none⟩) u0.steps.length c_u0_steps], blkC g3 25 [.int .i64 u1.ver, .slice (some ⟨b30, o30, none⟩) u1.steps.length c_u1_steps], owC changesL s.2.2 [.slice s.1 j118.length s.2.1] j118, owC strsL F14 [.slice (some ⟨g27, 0, none⟩) x14.length c14] x14, blkC g8 49 [.string y30.name, .slice a30 y30.after.length e30, .bool y30.undo], blkC g10 49 [.string y48.name, .slice a48 y48.after.length e48, .bool y48.undo]]) (fun s hI => ?_) (fun KL hn118 => ?_)
        · skip
          obtain ⟨ak118_5, ck118_5, Fk118_5⟩ := s
          simp only at ⊢
          have h := hk118
          refine cw_seq ?_
          refine cw_region ?_
          refine wl_u rfl (ow_y (yh_field Tb rfl rfl rfl) rfl rfl (kk_wl ?_))
          refine wl_u rfl (ow_y (yh_loadB Tb (k := 5) rfl rfl rfl rfl rfl) rfl rfl (kk_wl ?_))
          refine wl_u rfl (ow_y (yh_field Tb rfl rfl rfl) rfl rfl (kk_wl ?_))
          refine wl_u rfl (ow_y (yh_loadB Tb (k := 4) rfl rfl rfl rfl rfl) rfl rfl (kk_wl ?_))
          refine wl_u rfl (ow_y (yh_cmpB rfl rfl rfl rfl (by kernel_rfl)) rfl rfl (kk_wl ?_))
          refine wl_nil ?_
          refine ex_seq ?_
          refine cw_split rfl (fun c7 => ?_) (fun c7 => ?_)
          · skip
            replace h := bt c7 h
            refine cw_region ?_
            refine wl_u rfl (ow_y (yh_move rfl rfl) rfl rfl (kk_wl ?_))
            refine wl_u rfl (ow_y (yh_field Tb rfl rfl rfl) rfl rfl (kk_wl ?_))
            refine wl_u rfl (ow_y (yh_loadB Tb (k := 4) rfl rfl rfl rfl rfl) rfl rfl (kk_wl ?_))
            refine wl_u rfl (ow_lit0 Tb rfl rfl rfl rfl rfl rfl (fun g84 => kk_chg (c' := owC strsL [g84] [.slice (some ⟨g84, 0, none⟩) 0 0] ([] : List Str)) 0 rfl (fun w hA => own_strsL ([] : List Str) hA rfl (by simp [maxLen])) rfl (kk_wl ?_)))
            refine wl_u rfl (ow_y (yh_field Tb rfl rfl rfl) rfl rfl (kk_wl ?_))
            refine wl_u rfl (ow_y (yh_loadB Tb (k := 5) rfl rfl rfl rfl rfl) rfl rfl (kk_wl ?_))
            refine wl_u rfl (ow_y (yh_buildA rfl rfl (by kernel_rfl)) rfl rfl (kk_wl ?_))
            refine wl_u rfl (ow_y (yh_build [.int .i64 4, .string y30.name, .slice (some ⟨g84, 0, none⟩) 0 0, .bool y30.undo] rfl rfl (by kernel_rfl)) rfl rfl (kk_wl ?_))
            refine wl_u rfl (ow_litA Tb rfl rfl rfl rfl rfl rfl (by decide) rfl rfl (fun g89 => kk_wl ?_))
            obtain ⟨hll90, h⟩ := bd_appd h
            refine wl_u rfl (ow_chg (c' := owC changeL [g84] [.int .i64 4, .string y30.name, .slice (some ⟨g84, 0, none⟩) 0 0, .bool y30.undo] (Change.mk 4 (Step.mk y30.name ([] : List Str) y30.undo))) 1 rfl (fun w hA => changeL_mk (Change.mk 4 (Step.mk y30.name ([] : List Str) y30.undo)) hA) rfl (ow_appE Tb (i := 4) (j := 0) (k := 1) rfl rfl rfl rfl rfl rfl rfl rfl rfl rfl rfl (app1 hll90) (by decide) rfl rfl (fun a90 c90 F90 => kk_wl ?_)))
            refine wl_u rfl (ow_y (yh_assign rfl rfl) rfl rfl (kk_wl ?_))
            refine wl_nil ?_
            refine ex_block_normal ?_
            refine ex_seq ?_
            refine cw_region ?_
            refine wl_u rfl (ow_y (yh_move rfl rfl) rfl rfl (kk_wl ?_))
            refine wl_u rfl (ow_y (yh_arI rfl rfl rfl rfl (by omega)) rfl rfl (kk_wl ?_))
            refine wl_u rfl (ow_y (yh_assign rfl rfl) rfl rfl (kk_wl ?_))
            refine wl_nil ?_
            exact ex_next [2, 3, 0, 4] (hn7 (n7, (j118 ++ ([(Change.mk 4 (Step.mk y30.name ([] : List Str) y30.undo))])), s7 + 1, a90, c90, F90) (Nat.lt_succ_self _) h) ⟨rfl, rfl, rfl, rfl, rfl, trivial⟩ (by kernel_rfl)
          · skip
            replace h := bf c7 h
            refine cw_skip ?_
            refine ex_block_normal ?_
            refine ex_seq ?_
            refine cw_region ?_
            refine wl_u rfl (ow_y (yh_move rfl rfl) rfl rfl (kk_wl ?_))
            refine wl_u rfl (ow_y (yh_arI rfl rfl rfl rfl (by omega)) rfl rfl (kk_wl ?_))
            refine wl_u rfl (ow_y (yh_assign rfl rfl) rfl rfl (kk_wl ?_))
            refine wl_nil ?_
            exact ex_next [0, 1, 2, 3] (hn7 (n7, j118, s7 + 1, ak118_5, ck118_5, Fk118_5) (Nat.lt_succ_self _) h) ⟨rfl, rfl, rfl, rfl, rfl, trivial⟩ (by kernel_rfl)
        · skip
          have h := he118
          obtain ⟨j119, he119, hk119⟩ := bd h
          clear h
          refine cw_cut (σ := Unit) (fun s => True) (fun s => [(2, .pointer (some ⟨g2, 0, none⟩)), (3, .pointer (some ⟨g3, 0, none⟩)), (5, .slice as5 s5.length cs5), (6, .slice (some ⟨g27, 0, none⟩) x14.length c14), (7, .int .i64 ((s7 : Nat) : Int)), (8, .pointer (some ⟨g8, 0, none⟩)), (10, .pointer (some ⟨g10, 0, none⟩)), (65, .bool j119)]) (fun s => [blkC g2 25 [.int .i64 u0.ver, .slice (some ⟨b48, o48, none⟩) u0.steps.length c_u0_steps], blkC g3 25 [.int .i64 u1.ver, .slice (some ⟨b30, o30, none⟩) u1.steps.length c_u1_steps], owC changesL Fs5 [.slice as5 s5.length cs5] s5, owC strsL F14 [.slice (some ⟨g27, 0, none⟩) x14.length c14] x14, blkC g8 49 [.string y30.name, .slice a30 y30.after.length e30, .bool y30.undo], blkC g10 49 [.string y48.name, .slice a48 y48.after.length e48, .bool y48.undo]]) (fun s hI => ?_) (fun KL hn119 => ?_)
          · skip
            have h := hk119
            refine cw_split rfl (fun c8 => ?_) (fun c8 => ?_)
            · skip
              replace h := bt c8 h
              refine cw_region ?_
              refine wl_u rfl (ow_y (yh_move rfl rfl) rfl rfl (kk_wl ?_))
              refine wl_u rfl (ow_y (yh_field Tb rfl rfl rfl) rfl rfl (kk_wl ?_))
              refine wl_u rfl (ow_y (yh_loadB Tb (k := 4) rfl rfl rfl rfl rfl) rfl rfl (kk_wl ?_))
              refine wl_u rfl (ow_y (yh_field Tb rfl rfl rfl) rfl rfl (kk_wl ?_))
              refine wl_u rfl (ow_y (yh_loadB Tb (k := 4) rfl rfl rfl rfl rfl) rfl rfl (kk_wl ?_))
              refine wl_u rfl (ow_y (yh_build [.string y30.name, .slice a30 y30.after.length e30, .bool false] rfl rfl (by kernel_rfl)) rfl rfl (kk_wl ?_))
              obtain ⟨x72, hx72, h⟩ := bd h
              refine wl_u rfl (ow_cN1 rfl hb88 rfl (fun w hw => c_spec_l2Step N _ _ hx72 w (Lay.at_ hf30 hw)) rfl rfl (fun a72 c72 F72 => kk_wl ?_))
              refine wl_u rfl (ow_y (yh_build [.int .i64 3, .string x72.name, .slice a72 x72.after.length c72, .bool x72.undo] rfl rfl (by kernel_rfl)) rfl rfl (kk_wl ?_))
              refine wl_u rfl (ow_litA Tb rfl rfl rfl rfl rfl rfl (by decide) rfl rfl (fun g74 => kk_wl ?_))
              obtain ⟨hll75, h⟩ := bd_appd h
              refine wl_u rfl (ow_chg (c' := owC changeL F72 [.int .i64 3, .string x72.name, .slice a72 x72.after.length c72, .bool x72.undo] (Change.mk 3 x72)) 1 rfl (fun w hA => changeL_mk (Change.mk 3 x72) hA) rfl (ow_appE Tb (i := 4) (j := 0) (k := 1) rfl rfl rfl rfl rfl rfl rfl rfl rfl rfl rfl (app1 hll75) (by decide) rfl rfl (fun a75 c75 F75 => kk_wl ?_)))
              refine wl_u rfl (ow_y (yh_assign rfl rfl) rfl rfl (kk_wl ?_))
              refine wl_nil ?_
              obtain rfl := Option.some.inj h
              exact ex_next [2, 3, 0, 4, 5, 6] (hn118 (a75, c75, F75) trivial) ⟨rfl, rfl, rfl, rfl, rfl, rfl, rfl, trivial⟩ (by kernel_rfl)
            · skip
              replace h := bf c8 h
              refine cw_skip ?_
              obtain rfl := Option.some.inj h
              exact ex_next [0, 1, 2, 3, 4, 5] (hn118 (as5, cs5, Fs5) trivial) ⟨rfl, rfl, rfl, rfl, rfl, rfl, rfl, trivial⟩ (by kernel_rfl)
          · skip
            have h := he119
            refine cw_region ?_
            refine wl_u rfl (ow_y (yh_field Tb rfl rfl rfl) rfl rfl (kk_wl ?_))
            refine wl_u rfl (ow_y (yh_loadB Tb (k := 1) rfl rfl rfl rfl rfl) rfl rfl (kk_wl ?_))
            refine wl_u rfl (ow_y (yh_lenS Tb rfl rfl rfl rfl) rfl rfl (kk_wl ?_))
            refine wl_u rfl (ow_y (yh_cmpI rfl rfl rfl rfl) rfl rfl (kk_wl ?_))
            refine wl_u rfl (ow_y (yh_move rfl rfl) rfl rfl (kk_wl ?_))
            refine wl_s rfl rfl (fun c9 => ?_) (fun c9 => ?_)
            · skip
              replace h := bt c9 h
              have q8 := ltb_true.1 c9
              refine wl_g rfl rfl (ow_y (yh_loadBA Tb (k := 0) rfl rfl rfl rfl rfl rfl) rfl rfl (kk_wl ?_))
              refine wl_g rfl rfl (ow_y (yh_field Tb rfl rfl rfl) rfl rfl (kk_wl ?_))
              refine wl_g rfl rfl (ow_y (yh_loadB Tb (k := 1) rfl rfl rfl rfl rfl) rfl rfl (kk_wl ?_))
              refine wl_g rfl rfl (ow_y (yh_field Tb rfl rfl rfl) rfl rfl (kk_wl ?_))
              refine wl_g rfl rfl (ow_y (yh_loadB Tb (k := 1) rfl rfl rfl rfl rfl) rfl rfl (kk_wl ?_))
              refine wl_g rfl rfl (ow_y (yh_field Tb rfl rfl rfl) rfl rfl (kk_wl ?_))
              refine wl_g rfl rfl (ow_y (yh_loadB Tb (k := 0) rfl rfl rfl rfl rfl) rfl rfl (kk_wl ?_))
              refine wl_g rfl rfl (ow_y (yh_buildA rfl rfl (by kernel_rfl)) rfl rfl (kk_wl ?_))
              obtain ⟨x63, hx63, h⟩ := bd h
              refine wl_g rfl rfl (ow_cV rfl hb87 rfl (fun w hw => c_spec_l12Same N _ _ _ hx63 w (Lay.at_ hf48 hw) (Lay.at_ hf30 hw)) rfl rfl (kk_wl ?_))
              refine wl_g rfl rfl (ow_y (yh_not rfl rfl) rfl rfl (kk_wl ?_))
              refine wl_u rfl (ow_y (yh_pickT rfl rfl rfl) rfl rfl (kk_wl ?_))
              refine wl_nil ?_
              obtain rfl := Option.some.inj h
              exact ex_next [2, 3, 4, 5, 1, 0] (hn119 () trivial) ⟨rfl, rfl, rfl, rfl, rfl, rfl, rfl, rfl, trivial⟩ (by kernel_rfl)
            · skip
              replace h := bf c9 h
              have q9 := ltb_false.1 c9
              refine wl_n rfl rfl rfl rfl ?_
              refine wl_n rfl rfl rfl rfl ?_
              refine wl_n rfl rfl rfl rfl ?_
              refine wl_n rfl rfl rfl rfl ?_
              refine wl_n rfl rfl rfl rfl ?_
              refine wl_n rfl rfl rfl rfl ?_
              refine wl_n rfl rfl rfl rfl ?_
              refine wl_n rfl rfl rfl rfl ?_
              refine wl_n rfl rfl rfl rfl ?_
              refine wl_n rfl rfl rfl rfl ?_
              refine wl_u rfl (ow_y (yh_pickF rfl rfl rfl) rfl rfl (kk_wl ?_))
              refine wl_nil ?_
              obtain rfl := Option.some.inj h
              exact ex_next [2, 3, 4, 5, 1, 0] (hn119 () trivial) ⟨rfl, rfl, rfl, rfl, rfl, rfl, rfl, rfl, trivial⟩ (by kernel_rfl)
  · skip
    replace h := bf c1 h
    have q10 := ltb_false.1 c1
    refine cw_exit ?_
    refine ex_then_exit ?_
    refine ex_then_exit ?_
    obtain rfl := Option.some.inj h
    have h := go_brk hk7
    refine ex_block_exit ?_
    refine ex_seq ?_
    refine cw_seq ?_
    refine cw_region ?_
    refine wl_u rfl (ow_y (yh_move rfl rfl) rfl rfl (kk_wl ?_))
    refine wl_u rfl (ow_y (yh_assign rfl rfl) rfl rfl (kk_wl ?_))
    refine wl_nil ?_
    refine ex_seq ?_
    refine cw_ret ?_
    obtain rfl := Option.some.inj h
    exact ex_r1 Tb rfl (.tmp rfl) (fun wq hq => ⟨_, rfl, hq.ext, ⟨as5, cs5, Fs5, rfl, NewC.sel [2] hq rfl⟩⟩)

def m_spec_ChangesOf (N : Nat) (f : Flow) (g : Flow) : Option (List Change × Bool) := (m_spec_FlowValid N f).bind fun x8 => (bif !x8 then some (([] : List Change), false)
 else (m_spec_FlowValid N g).bind fun x12 => (bif !x12 then some (([] : List Change), false)
 else (m_spec_l12Both N f g).bind fun x18 => (bif !x18 then some (([] : List Change), false)
 else (m_spec_l12Free N f g).bind fun x24 => (m_spec_l12Gone N f g).bind fun x28 => (appd x24 x28).bind fun l29 => (m_spec_l12Made N f g).bind fun x33 => (appd (x24 ++ x28) x33).bind fun l34 => some (((x24 ++ x28) ++ x33), true))))

set_option maxHeartbeats 4000000 in
theorem c_spec_ChangesOf (N : Nat) (f : Flow) (g : Flow) (res : List Change × Bool) (h : m_spec_ChangesOf N f g = some res) (w : World) {a_f_steps a_g_steps : Option Addr} {c_f_steps c_g_steps : Nat} (h_f_steps : stepsL.rd w [] [.slice a_f_steps f.steps.length c_f_steps] f.steps) (h_g_steps : stepsL.rd w [] [.slice a_g_steps g.steps.length c_g_steps] g.steps) : Ret Tryz.prog 9 [.agg #[.int .i64 f.ver, .slice a_f_steps f.steps.length c_f_steps], .agg #[.int .i64 g.ver, .slice a_g_steps g.steps.length c_g_steps]] w [] fun v w' => ∃ a1 c1 F1, v = .tuple #[.slice a1 res.1.length c1, .bool res.2] ∧ NewC w w' [owC changesL F1 [.slice a1 res.1.length c1] res.1] := by
  have mh_f_steps := rd_max h_f_steps
  have mh_g_steps := rd_max h_g_steps
  unfold m_spec_ChangesOf at h
  refine ret_enter Tryz.func9 rfl Tryz.ntmps9 rfl (Hp.refl w _) ?_
  refine cw_seq ?_
  refine cw_region ?_
  refine wl_u rfl (ow_boxA rfl rfl rfl rfl (fun g2 => kk_wl ?_))
  refine wl_u rfl (ow_boxA rfl rfl rfl rfl (fun g3 => kk_wl ?_))
  refine wl_u rfl (ow_y (yh_assign rfl rfl) rfl rfl (kk_wl ?_))
  refine wl_u rfl (ow_y (yh_assign rfl rfl) rfl rfl (kk_wl ?_))
  refine wl_nil ?_
  refine ex_seq ?_
  refine cw_seq ?_
  refine cw_seq ?_
  refine cw_region ?_
  refine wl_u rfl (ow_y (yh_loadBA Tb (k := 1) rfl rfl rfl rfl rfl rfl) rfl rfl (kk_wl ?_))
  obtain ⟨x8, hx8, h⟩ := bd h
  refine wl_u rfl (ow_cV rfl hb42 rfl (fun w hw => c_spec_FlowValid N _ _ hx8 w (Lay.at_ h_f_steps hw)) rfl rfl (kk_wl ?_))
  refine wl_u rfl (ow_y (yh_not rfl rfl) rfl rfl (kk_wl ?_))
  refine wl_u rfl (ow_y (yh_move rfl rfl) rfl rfl (kk_wl ?_))
  refine wl_s rfl rfl (fun c1 => ?_) (fun c1 => ?_)
  · skip
    replace h := bt c1 h
    refine wl_n rfl rfl rfl rfl ?_
    refine wl_n rfl rfl rfl rfl ?_
    refine wl_n rfl rfl rfl rfl ?_
    refine wl_u rfl (ow_y (yh_pickT rfl rfl rfl) rfl rfl (kk_wl ?_))
    refine wl_u rfl (ow_y (yh_move rfl rfl) rfl rfl (kk_wl ?_))
    refine wl_s rfl rfl (fun _ => ?_) nofun
    refine wl_n rfl rfl rfl rfl ?_
    refine wl_n rfl rfl rfl rfl ?_
    refine wl_n rfl rfl rfl rfl ?_
    refine wl_n rfl rfl rfl rfl ?_
    refine wl_u rfl (ow_y (yh_pickT rfl rfl rfl) rfl rfl (kk_wl ?_))
    refine wl_nil ?_
    refine ex_seq ?_
    refine cw_true rfl ?_
    refine cw_seq ?_
    refine cw_region ?_
    refine wl_u rfl (ow_lit0 Tb rfl rfl rfl rfl rfl rfl (fun g21 => kk_chg (c' := owC changesL [g21] [.slice (some ⟨g21, 0, none⟩) 0 0] ([] : List Change)) 0 rfl (fun w hA => own_changesL ([] : List Change) hA rfl (by simp [maxLen])) rfl (kk_wl ?_)))
    refine wl_u rfl (ow_y (yh_assign rfl rfl) rfl rfl (kk_wl ?_))
    refine wl_u rfl (ow_y (yh_assign rfl rfl) rfl rfl (kk_wl ?_))
    refine wl_nil ?_
    refine ex_seq ?_
    refine cw_ret ?_
    refine ex_then_ret ?_
    obtain rfl := Option.some.inj h
    exact ex_r2 Tb rfl (.tmp rfl) (.tmp rfl) (fun wq hq => ⟨_, rfl, hq.ext, ⟨(some ⟨g21, 0, none⟩), 0, [g21], rfl, NewC.sel [0] hq rfl⟩⟩)
  · skip
    replace h := bf c1 h
    refine wl_g rfl rfl (ow_y (yh_loadBA Tb (k := 0) rfl rfl rfl rfl rfl rfl) rfl rfl (kk_wl ?_))
    obtain ⟨x12, hx12, h⟩ := bd h
    refine wl_g rfl rfl (ow_cV rfl hb42 rfl (fun w hw => c_spec_FlowValid N _ _ hx12 w (Lay.at_ h_g_steps hw)) rfl rfl (kk_wl ?_))
    refine wl_g rfl rfl (ow_y (yh_not rfl rfl) rfl rfl (kk_wl ?_))
    refine wl_u rfl (ow_y (yh_pickF rfl rfl rfl) rfl rfl (kk_wl ?_))
    refine wl_u rfl (ow_y (yh_move rfl rfl) rfl rfl (kk_wl ?_))
    refine wl_s rfl rfl (fun c2 => ?_) (fun c2 => ?_)
    · skip
      replace h := bt c2 h
      refine wl_n rfl rfl rfl rfl ?_
      refine wl_n rfl rfl rfl rfl ?_
      refine wl_n rfl rfl rfl rfl ?_
      refine wl_n rfl rfl rfl rfl ?_
      refine wl_u rfl (ow_y (yh_pickT rfl rfl rfl) rfl rfl (kk_wl ?_))
      refine wl_nil ?_
      refine ex_seq ?_
      refine cw_true rfl ?_
      refine cw_seq ?_
      refine cw_region ?_
      refine wl_u rfl (ow_lit0 Tb rfl rfl rfl rfl rfl rfl (fun g21 => kk_chg (c' := owC changesL [g21] [.slice (some ⟨g21, 0, none⟩) 0 0] ([] : List Change)) 0 rfl (fun w hA => own_changesL ([] : List Change) hA rfl (by simp [maxLen])) rfl (kk_wl ?_)))
      refine wl_u rfl (ow_y (yh_assign rfl rfl) rfl rfl (kk_wl ?_))
      refine wl_u rfl (ow_y (yh_assign rfl rfl) rfl rfl (kk_wl ?_))
      refine wl_nil ?_
      refine ex_seq ?_
      refine cw_ret ?_
      refine ex_then_ret ?_
      obtain rfl := Option.some.inj h
      exact ex_r2 Tb rfl (.tmp rfl) (.tmp rfl) (fun wq hq => ⟨_, rfl, hq.ext, ⟨(some ⟨g21, 0, none⟩), 0, [g21], rfl, NewC.sel [0] hq rfl⟩⟩)
    · skip
      replace h := bf c2 h
      refine wl_g rfl rfl (ow_y (yh_loadBA Tb (k := 1) rfl rfl rfl rfl rfl rfl) rfl rfl (kk_wl ?_))
      refine wl_g rfl rfl (ow_y (yh_loadBA Tb (k := 0) rfl rfl rfl rfl rfl rfl) rfl rfl (kk_wl ?_))
      obtain ⟨x18, hx18, h⟩ := bd h
      refine wl_g rfl rfl (ow_cV rfl hb43 rfl (fun w hw => c_spec_l12Both N _ _ _ hx18 w (Lay.at_ h_f_steps hw) (Lay.at_ h_g_steps hw)) rfl rfl (kk_wl ?_))
      refine wl_g rfl rfl (ow_y (yh_not rfl rfl) rfl rfl (kk_wl ?_))
      refine wl_u rfl (ow_y (yh_pickF rfl rfl rfl) rfl rfl (kk_wl ?_))
      refine wl_nil ?_
      refine ex_seq ?_
      refine cw_split rfl (fun c3 => ?_) (fun c3 => ?_)
      · skip
        replace h := bt c3 h
        refine cw_seq ?_
        refine cw_region ?_
        refine wl_u rfl (ow_lit0 Tb rfl rfl rfl rfl rfl rfl (fun g21 => kk_chg (c' := owC changesL [g21] [.slice (some ⟨g21, 0, none⟩) 0 0] ([] : List Change)) 0 rfl (fun w hA => own_changesL ([] : List Change) hA rfl (by simp [maxLen])) rfl (kk_wl ?_)))
        refine wl_u rfl (ow_y (yh_assign rfl rfl) rfl rfl (kk_wl ?_))
        refine wl_u rfl (ow_y (yh_assign rfl rfl) rfl rfl (kk_wl ?_))
        refine wl_nil ?_
        refine ex_seq ?_
        refine cw_ret ?_
        refine ex_then_ret ?_
        obtain rfl := Option.some.inj h
        exact ex_r2 Tb rfl (.tmp rfl) (.tmp rfl) (fun wq hq => ⟨_, rfl, hq.ext, ⟨(some ⟨g21, 0, none⟩), 0, [g21], rfl, NewC.sel [0] hq rfl⟩⟩)
      · skip
        replace h := bf c3 h
        refine cw_skip ?_
        refine ex_seq ?_
        refine cw_seq ?_
        refine cw_region ?_
        refine wl_u rfl (ow_y (yh_loadBA Tb (k := 1) rfl rfl rfl rfl rfl rfl) rfl rfl (kk_wl ?_))
        refine wl_u rfl (ow_y (yh_loadBA Tb (k := 0) rfl rfl rfl rfl rfl rfl) rfl rfl (kk_wl ?_))
        obtain ⟨x24, hx24, h⟩ := bd h
        refine wl_u rfl (ow_cN1 rfl hb44 rfl (fun w hw => c_spec_l12Free N _ _ _ hx24 w (Lay.at_ h_f_steps hw) (Lay.at_ h_g_steps hw)) rfl rfl (fun a24 c24 F24 => kk_wl ?_))
        refine wl_u rfl (ow_y (yh_assign rfl rfl) rfl rfl (kk_wl ?_))
        refine wl_nil ?_
        refine ex_seq ?_
        refine cw_seq ?_
        refine cw_region ?_
        refine wl_u rfl (ow_y (yh_move rfl rfl) rfl rfl (kk_wl ?_))
        refine wl_u rfl (ow_y (yh_loadBA Tb (k := 2) rfl rfl rfl rfl rfl rfl) rfl rfl (kk_wl ?_))
        refine wl_u rfl (ow_y (yh_loadBA Tb (k := 1) rfl rfl rfl rfl rfl rfl) rfl rfl (kk_wl ?_))
        obtain ⟨x28, hx28, h⟩ := bd h
        refine wl_u rfl (ow_cN1 rfl hb45 rfl (fun w hw => c_spec_l12Gone N _ _ _ hx28 w (Lay.at_ h_f_steps hw) (Lay.at_ h_g_steps hw)) rfl rfl (fun a28 c28 F28 => kk_wl ?_))
        obtain ⟨hll29, h⟩ := bd_appd h
        refine wl_u rfl (ow_appN Tb 1 0 rfl rfl rfl rfl rfl rfl rfl rfl rfl rfl hll29 (by decide) rfl rfl (fun a29 c29 F29 => kk_wl ?_))
        refine wl_u rfl (ow_y (yh_assign rfl rfl) rfl rfl (kk_wl ?_))
        refine wl_nil ?_
        refine ex_seq ?_
        refine cw_seq ?_
        refine cw_region ?_
        refine wl_u rfl (ow_y (yh_move rfl rfl) rfl rfl (kk_wl ?_))
        refine wl_u rfl (ow_y (yh_loadBA Tb (k := 2) rfl rfl rfl rfl rfl rfl) rfl rfl (kk_wl ?_))
        refine wl_u rfl (ow_y (yh_loadBA Tb (k := 1) rfl rfl rfl rfl rfl rfl) rfl rfl (kk_wl ?_))
        obtain ⟨x33, hx33, h⟩ := bd h
        refine wl_u rfl (ow_cN1 rfl hb46 rfl (fun w hw => c_spec_l12Made N _ _ _ hx33 w (Lay.at_ h_f_steps hw) (Lay.at_ h_g_steps hw)) rfl rfl (fun a33 c33 F33 => kk_wl ?_))
        obtain ⟨hll34, h⟩ := bd_appd h
        refine wl_u rfl (ow_appN Tb 1 0 rfl rfl rfl rfl rfl rfl rfl rfl rfl rfl hll34 (by decide) rfl rfl (fun a34 c34 F34 => kk_wl ?_))
        refine wl_u rfl (ow_y (yh_assign rfl rfl) rfl rfl (kk_wl ?_))
        refine wl_u rfl (ow_y (yh_assign rfl rfl) rfl rfl (kk_wl ?_))
        refine wl_nil ?_
        refine ex_seq ?_
        refine cw_ret ?_
        obtain rfl := Option.some.inj h
        exact ex_r2 Tb rfl (.tmp rfl) (.tmp rfl) (fun wq hq => ⟨_, rfl, hq.ext, ⟨a34, c34, F34, rfl, NewC.sel [0] hq rfl⟩⟩)

def m_laws_sameTexts_L8 (N : Nat) (a : List Str) (b : List Str) : Nat → Nat → Option (Ex (Nat) (Bool))
  | 0, _ => none
  | n + 1, s5 => (bif ltb ((s5 : Nat) : Int) ((a.length : Nat) : Int) then (a[s5]?).bind fun y19 => (b[s5]?).bind fun y23 => (bif !(seq y19 y23) then some (Ex.ret false)
 else m_laws_sameTexts_L8 N a b n (s5 + 1))
 else some (Ex.brk (s5)))

def m_laws_sameTexts (N : Nat) (a : List Str) (b : List Str) : Option (Bool) := (bif !(eqb ((a.length : Nat) : Int) ((b.length : Nat) : Int)) then some false
 else (m_laws_sameTexts_L8 N a b N 0).bind fun e8 => e8.go (fun r => r) fun b8 => some true)

set_option maxHeartbeats 4000000 in
theorem c_laws_sameTexts (N : Nat) (a : List Str) (b : List Str) (res : Bool) (h : m_laws_sameTexts N a b = some res) (w : World) {a_a a_b : Option Addr} {c_a c_b : Nat} (h_a : strsL.rd w [] [.slice a_a a.length c_a] a) (h_b : strsL.rd w [] [.slice a_b b.length c_b] b) : Ret Tryz.prog 114 [.slice a_a a.length c_a, .slice a_b b.length c_b] w [] fun v w' => v = .bool res := by
  have mh_a := rd_max h_a
  have mh_b := rd_max h_b
  unfold m_laws_sameTexts at h
  refine ret_enter Tryz.func114 rfl Tryz.ntmps114 rfl (Hp.refl w _) ?_
  refine cw_seq ?_
  refine cw_region ?_
  refine wl_u rfl (ow_y (yh_assign rfl rfl) rfl rfl (kk_wl ?_))
  refine wl_nil ?_
  refine ex_seq ?_
  refine cw_seq ?_
  refine cw_seq ?_
  refine cw_region ?_
  refine wl_u rfl (ow_y (yh_move rfl rfl) rfl rfl (kk_wl ?_))
  refine wl_u rfl (ow_y (yh_lenS Tb rfl rfl rfl rfl) rfl rfl (kk_wl ?_))
  refine wl_u rfl (ow_y (yh_move rfl rfl) rfl rfl (kk_wl ?_))
  refine wl_u rfl (ow_y (yh_lenS Tb rfl rfl rfl rfl) rfl rfl (kk_wl ?_))
  refine wl_u rfl (ow_y (yh_cmpI rfl rfl rfl rfl) rfl rfl (kk_wl ?_))
  refine wl_nil ?_
  refine ex_seq ?_
  refine cw_split rfl (fun c1 => ?_) (fun c1 => ?_)
  · skip
    replace h := bt c1 h
    have q1 := eqb_false.1 (nt c1)
    refine cw_seq ?_
    refine cw_region ?_
    refine wl_u rfl (ow_y (yh_assign rfl rfl) rfl rfl (kk_wl ?_))
    refine wl_nil ?_
    refine ex_seq ?_
    refine cw_ret ?_
    refine ex_then_ret ?_
    obtain rfl := Option.some.inj h
    exact ex_r1 Tb rfl (.tmp rfl) (fun wq hq => ⟨_, rfl, hq.ext, rfl⟩)
  · skip
    replace h := bf c1 h
    have q2 := eqb_true.1 (nf c1)
    refine cw_skip ?_
    refine ex_seq ?_
    refine cw_seq ?_
    refine cw_seq ?_
    refine cw_region ?_
    refine wl_u rfl (ow_y (yh_assign rfl rfl) rfl rfl (kk_wl ?_))
    refine wl_nil ?_
    refine ex_seq ?_
    refine cw_block ?_
    obtain ⟨e8, he8, hk8⟩ := bd h
    clear h
    refine cw_loopG (σ := Nat × Nat) (fun s => m_laws_sameTexts_L8 N a b s.1 s.2 = some e8) (fun s => [(0, .slice a_a a.length c_a), (1, .slice a_b b.length c_b), (5, .int .i64 ((s.2 : Nat) : Int))]) (fun s => []) (fun s => s.1) (N, 0) [] he8 ⟨rfl, rfl, rfl, trivial⟩ rfl (fun KL s he8 hn8 => ?_)
    obtain ⟨n8, s5⟩ := s
    simp only at he8 hn8 ⊢
    rcases n8 with _ | n8
    · exact nosome he8
    have h := he8; rw [m_laws_sameTexts_L8] at h
    refine cw_seq ?_
    refine cw_seq ?_
    refine cw_region ?_
    refine wl_u rfl (ow_y (yh_move rfl rfl) rfl rfl (kk_wl ?_))
    refine wl_u rfl (ow_y (yh_move rfl rfl) rfl rfl (kk_wl ?_))
    refine wl_u rfl (ow_y (yh_lenS Tb rfl rfl rfl rfl) rfl rfl (kk_wl ?_))
    refine wl_u rfl (ow_y (yh_cmpI rfl rfl rfl rfl) rfl rfl (kk_wl ?_))
    refine wl_nil ?_
    refine ex_seq ?_
    refine cw_split rfl (fun c2 => ?_) (fun c2 => ?_)
    · skip
      replace h := bt c2 h
      have q3 := ltb_true.1 c2
      refine cw_skip ?_
      refine ex_seq ?_
      refine cw_seq ?_
      refine cw_block ?_
      refine cw_seq ?_
      refine cw_dr [0, 1, 2, 3, 4, 5, 6, 7, 8] [] [] (by kernel_rfl) ?_
      refine wd_take (i := 0) [] rfl rfl rfl rfl rfl (by kernel_rfl) (by kernel_rfl) (fun _ _ _ _ h => h) (yh_move rfl rfl) ?_
      refine wd_take (i := 1) [] rfl rfl rfl rfl rfl (by kernel_rfl) (by kernel_rfl) (fun _ _ _ _ h => h) (yh_move rfl rfl) ?_
      obtain ⟨y19, hy19, h⟩ := bd h
      obtain ⟨b19, o19, ha19⟩ := sl_addr h_a hy19
      subst ha19
      have hc19 := get_str h_a hy19
      refine wd_take (i := 2) [] rfl rfl rfl rfl rfl (by kernel_rfl) (by kernel_rfl) (fun _ _ _ _ h => h) (yh_idx Tb (k := s5) rfl rfl rfl rfl (get_lt hy19) rfl rfl) ?_
      refine wd_take (i := 3) [] rfl rfl rfl rfl rfl (by kernel_rfl) (by kernel_rfl) (fun _ _ _ _ h => h) (yh_loadA0 Tb rfl rfl rfl hc19 rfl) ?_
      refine wd_take (i := 4) [] rfl rfl rfl rfl rfl (by kernel_rfl) (by kernel_rfl) (fun _ _ _ _ h => h) (yh_move rfl rfl) ?_
      refine wd_take (i := 5) [] rfl rfl rfl rfl rfl (by kernel_rfl) (by kernel_rfl) (fun _ _ _ _ h => h) (yh_move rfl rfl) ?_
      obtain ⟨y23, hy23, h⟩ := bd h
      obtain ⟨b23, o23, ha23⟩ := sl_addr h_b hy23
      subst ha23
      have hc23 := get_str h_b hy23
      refine wd_take (i := 6) [] rfl rfl rfl rfl rfl (by kernel_rfl) (by kernel_rfl) (fun _ _ _ _ h => h) (yh_idx Tb (k := s5) rfl rfl rfl rfl (get_lt hy23) rfl rfl) ?_
      refine wd_take (i := 7) [] rfl rfl rfl rfl rfl (by kernel_rfl) (by kernel_rfl) (fun _ _ _ _ h => h) (yh_loadA0 Tb rfl rfl rfl hc23 rfl) ?_
      refine wd_take (i := 8) [] rfl rfl rfl rfl rfl (by kernel_rfl) (by kernel_rfl) (fun _ _ _ _ h => h) (yh_cmpS rfl rfl rfl rfl) ?_
      refine wd_done (by kernel_rfl) ?_
      refine ex_seq ?_
      refine cw_split rfl (fun c3 => ?_) (fun c3 => ?_)
      · skip
        replace h := bt c3 h
        refine cw_seq ?_
        refine cw_region ?_
        refine wl_u rfl (ow_y (yh_assign rfl rfl) rfl rfl (kk_wl ?_))
        refine wl_nil ?_
        refine ex_seq ?_
        refine cw_ret ?_
        refine ex_block_ret ?_
        refine ex_then_ret ?_
        refine ex_then_ret ?_
        refine ex_block_ret ?_
        refine ex_then_ret ?_
        obtain rfl := Option.some.inj h
        obtain rfl := go_ret hk8
        exact ex_r1 Tb rfl (.tmp rfl) (fun wq hq => ⟨_, rfl, hq.ext, rfl⟩)
      · skip
        replace h := bf c3 h
        refine cw_skip ?_
        refine ex_block_normal ?_
        refine ex_seq ?_
        refine cw_region ?_
        refine wl_u rfl (ow_y (yh_move rfl rfl) rfl rfl (kk_wl ?_))
        refine wl_u rfl (ow_y (yh_arI rfl rfl rfl rfl (by omega)) rfl rfl (kk_wl ?_))
        refine wl_u rfl (ow_y (yh_assign rfl rfl) rfl rfl (kk_wl ?_))
        refine wl_nil ?_
        exact ex_next [] (hn8 (n8, s5 + 1) (Nat.lt_succ_self _) h) ⟨rfl, rfl, rfl, trivial⟩ (by kernel_rfl)
    · skip
      replace h := bf c2 h
      have q4 := ltb_false.1 c2
      refine cw_exit ?_
      refine ex_then_exit ?_
      refine ex_then_exit ?_
      obtain rfl := Option.some.inj h
      have h := go_brk hk8
      refine ex_block_exit ?_
      refine ex_seq ?_
      refine cw_seq ?_
      refine cw_region ?_
      refine wl_u rfl (ow_y (yh_assign rfl rfl) rfl rfl (kk_wl ?_))
      refine wl_nil ?_
      refine ex_seq ?_
      refine cw_ret ?_
      obtain rfl := Option.some.inj h
      exact ex_r1 Tb rfl (.tmp rfl) (fun wq hq => ⟨_, rfl, hq.ext, rfl⟩)

def m_laws_sameStep (N : Nat) (a : Step) (b : Step) : Option (Bool) := (bif seq a.name b.name then (bif a.undo == b.undo then (m_laws_sameTexts N a.after b.after).bind fun x22 => some x22
 else some false)
 else some false)

set_option maxHeartbeats 4000000 in
theorem c_laws_sameStep (N : Nat) (a : Step) (b : Step) (res : Bool) (h : m_laws_sameStep N a b = some res) (w : World) {a_a_after a_b_after : Option Addr} {c_a_after c_b_after : Nat} (h_a_after : strsL.rd w [] [.slice a_a_after a.after.length c_a_after] a.after) (h_b_after : strsL.rd w [] [.slice a_b_after b.after.length c_b_after] b.after) : Ret Tryz.prog 89 [.agg #[.string a.name, .slice a_a_after a.after.length c_a_after, .bool a.undo], .agg #[.string b.name, .slice a_b_after b.after.length c_b_after, .bool b.undo]] w [] fun v w' => v = .bool res := by
  have mh_a_after := rd_max h_a_after
  have mh_b_after := rd_max h_b_after
  unfold m_laws_sameStep at h
  refine ret_enter Tryz.func89 rfl Tryz.ntmps89 rfl (Hp.refl w _) ?_
  refine cw_seq ?_
  refine cw_region ?_
  refine wl_u rfl (ow_boxA rfl rfl rfl rfl (fun g2 => kk_wl ?_))
  refine wl_u rfl (ow_boxA rfl rfl rfl rfl (fun g3 => kk_wl ?_))
  refine wl_u rfl (ow_y (yh_assign rfl rfl) rfl rfl (kk_wl ?_))
  refine wl_nil ?_
  refine ex_seq ?_
  refine cw_seq ?_
  refine cw_region ?_
  refine wl_u rfl (ow_y (yh_field Tb rfl rfl rfl) rfl rfl (kk_wl ?_))
  refine wl_u rfl (ow_y (yh_loadB Tb (k := 1) rfl rfl rfl rfl rfl) rfl rfl (kk_wl ?_))
  refine wl_u rfl (ow_y (yh_field Tb rfl rfl rfl) rfl rfl (kk_wl ?_))
  refine wl_u rfl (ow_y (yh_loadB Tb (k := 0) rfl rfl rfl rfl rfl) rfl rfl (kk_wl ?_))
  refine wl_u rfl (ow_y (yh_cmpS rfl rfl rfl rfl) rfl rfl (kk_wl ?_))
  refine wl_u rfl (ow_y (yh_move rfl rfl) rfl rfl (kk_wl ?_))
  refine wl_s rfl rfl (fun c1 => ?_) (fun c1 => ?_)
  · skip
    replace h := bt c1 h
    refine wl_g rfl rfl (ow_y (yh_field Tb rfl rfl rfl) rfl rfl (kk_wl ?_))
    refine wl_g rfl rfl (ow_y (yh_loadB Tb (k := 1) rfl rfl rfl rfl rfl) rfl rfl (kk_wl ?_))
    refine wl_g rfl rfl (ow_y (yh_field Tb rfl rfl rfl) rfl rfl (kk_wl ?_))
    refine wl_g rfl rfl (ow_y (yh_loadB Tb (k := 0) rfl rfl rfl rfl rfl) rfl rfl (kk_wl ?_))
    refine wl_g rfl rfl (ow_y (yh_cmpB rfl rfl rfl rfl (by kernel_rfl)) rfl rfl (kk_wl ?_))
    refine wl_u rfl (ow_y (yh_pickT rfl rfl rfl) rfl rfl (kk_wl ?_))
    refine wl_u rfl (ow_y (yh_move rfl rfl) rfl rfl (kk_wl ?_))
    refine wl_s rfl rfl (fun c2 => ?_) (fun c2 => ?_)
    · skip
      replace h := bt c2 h
      refine wl_g rfl rfl (ow_y (yh_field Tb rfl rfl rfl) rfl rfl (kk_wl ?_))
      refine wl_g rfl rfl (ow_y (yh_loadB Tb (k := 1) rfl rfl rfl rfl rfl) rfl rfl (kk_wl ?_))
      refine wl_g rfl rfl (ow_y (yh_field Tb rfl rfl rfl) rfl rfl (kk_wl ?_))
      refine wl_g rfl rfl (ow_y (yh_loadB Tb (k := 0) rfl rfl rfl rfl rfl) rfl rfl (kk_wl ?_))
      obtain ⟨x22, hx22, h⟩ := bd h
      refine wl_g rfl rfl (ow_cV rfl hb114 rfl (fun w hw => c_laws_sameTexts N _ _ _ hx22 w (Lay.at_ h_a_after hw) (Lay.at_ h_b_after hw)) rfl rfl (kk_wl ?_))
      refine wl_u rfl (ow_y (yh_pickT rfl rfl rfl) rfl rfl (kk_wl ?_))
      refine wl_u rfl (ow_y (yh_assign rfl rfl) rfl rfl (kk_wl ?_))
      refine wl_nil ?_
      refine ex_seq ?_
      refine cw_ret ?_
      obtain rfl := Option.some.inj h
      exact ex_r1 Tb rfl (.tmp rfl) (fun wq hq => ⟨_, rfl, hq.ext, rfl⟩)
    · skip
      replace h := bf c2 h
      refine wl_n rfl rfl rfl rfl ?_
      refine wl_n rfl rfl rfl rfl ?_
      refine wl_n rfl rfl rfl rfl ?_
      refine wl_n rfl rfl rfl rfl ?_
      refine wl_n rfl rfl rfl rfl ?_
      refine wl_u rfl (ow_y (yh_pickF rfl rfl rfl) rfl rfl (kk_wl ?_))
      refine wl_u rfl (ow_y (yh_assign rfl rfl) rfl rfl (kk_wl ?_))
      refine wl_nil ?_
      refine ex_seq ?_
      refine cw_ret ?_
      obtain rfl := Option.some.inj h
      exact ex_r1 Tb rfl (.tmp rfl) (fun wq hq => ⟨_, rfl, hq.ext, rfl⟩)
  · skip
    replace h := bf c1 h
    refine wl_n rfl rfl rfl rfl ?_
    refine wl_n rfl rfl rfl rfl ?_
    refine wl_n rfl rfl rfl rfl ?_
    refine wl_n rfl rfl rfl rfl ?_
    refine wl_n rfl rfl rfl rfl ?_
    refine wl_u rfl (ow_y (yh_pickF rfl rfl rfl) rfl rfl (kk_wl ?_))
    refine wl_u rfl (ow_y (yh_move rfl rfl) rfl rfl (kk_wl ?_))
    refine wl_s rfl rfl nofun (fun _ => ?_)
    refine wl_n rfl rfl rfl rfl ?_
    refine wl_n rfl rfl rfl rfl ?_
    refine wl_n rfl rfl rfl rfl ?_
    refine wl_n rfl rfl rfl rfl ?_
    refine wl_n rfl rfl rfl rfl ?_
    refine wl_u rfl (ow_y (yh_pickF rfl rfl rfl) rfl rfl (kk_wl ?_))
    refine wl_u rfl (ow_y (yh_assign rfl rfl) rfl rfl (kk_wl ?_))
    refine wl_nil ?_
    refine ex_seq ?_
    refine cw_ret ?_
    obtain rfl := Option.some.inj h
    exact ex_r1 Tb rfl (.tmp rfl) (fun wq hq => ⟨_, rfl, hq.ext, rfl⟩)

def m_laws_sameChange (N : Nat) (a : Change) (b : Change) : Option (Bool) := (bif eqb a.kind b.kind then (m_laws_sameStep N a.step b.step).bind fun x15 => some x15
 else some false)

set_option maxHeartbeats 4000000 in
theorem c_laws_sameChange (N : Nat) (a : Change) (b : Change) (res : Bool) (h : m_laws_sameChange N a b = some res) (w : World) {a_a_step_after a_b_step_after : Option Addr} {c_a_step_after c_b_step_after : Nat} (h_a_step_after : strsL.rd w [] [.slice a_a_step_after a.step.after.length c_a_step_after] a.step.after) (h_b_step_after : strsL.rd w [] [.slice a_b_step_after b.step.after.length c_b_step_after] b.step.after) : Ret Tryz.prog 47 [.agg #[.int .i64 a.kind, .string a.step.name, .slice a_a_step_after a.step.after.length c_a_step_after, .bool a.step.undo], .agg #[.int .i64 b.kind, .string b.step.name, .slice a_b_step_after b.step.after.length c_b_step_after, .bool b.step.undo]] w [] fun v w' => v = .bool res := by
  have mh_a_step_after := rd_max h_a_step_after
  have mh_b_step_after := rd_max h_b_step_after
  unfold m_laws_sameChange at h
  refine ret_enter Tryz.func47 rfl Tryz.ntmps47 rfl (Hp.refl w _) ?_
  refine cw_seq ?_
  refine cw_region ?_
  refine wl_u rfl (ow_boxA rfl rfl rfl rfl (fun g2 => kk_wl ?_))
  refine wl_u rfl (ow_boxA rfl rfl rfl rfl (fun g3 => kk_wl ?_))
  refine wl_u rfl (ow_y (yh_assign rfl rfl) rfl rfl (kk_wl ?_))
  refine wl_nil ?_
  refine ex_seq ?_
  refine cw_seq ?_
  refine cw_region ?_
  refine wl_u rfl (ow_y (yh_field Tb rfl rfl rfl) rfl rfl (kk_wl ?_))
  refine wl_u rfl (ow_y (yh_loadB Tb (k := 1) rfl rfl rfl rfl rfl) rfl rfl (kk_wl ?_))
  refine wl_u rfl (ow_y (yh_field Tb rfl rfl rfl) rfl rfl (kk_wl ?_))
  refine wl_u rfl (ow_y (yh_loadB Tb (k := 0) rfl rfl rfl rfl rfl) rfl rfl (kk_wl ?_))
  refine wl_u rfl (ow_y (yh_cmpI rfl rfl rfl rfl) rfl rfl (kk_wl ?_))
  refine wl_u rfl (ow_y (yh_move rfl rfl) rfl rfl (kk_wl ?_))
  refine wl_s rfl rfl (fun c1 => ?_) (fun c1 => ?_)
  · skip
    replace h := bt c1 h
    have q1 := eqb_true.1 c1
    refine wl_g rfl rfl (ow_y (yh_field Tb rfl rfl rfl) rfl rfl (kk_wl ?_))
    refine wl_g rfl rfl (ow_y (yh_loadBN Tb (k := 1) rfl rfl rfl rfl rfl rfl rfl) rfl rfl (kk_wl ?_))
    refine wl_g rfl rfl (ow_y (yh_field Tb rfl rfl rfl) rfl rfl (kk_wl ?_))
    refine wl_g rfl rfl (ow_y (yh_loadBN Tb (k := 0) rfl rfl rfl rfl rfl rfl rfl) rfl rfl (kk_wl ?_))
    obtain ⟨x15, hx15, h⟩ := bd h
    refine wl_g rfl rfl (ow_cV rfl hb89 rfl (fun w hw => c_laws_sameStep N _ _ _ hx15 w (Lay.at_ h_a_step_after hw) (Lay.at_ h_b_step_after hw)) rfl rfl (kk_wl ?_))
    refine wl_u rfl (ow_y (yh_pickT rfl rfl rfl) rfl rfl (kk_wl ?_))
    refine wl_u rfl (ow_y (yh_assign rfl rfl) rfl rfl (kk_wl ?_))
    refine wl_nil ?_
    refine ex_seq ?_
    refine cw_ret ?_
    obtain rfl := Option.some.inj h
    exact ex_r1 Tb rfl (.tmp rfl) (fun wq hq => ⟨_, rfl, hq.ext, rfl⟩)
  · skip
    replace h := bf c1 h
    have q2 := eqb_false.1 c1
    refine wl_n rfl rfl rfl rfl ?_
    refine wl_n rfl rfl rfl rfl ?_
    refine wl_n rfl rfl rfl rfl ?_
    refine wl_n rfl rfl rfl rfl ?_
    refine wl_n rfl rfl rfl rfl ?_
    refine wl_u rfl (ow_y (yh_pickF rfl rfl rfl) rfl rfl (kk_wl ?_))
    refine wl_u rfl (ow_y (yh_assign rfl rfl) rfl rfl (kk_wl ?_))
    refine wl_nil ?_
    refine ex_seq ?_
    refine cw_ret ?_
    obtain rfl := Option.some.inj h
    exact ex_r1 Tb rfl (.tmp rfl) (fun wq hq => ⟨_, rfl, hq.ext, rfl⟩)

def m_laws_sameChanges_L8 (N : Nat) (a : List Change) (b : List Change) : Nat → Nat → Option (Ex (Nat) (Bool))
  | 0, _ => none
  | n + 1, s5 => (bif ltb ((s5 : Nat) : Int) ((a.length : Nat) : Int) then (a[s5]?).bind fun y19 => (b[s5]?).bind fun y23 => (m_laws_sameChange N y19 y23).bind fun x25 => (bif !x25 then some (Ex.ret false)
 else m_laws_sameChanges_L8 N a b n (s5 + 1))
 else some (Ex.brk (s5)))

def m_laws_sameChanges (N : Nat) (a : List Change) (b : List Change) : Option (Bool) := (bif !(eqb ((a.length : Nat) : Int) ((b.length : Nat) : Int)) then some false
 else (m_laws_sameChanges_L8 N a b N 0).bind fun e8 => e8.go (fun r => r) fun b8 => some true)

set_option maxHeartbeats 4000000 in
theorem c_laws_sameChanges (N : Nat) (a : List Change) (b : List Change) (res : Bool) (h : m_laws_sameChanges N a b = some res) (w : World) {a_a a_b : Option Addr} {c_a c_b : Nat} (h_a : changesL.rd w [] [.slice a_a a.length c_a] a) (h_b : changesL.rd w [] [.slice a_b b.length c_b] b) : Ret Tryz.prog 10 [.slice a_a a.length c_a, .slice a_b b.length c_b] w [] fun v w' => v = .bool res := by
  have mh_a := rd_max h_a
  have mh_b := rd_max h_b
  unfold m_laws_sameChanges at h
  refine ret_enter Tryz.func10 rfl Tryz.ntmps10 rfl (Hp.refl w _) ?_
  refine cw_seq ?_
  refine cw_region ?_
  refine wl_u rfl (ow_y (yh_assign rfl rfl) rfl rfl (kk_wl ?_))
  refine wl_nil ?_
  refine ex_seq ?_
  refine cw_seq ?_
  refine cw_seq ?_
  refine cw_region ?_
  refine wl_u rfl (ow_y (yh_move rfl rfl) rfl rfl (kk_wl ?_))
  refine wl_u rfl (ow_y (yh_lenS Tb rfl rfl rfl rfl) rfl rfl (kk_wl ?_))
  refine wl_u rfl (ow_y (yh_move rfl rfl) rfl rfl (kk_wl ?_))
  refine wl_u rfl (ow_y (yh_lenS Tb rfl rfl rfl rfl) rfl rfl (kk_wl ?_))
  refine wl_u rfl (ow_y (yh_cmpI rfl rfl rfl rfl) rfl rfl (kk_wl ?_))
  refine wl_nil ?_
  refine ex_seq ?_
  refine cw_split rfl (fun c1 => ?_) (fun c1 => ?_)
  · skip
    replace h := bt c1 h
    have q1 := eqb_false.1 (nt c1)
    refine cw_seq ?_
    refine cw_region ?_
    refine wl_u rfl (ow_y (yh_assign rfl rfl) rfl rfl (kk_wl ?_))
    refine wl_nil ?_
    refine ex_seq ?_
    refine cw_ret ?_
    refine ex_then_ret ?_
    obtain rfl := Option.some.inj h
    exact ex_r1 Tb rfl (.tmp rfl) (fun wq hq => ⟨_, rfl, hq.ext, rfl⟩)
  · skip
    replace h := bf c1 h
    have q2 := eqb_true.1 (nf c1)
    refine cw_skip ?_
    refine ex_seq ?_
    refine cw_seq ?_
    refine cw_seq ?_
    refine cw_region ?_
    refine wl_u rfl (ow_y (yh_assign rfl rfl) rfl rfl (kk_wl ?_))
    refine wl_nil ?_
    refine ex_seq ?_
    refine cw_block ?_
    obtain ⟨e8, he8, hk8⟩ := bd h
    clear h
    refine cw_loopG (σ := Nat × Nat) (fun s => m_laws_sameChanges_L8 N a b s.1 s.2 = some e8) (fun s => [(0, .slice a_a a.length c_a), (1, .slice a_b b.length c_b), (5, .int .i64 ((s.2 : Nat) : Int))]) (fun s => []) (fun s => s.1) (N, 0) [] he8 ⟨rfl, rfl, rfl, trivial⟩ rfl (fun KL s he8 hn8 => ?_)
    obtain ⟨n8, s5⟩ := s
    simp only at he8 hn8 ⊢
    rcases n8 with _ | n8
    · exact nosome he8
    have h := he8; rw [m_laws_sameChanges_L8] at h
    refine cw_seq ?_
    refine cw_seq ?_
    refine cw_region ?_
    refine wl_u rfl (ow_y (yh_move rfl rfl) rfl rfl (kk_wl ?_))
    refine wl_u rfl (ow_y (yh_move rfl rfl) rfl rfl (kk_wl ?_))
    refine wl_u rfl (ow_y (yh_lenS Tb rfl rfl rfl rfl) rfl rfl (kk_wl ?_))
    refine wl_u rfl (ow_y (yh_cmpI rfl rfl rfl rfl) rfl rfl (kk_wl ?_))
    refine wl_nil ?_
    refine ex_seq ?_
    refine cw_split rfl (fun c2 => ?_) (fun c2 => ?_)
    · skip
      replace h := bt c2 h
      have q3 := ltb_true.1 c2
      refine cw_skip ?_
      refine ex_seq ?_
      refine cw_seq ?_
      refine cw_block ?_
      refine cw_seq ?_
      refine cw_dr [0, 1, 2, 3, 4, 5, 6, 7, 9] [] [] (by kernel_rfl) ?_
      refine wd_take (i := 0) [] rfl rfl rfl rfl rfl (by kernel_rfl) (by kernel_rfl) (fun _ _ _ _ h => h) (yh_move rfl rfl) ?_
      refine wd_take (i := 1) [] rfl rfl rfl rfl rfl (by kernel_rfl) (by kernel_rfl) (fun _ _ _ _ h => h) (yh_move rfl rfl) ?_
      obtain ⟨y19, hy19, h⟩ := bd h
      obtain ⟨b19, o19, ha19⟩ := sl_addr h_a hy19
      subst ha19
      obtain ⟨a19, e19, hc19, hf19⟩ := get_change h_a hy19
      have mx19 := rd_max hf19
      refine wd_take (i := 2) [] rfl rfl rfl rfl rfl (by kernel_rfl) (by kernel_rfl) (fun _ _ _ _ h => h) (yh_idx Tb (k := s5) rfl rfl rfl rfl (get_lt hy19) rfl rfl) ?_
      refine wd_take (i := 3) [] rfl rfl rfl rfl rfl (by kernel_rfl) (by kernel_rfl) (fun _ _ _ _ h => h) (yh_loadAN Tb rfl rfl rfl rfl hc19 rfl) ?_
      refine wd_take (i := 4) [] rfl rfl rfl rfl rfl (by kernel_rfl) (by kernel_rfl) (fun _ _ _ _ h => h) (yh_move rfl rfl) ?_
      refine wd_take (i := 5) [] rfl rfl rfl rfl rfl (by kernel_rfl) (by kernel_rfl) (fun _ _ _ _ h => h) (yh_move rfl rfl) ?_
      obtain ⟨y23, hy23, h⟩ := bd h
      obtain ⟨b23, o23, ha23⟩ := sl_addr h_b hy23
      subst ha23
      obtain ⟨a23, e23, hc23, hf23⟩ := get_change h_b hy23
      have mx23 := rd_max hf23
      refine wd_take (i := 6) [] rfl rfl rfl rfl rfl (by kernel_rfl) (by kernel_rfl) (fun _ _ _ _ h => h) (yh_idx Tb (k := s5) rfl rfl rfl rfl (get_lt hy23) rfl rfl) ?_
      refine wd_take (i := 7) [] rfl rfl rfl rfl rfl (by kernel_rfl) (by kernel_rfl) (fun _ _ _ _ h => h) (yh_loadAN Tb rfl rfl rfl rfl hc23 rfl) ?_
      obtain ⟨x25, hx25, h⟩ := bd h
      refine wd_one 8 rfl rfl (by kernel_rfl) (ow_cV rfl hb47 rfl (fun w hw => c_laws_sameChange N _ _ _ hx25 w (Lay.at_ hf19 hw) (Lay.at_ hf23 hw)) rfl rfl (kk_wd [] (by kernel_rfl) ?_))
      refine wd_take (i := 9) [] rfl rfl rfl rfl rfl (by kernel_rfl) (by kernel_rfl) (fun _ _ _ _ h => h) (yh_not rfl rfl) ?_
      refine wd_done (by kernel_rfl) ?_
      refine ex_seq ?_
      refine cw_split rfl (fun c3 => ?_) (fun c3 => ?_)
      · skip
        replace h := bt c3 h
        refine cw_seq ?_
        refine cw_region ?_
        refine wl_u rfl (ow_y (yh_assign rfl rfl) rfl rfl (kk_wl ?_))
        refine wl_nil ?_
        refine ex_seq ?_
        refine cw_ret ?_
        refine ex_block_ret ?_
        refine ex_then_ret ?_
        refine ex_then_ret ?_
        refine ex_block_ret ?_
        refine ex_then_ret ?_
        obtain rfl := Option.some.inj h
        obtain rfl := go_ret hk8
        exact ex_r1 Tb rfl (.tmp rfl) (fun wq hq => ⟨_, rfl, hq.ext, rfl⟩)
      · skip
        replace h := bf c3 h
        refine cw_skip ?_
        refine ex_block_normal ?_
        refine ex_seq ?_
        refine cw_region ?_
        refine wl_u rfl (ow_y (yh_move rfl rfl) rfl rfl (kk_wl ?_))
        refine wl_u rfl (ow_y (yh_arI rfl rfl rfl rfl (by omega)) rfl rfl (kk_wl ?_))
        refine wl_u rfl (ow_y (yh_assign rfl rfl) rfl rfl (kk_wl ?_))
        refine wl_nil ?_
        exact ex_next [] (hn8 (n8, s5 + 1) (Nat.lt_succ_self _) h) ⟨rfl, rfl, rfl, trivial⟩ (by kernel_rfl)
    · skip
      replace h := bf c2 h
      have q4 := ltb_false.1 c2
      refine cw_exit ?_
      refine ex_then_exit ?_
      refine ex_then_exit ?_
      obtain rfl := Option.some.inj h
      have h := go_brk hk8
      refine ex_block_exit ?_
      refine ex_seq ?_
      refine cw_seq ?_
      refine cw_region ?_
      refine wl_u rfl (ow_y (yh_assign rfl rfl) rfl rfl (kk_wl ?_))
      refine wl_nil ?_
      refine ex_seq ?_
      refine cw_ret ?_
      obtain rfl := Option.some.inj h
      exact ex_r1 Tb rfl (.tmp rfl) (fun wq hq => ⟨_, rfl, hq.ext, rfl⟩)

def m_impl_Flow_clone_L6 (N : Nat) (f : Flow) : Nat → (List Step) → Nat → Option (Ex (List Step × Nat) (Flow))
  | 0, _, _ => none
  | n + 1, s3_c_1, s12 => (bif ltb ((s12 : Nat) : Int) ((f.steps.length : Nat) : Int) then (f.steps[s12]?).bind fun y14 => (m_impl_Step_clone N y14).bind fun x19 => (appd s3_c_1 [x19]).bind fun l21 => m_impl_Flow_clone_L6 N f n (s3_c_1 ++ [x19]) (s12 + 1)
 else some (Ex.brk (s3_c_1, s12)))

def m_impl_Flow_clone (N : Nat) (f : Flow) : Option (Flow) := (m_impl_Flow_clone_L6 N f N ([] : List Step) 0).bind fun e6 => e6.go (fun r => r) fun b6 => some (Flow.mk f.ver b6.1)

set_option maxHeartbeats 4000000 in
theorem c_impl_Flow_clone (N : Nat) (f : Flow) (res : Flow) (h : m_impl_Flow_clone N f = some res) (w : World) {a_f_steps : Option Addr} {c_f_steps : Nat} (h_f_steps : stepsL.rd w [] [.slice a_f_steps f.steps.length c_f_steps] f.steps) : Ret Tryz.prog 48 [.agg #[.int .i64 f.ver, .slice a_f_steps f.steps.length c_f_steps]] w [] fun v w' => ∃ a1 c1 F1, v = .agg #[.int .i64 res.ver, .slice a1 res.steps.length c1] ∧ NewC w w' [owC stepsL F1 [.slice a1 res.steps.length c1] res.steps] := by
  have mh_f_steps := rd_max h_f_steps
  unfold m_impl_Flow_clone at h
  refine ret_enter Tryz.func48 rfl Tryz.ntmps48 rfl (Hp.refl w _) ?_
  refine cw_seq ?_
  refine cw_region ?_
  refine wl_u rfl (ow_boxA rfl rfl rfl rfl (fun g1 => kk_wl ?_))
  refine wl_u rfl (ow_allocA Tb rfl rfl rfl rfl (fun g2 => kk_wl ?_))
  refine wl_nil ?_
  refine ex_seq ?_
  refine cw_seq ?_
  refine cw_region ?_
  refine wl_u rfl (ow_y (yh_field Tb rfl rfl rfl) rfl rfl (kk_wl ?_))
  refine wl_u rfl (ow_y (yh_loadB Tb (k := 1) rfl rfl rfl rfl rfl) rfl rfl (kk_wl ?_))
  refine wl_u rfl (ow_y (yh_build [.int .i64 f.ver, .slice none 0 0] rfl rfl (by kernel_rfl)) rfl rfl (kk_wl ?_))
  refine wl_u rfl (ow_allocA Tb rfl rfl rfl rfl (fun g3 => kk_wl ?_))
  refine wl_u rfl (ow_storeA Tb (k := 0) rfl rfl rfl rfl rfl rfl rfl rfl rfl (kk_wl ?_))
  refine wl_nil ?_
  refine ex_seq ?_
  refine cw_seq ?_
  refine cw_seq ?_
  refine cw_region ?_
  refine wl_u rfl (ow_y (yh_field Tb rfl rfl rfl) rfl rfl (kk_wl ?_))
  refine wl_u rfl (ow_y (yh_loadB Tb (k := 2) rfl rfl rfl rfl rfl) rfl rfl (kk_wl ?_))
  refine wl_u rfl (ow_y (yh_lenS Tb rfl rfl rfl rfl) rfl rfl (kk_wl ?_))
  refine wl_u rfl (ow_y (yh_move rfl rfl) rfl rfl (kk_wl ?_))
  refine wl_nil ?_
  refine ex_seq ?_
  refine cw_block ?_
  obtain ⟨e6, he6, hk6⟩ := bd h
  clear h
  refine cw_nilS stepsL rfl ?_
  refine cw_loopG (σ := Nat × (List Step) × Nat × (Option Addr) × Nat × (List Nat)) (fun s => m_impl_Flow_clone_L6 N f s.1 s.2.1 s.2.2.1 = some e6) (fun s => [(2, .pointer (some ⟨g2, 0, none⟩)), (3, .pointer (some ⟨g3, 0, none⟩)), (10, .slice a_f_steps f.steps.length c_f_steps), (11, .int .i64 ((f.steps.length : Nat) : Int)), (12, .int .i64 ((s.2.2.1 : Nat) : Int))]) (fun s => [blkC g2 25 [.int .i64 0, .slice none 0 0], blkC g3 25 [.int .i64 f.ver, .slice s.2.2.2.1 s.2.1.length s.2.2.2.2.1], owC stepsL s.2.2.2.2.2 [.slice s.2.2.2.1 s.2.1.length s.2.2.2.2.1] s.2.1]) (fun s => s.1) (N, ([] : List Step), 0, none, 0, []) [2, 1, 0] he6 ⟨rfl, rfl, rfl, rfl, rfl, trivial⟩ rfl (fun KL s he6 hn6 => ?_)
  obtain ⟨n6, s3_c_1, s12, as3_c_1, cs3_c_1, Fs3_c_1⟩ := s
  simp only at he6 hn6 ⊢
  rcases n6 with _ | n6
  · exact nosome he6
  have h := he6; rw [m_impl_Flow_clone_L6] at h
  refine cw_seq ?_
  refine cw_region ?_
  refine wl_u rfl (ow_y (yh_cmpI rfl rfl rfl rfl) rfl rfl (kk_wl ?_))
  refine wl_nil ?_
  refine ex_seq ?_
  refine cw_seq ?_
  refine cw_split rfl (fun c1 => ?_) (fun c1 => ?_)
  · skip
    replace h := bt c1 h
    have q1 := ltb_true.1 c1
    refine cw_skip ?_
    refine ex_seq ?_
    refine cw_seq ?_
    refine cw_block ?_
    refine cw_seq ?_
    refine cw_region ?_
    obtain ⟨y14, hy14, h⟩ := bd h
    obtain ⟨b14, o14, ha14⟩ := sl_addr h_f_steps hy14
    subst ha14
    obtain ⟨a14, e14, hc14, hf14⟩ := get_step h_f_steps hy14
    have mx14 := rd_max hf14
    refine wl_u rfl (ow_y (yh_idx Tb (k := s12) rfl rfl rfl rfl (get_lt hy14) rfl rfl) rfl rfl (kk_wl ?_))
    refine wl_u rfl (ow_y (yh_loadAN Tb rfl rfl rfl rfl hc14 rfl) rfl rfl (kk_wl ?_))
    refine wl_u rfl (ow_allocA Tb rfl rfl rfl rfl (fun g5 => kk_wl ?_))
    refine wl_u rfl (ow_storeA Tb (k := 0) rfl rfl rfl rfl rfl rfl rfl rfl rfl (kk_wl ?_))
    refine wl_nil ?_
    refine ex_seq ?_
    refine cw_dr [0, 1, 2] [5, 6, 7] [blkC g5 49 [.string y14.name, .slice a14 y14.after.length e14, .bool y14.undo], blkC g2 25 [.int .i64 0, .slice none 0 0], blkC g3 25 [.int .i64 f.ver, .slice as3_c_1 s3_c_1.length cs3_c_1], owC stepsL Fs3_c_1 [.slice as3_c_1 s3_c_1.length cs3_c_1] s3_c_1] (by kernel_rfl) ?_
    refine wd_take (i := 0) [0, 1, 2, 3] rfl rfl rfl rfl rfl (by kernel_rfl) (by kernel_rfl) (fun _ _ _ _ h => h) (yh_field Tb rfl rfl rfl) ?_
    refine wd_take (i := 1) [0, 1, 2, 3] rfl rfl rfl rfl rfl (by kernel_rfl) (by kernel_rfl) (fun _ _ _ _ h => h) (yh_loadB Tb (k := 2) rfl rfl rfl rfl rfl) ?_
    refine wd_take (i := 2) [0, 1, 2, 3] rfl rfl rfl rfl rfl (by kernel_rfl) (by kernel_rfl) (fun _ _ _ _ h => h) (yh_loadBA Tb (k := 0) rfl rfl rfl rfl rfl rfl) ?_
    obtain ⟨x19, hx19, h⟩ := bd h
    refine wd_one 3 rfl rfl (by kernel_rfl) (ow_cN1 rfl hb38 rfl (fun w hw => c_impl_Step_clone N _ _ hx19 w (Lay.at_ hf14 hw)) rfl rfl (fun a19 c19 F19 => kk_wd [1, 2, 3, 4] (by kernel_rfl) ?_))
    refine wd_one 4 rfl rfl (by kernel_rfl) (ow_litA Tb rfl rfl rfl rfl rfl rfl (by decide) rfl rfl (fun g20 => kk_wd [2, 3, 4, 5] (by kernel_rfl) ?_))
    obtain ⟨hll21, h⟩ := bd_appd h
    refine wd_one 5 rfl rfl (by kernel_rfl) (ow_chg (c' := owC stepL F19 [.string x19.name, .slice a19 x19.after.length c19, .bool x19.undo] x19) 1 rfl (fun w hA => stepL_mk x19 hA) rfl (ow_appE Tb (i := 5) (j := 0) (k := 1) rfl rfl rfl rfl rfl rfl rfl rfl rfl rfl rfl (app1 hll21) (by decide) rfl rfl (fun a21 c21 F21 => kk_wdT rfl ?_)))
    refine wd_one 6 rfl rfl (by kernel_rfl) (ow_y (yh_field Tb rfl rfl rfl) rfl rfl (kk_wdT rfl ?_))
    refine wd_one 7 rfl rfl (by kernel_rfl) (ow_store1 Tb (k := 4) rfl rfl rfl rfl rfl rfl rfl rfl rfl (kk_wdT rfl ?_))
    refine wd_done (by kernel_rfl) ?_
    refine ex_block_normal ?_
    refine ex_seq ?_
    refine cw_region ?_
    refine wl_u rfl (ow_y (yh_arI rfl rfl rfl rfl (by omega)) rfl rfl (kk_wl ?_))
    refine wl_u rfl (ow_y (yh_move rfl rfl) rfl rfl (kk_wl ?_))
    refine wl_nil ?_
    exact ex_next [4, 0, 1] (hn6 (n6, (s3_c_1 ++ [x19]), s12 + 1, a21, c21, F21) (Nat.lt_succ_self _) h) ⟨rfl, rfl, rfl, rfl, rfl, trivial⟩ (by kernel_rfl)
  · skip
    replace h := bf c1 h
    have q2 := ltb_false.1 c1
    refine cw_exit ?_
    refine ex_then_exit ?_
    refine ex_then_exit ?_
    obtain rfl := Option.some.inj h
    have h := go_brk hk6
    refine ex_block_exit ?_
    refine ex_seq ?_
    refine cw_seq ?_
    refine cw_region ?_
    refine wl_u rfl (ow_y (yh_loadBA Tb (k := 1) rfl rfl rfl rfl rfl rfl) rfl rfl (kk_wl ?_))
    refine wl_u rfl (ow_storeA Tb (k := 0) rfl rfl rfl rfl rfl rfl rfl rfl rfl (kk_wl ?_))
    refine wl_nil ?_
    refine ex_seq ?_
    refine cw_ret ?_
    obtain rfl := Option.some.inj h
    exact ex_r1 Tb rfl (.cellA 0 rfl rfl rfl rfl rfl) (fun wq hq => ⟨_, rfl, hq.ext, ⟨as3_c_1, cs3_c_1, Fs3_c_1, rfl, NewC.sel [2] hq rfl⟩⟩)

def m_slices_Delete_Step (N : Nat) (s_ : List Step) (i : Int) (j : Int) : Option (List Step) := (sl3 s_ i j).bind fun l13 => (bif eqb i j then some s_
 else (slTo s_ i).bind fun l22 => (slFrom s_ j).bind fun l25 => (kle i j).bind fun u26 => some (l22 ++ l25))

set_option maxHeartbeats 4000000 in
theorem c_slices_Delete_Step (N : Nat) (s_ : List Step) (i : Int) (j : Int) (res : List Step) (h : m_slices_Delete_Step N s_ i j = some res) (w : World) {a_s_ : Option Addr} {c_s_ : Nat} {F_s_ : List Nat} (hr : (owC stepsL F_s_ [.slice a_s_ s_.length c_s_] s_).A w) (hnd : F_s_.Nodup) : Ret Tryz.prog 107 [.slice a_s_ s_.length c_s_, .int .i64 i, .int .i64 j] w F_s_ fun v w' => ∃ a1 c1 F1, v = .slice a1 res.length c1 ∧ NewM w w' F_s_ [owC stepsL F1 [.slice a1 res.length c1] res] := by
  unfold m_slices_Delete_Step at h
  refine ret_enter Tryz.func107 rfl Tryz.ntmps107 rfl (hp_one hr hnd) ?_
  refine cw_seq ?_
  refine cw_region ?_
  refine wl_u rfl (ow_y (yh_assign rfl rfl) rfl rfl (kk_wl ?_))
  refine wl_nil ?_
  refine ex_seq ?_
  refine cw_seq ?_
  refine cw_region ?_
  refine wl_u rfl (ow_y (yh_move rfl rfl) rfl rfl (kk_wl ?_))
  refine wl_u rfl (ow_y (yh_move rfl rfl) rfl rfl (kk_wl ?_))
  refine wl_u rfl (ow_y (yh_move rfl rfl) rfl rfl (kk_wl ?_))
  refine wl_u rfl (ow_y (yh_move rfl rfl) rfl rfl (kk_wl ?_))
  refine wl_know (s_.length ≤ 9223372036854775807) (fun w hw => own_max 0 rfl hw) (fun mo12 => ?_)
  refine wl_u rfl (ow_y (yh_lenS Tb rfl rfl rfl rfl) rfl rfl (kk_wl ?_))
  obtain ⟨l13, zl13, h⟩ := bd h
  refine wl_know (s_.length ≤ c_s_) (fun w hw => own_capK 0 rfl hw) (fun hcp13 => ?_)
  have pl13 := sl3_some zl13
  refine wl_u rfl (ow_y (yh_slice3 Tb zl13 rfl hcp13 rfl rfl rfl rfl rfl rfl rfl rfl) rfl rfl (kk_wl ?_))
  refine wl_nil ?_
  refine ex_seq ?_
  refine cw_seq ?_
  refine cw_seq ?_
  refine cw_region ?_
  refine wl_u rfl (ow_y (yh_move rfl rfl) rfl rfl (kk_wl ?_))
  refine wl_u rfl (ow_y (yh_move rfl rfl) rfl rfl (kk_wl ?_))
  refine wl_u rfl (ow_y (yh_cmpI rfl rfl rfl rfl) rfl rfl (kk_wl ?_))
  refine wl_nil ?_
  refine ex_seq ?_
  refine cw_split rfl (fun c1 => ?_) (fun c1 => ?_)
  · skip
    replace h := bt c1 h
    have q1 := eqb_true.1 c1
    refine cw_seq ?_
    refine cw_region ?_
    refine wl_u rfl (ow_y (yh_move rfl rfl) rfl rfl (kk_wl ?_))
    refine wl_u rfl (ow_y (yh_assign rfl rfl) rfl rfl (kk_wl ?_))
    refine wl_nil ?_
    refine ex_seq ?_
    refine cw_ret ?_
    refine ex_then_ret ?_
    obtain rfl := Option.some.inj h
    exact ex_r1 Tb rfl (.tmp rfl) (fun wq hq => ⟨_, rfl, hq.ext, ⟨a_s_, c_s_, F_s_, rfl, NewM.sel [0] hq rfl⟩⟩)
  · skip
    replace h := bf c1 h
    have q2 := eqb_false.1 c1
    refine cw_skip ?_
    refine ex_seq ?_
    refine cw_seq ?_
    refine cw_region ?_
    refine wl_u rfl (ow_y (yh_move rfl rfl) rfl rfl (kk_wl ?_))
    refine wl_u rfl (ow_y (yh_lenS Tb rfl rfl rfl rfl) rfl rfl (kk_wl ?_))
    refine wl_u rfl (ow_y (yh_assign rfl rfl) rfl rfl (kk_wl ?_))
    refine wl_nil ?_
    refine ex_seq ?_
    refine cw_seq ?_
    refine cw_dr [0, 1, 2, 3, 4, 5] [6, 7] [owC stepsL F_s_ [.slice a_s_ s_.length c_s_] s_] (by kernel_rfl) ?_
    refine wd_take (i := 0) [0] rfl rfl rfl rfl rfl (by kernel_rfl) (by kernel_rfl) (fun _ _ _ _ h => h) (yh_move rfl rfl) ?_
    refine wd_take (i := 1) [0] rfl rfl rfl rfl rfl (by kernel_rfl) (by kernel_rfl) (fun _ _ _ _ h => h) (yh_move rfl rfl) ?_
    obtain ⟨l22, zl22, h⟩ := bd h
    obtain ⟨il22, jl22⟩ := slTo_K zl22
    refine wd_know (s_.length ≤ c_s_) (fun w hw => own_capK 0 rfl hw) (fun hcp22 => ?_)
    refine wd_take (i := 2) [0] rfl rfl rfl rfl rfl (by kernel_rfl) (by kernel_rfl) (fun _ _ _ _ h => h) (yh_sliceH Tb (k := l22.length) rfl rfl rfl il22 (Nat.le_trans jl22 hcp22) rfl rfl) ?_
    refine wd_take (i := 3) [0] rfl rfl rfl rfl rfl (by kernel_rfl) (by kernel_rfl) (fun _ _ _ _ h => h) (yh_move rfl rfl) ?_
    refine wd_take (i := 4) [0] rfl rfl rfl rfl rfl (by kernel_rfl) (by kernel_rfl) (fun _ _ _ _ h => h) (yh_move rfl rfl) ?_
    obtain ⟨l25, zl25, h⟩ := bd h
    obtain ⟨a25, e25, va25, ve25, il25⟩ := sl_dropV a_s_ c_s_ 3 zl25
    refine wd_take (i := 5) [0] rfl rfl rfl rfl rfl (by kernel_rfl) (by kernel_rfl) (fun _ _ _ _ h => h) (yh_sliceLN Tb rfl zl25 va25 ve25 rfl rfl rfl rfl rfl) ?_
    obtain ⟨u26, zu26, h⟩ := bd h
    have hle26 := kle_some zu26
    have hdl26 := del_len zl22 zl25 hle26
    refine wd_one 6 rfl rfl (by kernel_rfl) (ow_del Tb 0 zl22 zl25 hle26 va25 ve25 rfl rfl rfl rfl rfl rfl rfl rfl rfl (fun F26 => kk_wdT rfl ?_))
    refine wd_one 7 rfl rfl (by kernel_rfl) (ow_y (yh_assign rfl rfl) rfl rfl (kk_wdT rfl ?_))
    refine wd_done (by kernel_rfl) ?_
    refine ex_seq ?_
    refine cw_seq ?_
    refine cw_region ?_
    refine wl_u rfl (ow_y (yh_move rfl rfl) rfl rfl (kk_wl ?_))
    refine wl_u rfl (ow_y (yh_move rfl rfl) rfl rfl (kk_wl ?_))
    refine wl_know ((l22 ++ l25).length ≤ 9223372036854775807) (fun w hw => own_max 0 rfl hw) (fun mo29 => ?_)
    refine wl_u rfl (ow_y (yh_lenS Tb rfl rfl rfl rfl) rfl rfl (kk_wl ?_))
    refine wl_u rfl (ow_y (yh_move rfl rfl) rfl rfl (kk_wl ?_))
    obtain ⟨a31, va31⟩ : ∃ a', a' = (if c_s_ = (l22 ++ l25).length then a_s_ else (a_s_ : Option Addr).map (·.add ((l22 ++ l25).length * 3))) := ⟨_, rfl⟩
    refine wl_u rfl (ow_y (yh_slice2 Tb (k := (l22 ++ l25).length) (j := s_.length) va31 rfl rfl hdl26 hcp22 rfl rfl rfl rfl rfl rfl) rfl rfl (kk_wl ?_))
    refine wl_u rfl (ow_clearT Tb 0 rfl va31 (by omega) rfl rfl rfl rfl rfl rfl (by decide) rfl rfl (kk_wl ?_))
    refine wl_nil ?_
    refine ex_seq ?_
    refine cw_seq ?_
    refine cw_region ?_
    refine wl_u rfl (ow_y (yh_move rfl rfl) rfl rfl (kk_wl ?_))
    refine wl_u rfl (ow_y (yh_assign rfl rfl) rfl rfl (kk_wl ?_))
    refine wl_nil ?_
    refine ex_seq ?_
    refine cw_ret ?_
    obtain rfl := Option.some.inj h
    exact ex_r1 Tb rfl (.tmp rfl) (fun wq hq => ⟨_, rfl, hq.ext, ⟨a_s_, c_s_, F26, rfl, NewM.sel [0] hq rfl⟩⟩)

def m_slices_Delete_RStep (N : Nat) (s_ : List RStep) (i : Int) (j : Int) : Option (List RStep) := (sl3 s_ i j).bind fun l13 => (bif eqb i j then some s_
 else (slTo s_ i).bind fun l22 => (slFrom s_ j).bind fun l25 => (kle i j).bind fun u26 => some (l22 ++ l25))

set_option maxHeartbeats 4000000 in
theorem c_slices_Delete_RStep (N : Nat) (s_ : List RStep) (i : Int) (j : Int) (res : List RStep) (h : m_slices_Delete_RStep N s_ i j = some res) (w : World) {a_s_ : Option Addr} {c_s_ : Nat} {F_s_ : List Nat} (hr : (owC rstepsL F_s_ [.slice a_s_ s_.length c_s_] s_).A w) (hnd : F_s_.Nodup) : Ret Tryz.prog 107 [.slice a_s_ s_.length c_s_, .int .i64 i, .int .i64 j] w F_s_ fun v w' => ∃ a1 c1 F1, v = .slice a1 res.length c1 ∧ NewM w w' F_s_ [owC rstepsL F1 [.slice a1 res.length c1] res] := by
  unfold m_slices_Delete_RStep at h
  refine ret_enter Tryz.func107 rfl Tryz.ntmps107 rfl (hp_one hr hnd) ?_
  refine cw_seq ?_
  refine cw_region ?_
  refine wl_u rfl (ow_y (yh_assign rfl rfl) rfl rfl (kk_wl ?_))
  refine wl_nil ?_
  refine ex_seq ?_
  refine cw_seq ?_
  refine cw_region ?_
  refine wl_u rfl (ow_y (yh_move rfl rfl) rfl rfl (kk_wl ?_))
  refine wl_u rfl (ow_y (yh_move rfl rfl) rfl rfl (kk_wl ?_))
  refine wl_u rfl (ow_y (yh_move rfl rfl) rfl rfl (kk_wl ?_))
  refine wl_u rfl (ow_y (yh_move rfl rfl) rfl rfl (kk_wl ?_))
  refine wl_know (s_.length ≤ 9223372036854775807) (fun w hw => own_max 0 rfl hw) (fun mo12 => ?_)
  refine wl_u rfl (ow_y (yh_lenS Tb rfl rfl rfl rfl) rfl rfl (kk_wl ?_))
  obtain ⟨l13, zl13, h⟩ := bd h
  refine wl_know (s_.length ≤ c_s_) (fun w hw => own_capK 0 rfl hw) (fun hcp13 => ?_)
  have pl13 := sl3_some zl13
  refine wl_u rfl (ow_y (yh_slice3 Tb zl13 rfl hcp13 rfl rfl rfl rfl rfl rfl rfl rfl) rfl rfl (kk_wl ?_))
  refine wl_nil ?_
  refine ex_seq ?_
  refine cw_seq ?_
  refine cw_seq ?_
  refine cw_region ?_
  refine wl_u rfl (ow_y (yh_move rfl rfl) rfl rfl (kk_wl ?_))
  refine wl_u rfl (ow_y (yh_move rfl rfl) rfl rfl (kk_wl ?_))
  refine wl_u rfl (ow_y (yh_cmpI rfl rfl rfl rfl) rfl rfl (kk_wl ?_))
  refine wl_nil ?_
  refine ex_seq ?_
  refine cw_split rfl (fun c1 => ?_) (fun c1 => ?_)
  · skip
    replace h := bt c1 h
    have q1 := eqb_true.1 c1
    refine cw_seq ?_
    refine cw_region ?_
    refine wl_u rfl (ow_y (yh_move rfl rfl) rfl rfl (kk_wl ?_))
    refine wl_u rfl (ow_y (yh_assign rfl rfl) rfl rfl (kk_wl ?_))
    refine wl_nil ?_
    refine ex_seq ?_
    refine cw_ret ?_
    refine ex_then_ret ?_
    obtain rfl := Option.some.inj h
    exact ex_r1 Tb rfl (.tmp rfl) (fun wq hq => ⟨_, rfl, hq.ext, ⟨a_s_, c_s_, F_s_, rfl, NewM.sel [0] hq rfl⟩⟩)
  · skip
    replace h := bf c1 h
    have q2 := eqb_false.1 c1
    refine cw_skip ?_
    refine ex_seq ?_
    refine cw_seq ?_
    refine cw_region ?_
    refine wl_u rfl (ow_y (yh_move rfl rfl) rfl rfl (kk_wl ?_))
    refine wl_u rfl (ow_y (yh_lenS Tb rfl rfl rfl rfl) rfl rfl (kk_wl ?_))
    refine wl_u rfl (ow_y (yh_assign rfl rfl) rfl rfl (kk_wl ?_))
    refine wl_nil ?_
    refine ex_seq ?_
    refine cw_seq ?_
    refine cw_dr [0, 1, 2, 3, 4, 5] [6, 7] [owC rstepsL F_s_ [.slice a_s_ s_.length c_s_] s_] (by kernel_rfl) ?_
    refine wd_take (i := 0) [0] rfl rfl rfl rfl rfl (by kernel_rfl) (by kernel_rfl) (fun _ _ _ _ h => h) (yh_move rfl rfl) ?_
    refine wd_take (i := 1) [0] rfl rfl rfl rfl rfl (by kernel_rfl) (by kernel_rfl) (fun _ _ _ _ h => h) (yh_move rfl rfl) ?_
    obtain ⟨l22, zl22, h⟩ := bd h
    obtain ⟨il22, jl22⟩ := slTo_K zl22
    refine wd_know (s_.length ≤ c_s_) (fun w hw => own_capK 0 rfl hw) (fun hcp22 => ?_)
    refine wd_take (i := 2) [0] rfl rfl rfl rfl rfl (by kernel_rfl) (by kernel_rfl) (fun _ _ _ _ h => h) (yh_sliceH Tb (k := l22.length) rfl rfl rfl il22 (Nat.le_trans jl22 hcp22) rfl rfl) ?_
    refine wd_take (i := 3) [0] rfl rfl rfl rfl rfl (by kernel_rfl) (by kernel_rfl) (fun _ _ _ _ h => h) (yh_move rfl rfl) ?_
    refine wd_take (i := 4) [0] rfl rfl rfl rfl rfl (by kernel_rfl) (by kernel_rfl) (fun _ _ _ _ h => h) (yh_move rfl rfl) ?_
    obtain ⟨l25, zl25, h⟩ := bd h
    obtain ⟨a25, e25, va25, ve25, il25⟩ := sl_dropV a_s_ c_s_ 3 zl25
    refine wd_take (i := 5) [0] rfl rfl rfl rfl rfl (by kernel_rfl) (by kernel_rfl) (fun _ _ _ _ h => h) (yh_sliceLN Tb rfl zl25 va25 ve25 rfl rfl rfl rfl rfl) ?_
    obtain ⟨u26, zu26, h⟩ := bd h
    have hle26 := kle_some zu26
    have hdl26 := del_len zl22 zl25 hle26
    refine wd_one 6 rfl rfl (by kernel_rfl) (ow_del Tb 0 zl22 zl25 hle26 va25 ve25 rfl rfl rfl rfl rfl rfl rfl rfl rfl (fun F26 => kk_wdT rfl ?_))
    refine wd_one 7 rfl rfl (by kernel_rfl) (ow_y (yh_assign rfl rfl) rfl rfl (kk_wdT rfl ?_))
    refine wd_done (by kernel_rfl) ?_
    refine ex_seq ?_
    refine cw_seq ?_
    refine cw_region ?_
    refine wl_u rfl (ow_y (yh_move rfl rfl) rfl rfl (kk_wl ?_))
    refine wl_u rfl (ow_y (yh_move rfl rfl) rfl rfl (kk_wl ?_))
    refine wl_know ((l22 ++ l25).length ≤ 9223372036854775807) (fun w hw => own_max 0 rfl hw) (fun mo29 => ?_)
    refine wl_u rfl (ow_y (yh_lenS Tb rfl rfl rfl rfl) rfl rfl (kk_wl ?_))
    refine wl_u rfl (ow_y (yh_move rfl rfl) rfl rfl (kk_wl ?_))
    obtain ⟨a31, va31⟩ : ∃ a', a' = (if c_s_ = (l22 ++ l25).length then a_s_ else (a_s_ : Option Addr).map (·.add ((l22 ++ l25).length * 3))) := ⟨_, rfl⟩
    refine wl_u rfl (ow_y (yh_slice2 Tb (k := (l22 ++ l25).length) (j := s_.length) va31 rfl rfl hdl26 hcp22 rfl rfl rfl rfl rfl rfl) rfl rfl (kk_wl ?_))
    refine wl_u rfl (ow_clearT Tb 0 rfl va31 (by omega) rfl rfl rfl rfl rfl rfl (by decide) rfl rfl (kk_wl ?_))
    refine wl_nil ?_
    refine ex_seq ?_
    refine cw_seq ?_
    refine cw_region ?_
    refine wl_u rfl (ow_y (yh_move rfl rfl) rfl rfl (kk_wl ?_))
    refine wl_u rfl (ow_y (yh_assign rfl rfl) rfl rfl (kk_wl ?_))
    refine wl_nil ?_
    refine ex_seq ?_
    refine cw_ret ?_
    obtain rfl := Option.some.inj h
    exact ex_r1 Tb rfl (.tmp rfl) (fun wq hq => ⟨_, rfl, hq.ext, ⟨a_s_, c_s_, F26, rfl, NewM.sel [0] hq rfl⟩⟩)

/-- Delete of one element of a row of steps, whose slice is known: what the element held lies apart behind it. -/
theorem c_slices_Delete_know (N : Nat) (s : List Step) (i j : Int) (res : List Step) (h : m_slices_Delete_Step N s i j = some res) (w : World) {g n c k cg : Nat} {ag : Option Addr} {F : List Nat} {y : Step} (hr : (knowC F g n c s k (.slice ag y.after.length cg)).A w) (hnd : F.Nodup) (hk : s[k]? = some y) (hi : i = (k : Int)) (hj : j = w64 (i + 1)) (hn : n = s.length) :
    Ret Tryz.prog 107 [.slice (some ⟨g, 0, none⟩) n c, .int .i64 i, .int .i64 j] w F fun v w' => ∃ a1 c1 F1, ∃ (a2 : Option Addr) (c2 : Nat) (F2 : List Nat), v = .slice a1 res.length c1 ∧ NewM w w' F [owC stepsL F1 [.slice a1 res.length c1] res, owC strsL F2 [.slice ag y.after.length cg] y.after] := by
  subst hn
  obtain ⟨hr1, hcell, hgF⟩ := hr
  obtain ⟨lr, Fs, h1, hF, hfl, hdeep⟩ := step_expose hr1
  have hkl := (List.getElem?_eq_some_iff.1 hk).1
  have hlr : lr.length = s.length := by rw [← h1, List.length_map]
  obtain ⟨r, hrk⟩ : ∃ r, lr[k]? = some r := ⟨_, List.getElem?_eq_getElem (by omega)⟩
  have hry : r.st = y := by
    rw [← h1, List.getElem?_map, hrk] at hk
    simpa using hk
  obtain ⟨Fs', G, hp, hd', hG⟩ := deep_split hdeep hrk
  -- what it computes
  have hres : res = s.take k ++ s.drop (k + 1) ∧ m_slices_Delete_RStep N lr i j = some (lr.take k ++ lr.drop (k + 1)) := by
    subst hi; subst hj
    have hw64 : w64 ((k : Int) + 1) = (k : Int) + 1 := by
      obtain ⟨_, _, _, hnc4, hcm4, _⟩ := own_row.1 hfl
      have hcm5 : c ≤ maxLen := hcm4
      simp only [maxLen] at hcm5
      exact w64_id (by omega)
    rw [hw64] at h ⊢
    have e1 : ((k : Int) + 1).toNat = k + 1 := by omega
    have hne : eqb (k : Int) ((k : Int) + 1) = false := eqb_false.2 (by omega)
    unfold m_slices_Delete_Step at h
    unfold m_slices_Delete_RStep
    rw [sl3_ok (by omega), Option.bind_some, hne, cond_false, slTo_ok (by omega) (by omega), Option.bind_some, slFrom_ok (by omega) (by omega), Option.bind_some, kle_ok (by omega), Option.bind_some] at h
    rw [sl3_ok (by omega), Option.bind_some, hne, cond_false, slTo_ok (by omega) (by omega), Option.bind_some, slFrom_ok (by omega) (by omega), Option.bind_some, kle_ok (by omega), Option.bind_some]
    rw [e1, Int.toNat_natCast] at *
    exact ⟨(Option.some.inj h).symm, rfl⟩
  obtain ⟨rfl, hm⟩ := hres
  rw [hF] at hnd
  obtain ⟨hg1, hnd2⟩ := List.nodup_cons.1 hnd
  rw [← hlr] at hfl ⊢
  refine Calls.mono (c_slices_Delete_RStep N lr i j _ hm w hfl (by simp)) ?_
  rintro e w' ⟨v, rfl, hE, a1, c1, F1, rfl, hN⟩
  have hfl2 := hN.own _ (List.mem_singleton.2 rfl)
  have hge := hN.ge
  have hnd3 := hN.nd
  simp only [ff, owC, List.flatMap_cons, List.flatMap_nil, List.append_nil] at hge hnd3
  have hst : ∀ b ∈ Fs.flatten, w'.heap[b]? = w.heap[b]? := fun b hb => hE.block b (deep_lt hdeep b hb) (fun e1 => hg1 (by
    simp only [List.mem_singleton] at e1
    subst e1
    exact hb))
  have hcol := step_collapse hfl2 (deep_stb hd' fun b hb => hst b (hp.subset (List.mem_append.2 (.inl hb))))
  have hle : (lr.take k ++ lr.drop (k + 1)).length = (s.take k ++ s.drop (k + 1)).length := by rw [← h1]; simp
  have hmap : (lr.take k ++ lr.drop (k + 1)).map (·.st) = s.take k ++ s.drop (k + 1) := by rw [← h1]; simp
  rw [hmap] at hcol
  rw [hle] at hcol ⊢
  -- the element that is gone
  have hGo : strsL.ow w G [.slice ag y.after.length cg] y.after := by
    obtain ⟨cur, xs, Fs2, hb, _, _, _, _, hlen, ht, hl⟩ := own_openN hr1
    obtain ⟨cur3, hb3, _, hnc3, _, hcl3, ht3, _⟩ := own_row.1 hfl
    have hcell2 : w.cell? ⟨g, k * 3 + 1, none⟩ = some (.slice r.a r.st.after.length r.c) := by
      rw [blk_cell hb3]
      have h5 := (owL_get (owL_plain (hl := rsE_len) (h1 := rsE_one) w lr) hrk)
      obtain ⟨F2, es, _, ho2, hc2⟩ := h5
      have h6 := hc2 1 (.slice r.a r.st.after.length r.c) (by rw [ho2.2]; rfl)
      rw [← ht3] at h6
      have hlt := (List.getElem?_eq_some_iff.1 h6).1
      rw [List.length_take] at hlt
      rw [List.getElem?_take_of_lt (by omega)] at h6
      exact h6
    rw [hcell2] at hcell
    simp only [Option.some.injEq, Value.slice.injEq] at hcell
    obtain ⟨e1, _, e3⟩ := hcell
    obtain ⟨a4, c4, he, ho⟩ := stepL_ow hG
    simp only [rsE, List.cons.injEq, Value.slice.injEq, true_and, and_true] at he
    obtain ⟨e5, e6⟩ := he
    rw [← e5, ← e6, e1, e3, hry] at ho
    exact ho
  have hG2 : strsL.ow w' G [.slice ag y.after.length cg] y.after := strsL.ow_stb hGo fun b hb => hst b (hp.subset (List.mem_append.2 (.inr hb)))
  refine ⟨_, rfl, by rw [hF]; exact hE.mono (by simp), a1, c1, F1 ++ Fs'.flatten, none, 0, G, rfl, ?_, ?_, ?_⟩
  · intro c2 hc2
    simp only [List.mem_cons, List.not_mem_nil, or_false] at hc2
    rcases hc2 with rfl | rfl
    · exact hcol
    · exact hG2
  · simp only [ff, owC, List.flatMap_cons, List.flatMap_nil, List.append_nil]
    rw [List.append_assoc]
    refine List.nodup_append.2 ⟨hnd3, hp.nodup_iff.2 hnd2, ?_⟩
    intro a ha b hb e1
    subst e1
    have hb2 := hp.subset hb
    rcases hge a ha with h7 | h7
    · simp only [List.mem_singleton] at h7
      subst h7
      exact hg1 hb2
    · exact absurd (deep_lt hdeep a hb2) (by omega)
  · intro b hb
    simp only [ff, owC, List.flatMap_cons, List.flatMap_nil, List.append_nil] at hb
    rw [List.append_assoc] at hb
    rw [hF]
    rcases List.mem_append.1 hb with h7 | h7
    · rcases hge b h7 with h8 | h8
      · left
        simp only [List.mem_singleton] at h8
        subst h8
        simp
      · exact .inr h8
    · exact .inl (List.mem_cons_of_mem _ (hp.subset h7))

def m_impl_Flow_drop_f1 (N : Nat) (n_ : Str) (k0 : Str) : Option (Bool) := some (seq n_ k0)

set_option maxHeartbeats 4000000 in
theorem c_impl_Flow_drop_f1 (N : Nat) (n_ : Str) (k0 : Str) (res : Bool) (h : m_impl_Flow_drop_f1 N n_ k0 = some res) (w : World) {g_k0 : Nat} (hg_k0 : CellN w [] g_k0 0 [.string k0]) : Ret Tryz.prog 109 [.string n_, .pointer (some ⟨g_k0, 0, none⟩)] w [] fun v w' => v = .bool res := by
  unfold m_impl_Flow_drop_f1 at h
  refine ret_enter Tryz.func109 rfl Tryz.ntmps109 rfl (Hp.refl w _) ?_
  refine cw_seq ?_
  refine cw_region ?_
  refine wl_u rfl (ow_y (yh_assign rfl rfl) rfl rfl (kk_wl ?_))
  refine wl_nil ?_
  refine ex_seq ?_
  refine cw_seq ?_
  refine cw_region ?_
  refine wl_u rfl (ow_y (yh_move rfl rfl) rfl rfl (kk_wl ?_))
  refine wl_u rfl (ow_y (yh_loadA0 Tb rfl rfl rfl hg_k0 rfl) rfl rfl (kk_wl ?_))
  refine wl_u rfl (ow_y (yh_cmpS rfl rfl rfl rfl) rfl rfl (kk_wl ?_))
  refine wl_u rfl (ow_y (yh_assign rfl rfl) rfl rfl (kk_wl ?_))
  refine wl_nil ?_
  refine ex_seq ?_
  refine cw_ret ?_
  obtain rfl := Option.some.inj h
  exact ex_r1 Tb rfl (.tmp rfl) (fun wq hq => ⟨_, rfl, hq.ext, rfl⟩)

def m_slices_DeleteFunc_string_L8 (N : Nat) (s_ : List Str) (del : Str → Option Bool) : Nat → (List Str) → Int → Int → Option (Ex (List Str × Int × Int) (List Str))
  | 0, _, _, _ => none
  | n + 1, s0, s5, s6 => (bif ltb s6 ((s_.length : Nat) : Int) then (geti s0 s6).bind fun y24 => (del y24).bind fun x28 => (bif !x28 then (geti s0 s5).bind fun y33 => m_slices_DeleteFunc_string_L8 N s_ del n (s0.set s5.toNat y24) (w64 (s5 + 1)) (w64 (s6 + 1))
 else m_slices_DeleteFunc_string_L8 N s_ del n s0 s5 (w64 (s6 + 1)))
 else some (Ex.brk (s0, s5, s6)))

def m_slices_DeleteFunc_string (N : Nat) (s_ : List Str) (del : Str → Option Bool) : Option (List Str) := (m_slices_IndexFunc_string N s_ del).bind fun x10 => (bif eqb x10 (-1) then some s_
 else (m_slices_DeleteFunc_string_L8 N s_ del N s_ x10 (w64 (x10 + 1))).bind fun e8 => e8.go (fun r => r) fun b8 => (slFrom b8.1 b8.2.1).bind fun l38 => (slTo (b8.1.take (b8.2.1).toNat ++ List.replicate l38.length ((⟨#[]⟩ : Str) : Str)) b8.2.1).bind fun l41 => some l41)

set_option maxHeartbeats 4000000 in
theorem c_slices_DeleteFunc_string (N : Nat) (s_ : List Str) (del : Str → Option Bool) (res : List Str) (h : m_slices_DeleteFunc_string N s_ del = some res) (w : World) {a_s_ : Option Addr} {c_s_ : Nat} {F_s_ : List Nat} {k_del : FuncId} {caps_del : List Value} (hr : (owC strsL F_s_ [.slice a_s_ s_.length c_s_] s_).A w) (hnd : F_s_.Nodup) (hb_del : hasBody Tryz.prog k_del) (hf_del : ∀ x0 b, del x0 = some b → ∀ w', ExtM F_s_ w w' → Ret Tryz.prog k_del ([.string x0] ++ caps_del) w' [] fun v _ => v = .bool b) : Ret Tryz.prog 108 [.slice a_s_ s_.length c_s_, .func (.func k_del) #[] caps_del.toArray] w F_s_ fun v w' => ∃ a1 c1 F1, v = .slice a1 res.length c1 ∧ NewM w w' F_s_ [owC strsL F1 [.slice a1 res.length c1] res] := by
  unfold m_slices_DeleteFunc_string at h
  refine ret_enter Tryz.func108 rfl Tryz.ntmps108 rfl (hp_one hr hnd) ?_
  refine cw_seq ?_
  refine cw_region ?_
  refine wl_u rfl (ow_y (yh_assign rfl rfl) rfl rfl (kk_wl ?_))
  refine wl_nil ?_
  refine ex_seq ?_
  refine cw_seq ?_
  refine cw_region ?_
  refine wl_u rfl (ow_y (yh_move rfl rfl) rfl rfl (kk_wl ?_))
  refine wl_u rfl (ow_y (yh_move rfl rfl) rfl rfl (kk_wl ?_))
  obtain ⟨x10, hx10, h⟩ := bd h
  refine wl_u rfl (ow_cV rfl hb79 rfl (fun w hw => c_slices_IndexFunc_string N _ _ _ hx10 w (rdo (A := strsL) 0 rfl hw) hb_del (fun x b hb w' hE => hf_del x b hb w' (hw.ext.trans0 hE))) rfl rfl (kk_wl ?_))
  refine wl_u rfl (ow_y (yh_assign rfl rfl) rfl rfl (kk_wl ?_))
  refine wl_nil ?_
  refine ex_seq ?_
  refine cw_seq ?_
  refine cw_seq ?_
  refine cw_region ?_
  refine wl_u rfl (ow_y (yh_move rfl rfl) rfl rfl (kk_wl ?_))
  refine wl_u rfl (ow_y (yh_cmpI rfl rfl rfl rfl) rfl rfl (kk_wl ?_))
  refine wl_nil ?_
  refine ex_seq ?_
  refine cw_split rfl (fun c1 => ?_) (fun c1 => ?_)
  · skip
    replace h := bt c1 h
    have q1 := eqb_true.1 c1
    refine cw_seq ?_
    refine cw_region ?_
    refine wl_u rfl (ow_y (yh_move rfl rfl) rfl rfl (kk_wl ?_))
    refine wl_u rfl (ow_y (yh_assign rfl rfl) rfl rfl (kk_wl ?_))
    refine wl_nil ?_
    refine ex_seq ?_
    refine cw_ret ?_
    refine ex_then_ret ?_
    obtain rfl := Option.some.inj h
    exact ex_r1 Tb rfl (.tmp rfl) (fun wq hq => ⟨_, rfl, hq.ext, ⟨a_s_, c_s_, F_s_, rfl, NewM.sel [0] hq rfl⟩⟩)
  · skip
    replace h := bf c1 h
    have q2 := eqb_false.1 c1
    refine cw_skip ?_
    refine ex_seq ?_
    refine cw_seq ?_
    refine cw_seq ?_
    refine cw_region ?_
    refine wl_u rfl (ow_y (yh_move rfl rfl) rfl rfl (kk_wl ?_))
    refine wl_u rfl (ow_y (yh_arW rfl rfl rfl rfl) rfl rfl (kk_wl ?_))
    refine wl_u rfl (ow_y (yh_assign rfl rfl) rfl rfl (kk_wl ?_))
    refine wl_nil ?_
    refine ex_seq ?_
    refine cw_block ?_
    obtain ⟨e8, he8, hk8⟩ := bd h
    clear h
    refine cw_loopG (σ := Nat × (List Str) × Int × Int × (List Nat)) (fun s => m_slices_DeleteFunc_string_L8 N s_ del s.1 s.2.1 s.2.2.1 s.2.2.2.1 = some e8) (fun s => [(0, .slice a_s_ s_.length c_s_), (1, .func (.func k_del) #[] caps_del.toArray), (5, .int .i64 s.2.2.1), (6, .int .i64 s.2.2.2.1)]) (fun s => [owC strsL s.2.2.2.2 [.slice a_s_ s_.length c_s_] s.2.1]) (fun s => s.1) (N, s_, x10, w64 (x10 + 1), F_s_) [0] he8 ⟨rfl, rfl, rfl, rfl, trivial⟩ rfl (fun KL s he8 hn8 => ?_)
    obtain ⟨n8, s0, s5, s6, Fs0⟩ := s
    simp only at he8 hn8 ⊢
    rcases n8 with _ | n8
    · exact nosome he8
    have h := he8; rw [m_slices_DeleteFunc_string_L8] at h
    refine cw_seq ?_
    refine cw_seq ?_
    refine cw_region ?_
    refine wl_u rfl (ow_y (yh_move rfl rfl) rfl rfl (kk_wl ?_))
    refine wl_u rfl (ow_y (yh_move rfl rfl) rfl rfl (kk_wl ?_))
    refine wl_know (s_.length ≤ 9223372036854775807) (fun w hw => own_max 0 rfl hw) (fun mo18 => ?_)
    refine wl_u rfl (ow_y (yh_lenS Tb rfl rfl rfl rfl) rfl rfl (kk_wl ?_))
    refine wl_u rfl (ow_y (yh_cmpI rfl rfl rfl rfl) rfl rfl (kk_wl ?_))
    refine wl_nil ?_
    refine ex_seq ?_
    refine cw_split rfl (fun c2 => ?_) (fun c2 => ?_)
    · skip
      replace h := bt c2 h
      have q3 := ltb_true.1 c2
      refine cw_skip ?_
      refine ex_seq ?_
      refine cw_seq ?_
      refine cw_block ?_
      refine cw_seq ?_
      refine cw_region ?_
      refine wl_u rfl (ow_y (yh_move rfl rfl) rfl rfl (kk_wl ?_))
      refine wl_u rfl (ow_y (yh_move rfl rfl) rfl rfl (kk_wl ?_))
      obtain ⟨y24, zy24, h⟩ := bd h
      obtain ⟨iy24, hy24⟩ := geti_some zy24
      refine wl_ex (fun g => a_s_ = some ⟨g, 0, none⟩) (fun w hw => by exact own_addrK 0 rfl hy24 hw) (fun g24 hg24 => ?_)
      subst hg24
      refine wl_know (s_.length = s0.length) (fun w hw => own_lenK 0 rfl hw) (fun hn24 => ?_)
      refine wl_u rfl (ow_y (yh_idx Tb (k := s6.toNat) rfl rfl rfl iy24 (Nat.lt_of_lt_of_eq (get_lt hy24) hn24.symm) rfl rfl) rfl rfl (kk_wl ?_))
      refine wl_u rfl (ow_y (yh_loadO0 Tb 0 rfl rfl rfl rfl rfl hy24 rfl) rfl rfl (kk_wl ?_))
      refine wl_u rfl (ow_y (yh_assign rfl rfl) rfl rfl (kk_wl ?_))
      refine wl_nil ?_
      refine ex_seq ?_
      refine cw_seq ?_
      refine cw_region ?_
      refine wl_u rfl (ow_y (yh_move rfl rfl) rfl rfl (kk_wl ?_))
      refine wl_u rfl (ow_y (yh_move rfl rfl) rfl rfl (kk_wl ?_))
      obtain ⟨x28, hx28, h⟩ := bd h
      refine wl_u rfl (ow_callV rfl rfl hb_del rfl rfl (fun w hw => hf_del _ _ hx28 w hw.ext) rfl rfl (kk_wl ?_))
      refine wl_u rfl (ow_y (yh_not rfl rfl) rfl rfl (kk_wl ?_))
      refine wl_nil ?_
      refine ex_seq ?_
      refine cw_split rfl (fun c3 => ?_) (fun c3 => ?_)
      · skip
        replace h := bt c3 h
        refine cw_seq ?_
        refine cw_region ?_
        refine wl_u rfl (ow_y (yh_move rfl rfl) rfl rfl (kk_wl ?_))
        refine wl_u rfl (ow_y (yh_move rfl rfl) rfl rfl (kk_wl ?_))
        refine wl_u rfl (ow_y (yh_move rfl rfl) rfl rfl (kk_wl ?_))
        obtain ⟨y33, zy33, h⟩ := bd h
        obtain ⟨iy33, hy33⟩ := geti_some zy33
        refine wl_know (s_.length = s0.length) (fun w hw => own_lenK 0 rfl hw) (fun hn33 => ?_)
        refine wl_u rfl (ow_y (yh_idx Tb (k := s5.toNat) rfl rfl rfl iy33 (Nat.lt_of_lt_of_eq (get_lt hy33) hn33.symm) rfl rfl) rfl rfl (kk_wl ?_))
        refine wl_u rfl (ow_setP Tb (u := y24) 0 rfl rfl rfl rfl rfl (get_lt hy33) rfl rfl (fun Fs14 => kk_wl ?_))
        refine wl_nil ?_
        refine ex_seq ?_
        refine cw_region ?_
        refine wl_u rfl (ow_y (yh_move rfl rfl) rfl rfl (kk_wl ?_))
        refine wl_u rfl (ow_y (yh_arW rfl rfl rfl rfl) rfl rfl (kk_wl ?_))
        refine wl_u rfl (ow_y (yh_assign rfl rfl) rfl rfl (kk_wl ?_))
        refine wl_nil ?_
        refine ex_block_normal ?_
        refine ex_seq ?_
        refine cw_region ?_
        refine wl_u rfl (ow_y (yh_move rfl rfl) rfl rfl (kk_wl ?_))
        refine wl_u rfl (ow_y (yh_arW rfl rfl rfl rfl) rfl rfl (kk_wl ?_))
        refine wl_u rfl (ow_y (yh_assign rfl rfl) rfl rfl (kk_wl ?_))
        refine wl_nil ?_
        exact ex_next [0] (hn8 (n8, (s0.set s5.toNat y24), w64 (s5 + 1), w64 (s6 + 1), Fs14) (Nat.lt_succ_self _) h) ⟨rfl, rfl, rfl, rfl, trivial⟩ (by kernel_rfl)
      · skip
        replace h := bf c3 h
        refine cw_skip ?_
        refine ex_block_normal ?_
        refine ex_seq ?_
        refine cw_region ?_
        refine wl_u rfl (ow_y (yh_move rfl rfl) rfl rfl (kk_wl ?_))
        refine wl_u rfl (ow_y (yh_arW rfl rfl rfl rfl) rfl rfl (kk_wl ?_))
        refine wl_u rfl (ow_y (yh_assign rfl rfl) rfl rfl (kk_wl ?_))
        refine wl_nil ?_
        exact ex_next [0] (hn8 (n8, s0, s5, w64 (s6 + 1), Fs0) (Nat.lt_succ_self _) h) ⟨rfl, rfl, rfl, rfl, trivial⟩ (by kernel_rfl)
    · skip
      replace h := bf c2 h
      have q4 := ltb_false.1 c2
      refine cw_exit ?_
      refine ex_then_exit ?_
      refine ex_then_exit ?_
      obtain rfl := Option.some.inj h
      have h := go_brk hk8
      refine ex_block_exit ?_
      refine ex_seq ?_
      refine cw_seq ?_
      refine cw_region ?_
      refine wl_u rfl (ow_y (yh_move rfl rfl) rfl rfl (kk_wl ?_))
      refine wl_u rfl (ow_y (yh_move rfl rfl) rfl rfl (kk_wl ?_))
      obtain ⟨l38, zl38, h⟩ := bd h
      refine wl_know (s_.length = s0.length) (fun w hw => own_lenK 0 rfl hw) (fun hn38 => ?_)
      obtain ⟨a38, e38, va38, ve38, il38⟩ := sl_dropV a_s_ c_s_ 1 zl38
      refine wl_u rfl (ow_y (yh_sliceLN Tb hn38 zl38 va38 ve38 rfl rfl rfl rfl rfl) rfl rfl (kk_wl ?_))
      refine wl_u rfl (ow_clear Tb ((⟨#[]⟩ : Str) : Str) 0 zl38 va38 ve38 rfl rfl rfl rfl rfl rfl rfl rfl (kk_wl ?_))
      refine wl_nil ?_
      refine ex_seq ?_
      refine cw_seq ?_
      refine cw_region ?_
      refine wl_u rfl (ow_y (yh_move rfl rfl) rfl rfl (kk_wl ?_))
      refine wl_u rfl (ow_y (yh_move rfl rfl) rfl rfl (kk_wl ?_))
      obtain ⟨l41, zl41, h⟩ := bd h
      obtain ⟨il41, jl41⟩ := slTo_K zl41
      refine wl_know ((s0.take (s5).toNat ++ List.replicate l38.length ((⟨#[]⟩ : Str) : Str)).length ≤ c_s_) (fun w hw => own_capK 0 rfl hw) (fun hcp41 => ?_)
      refine wl_u rfl (ow_chg (c' := owC strsL Fs0 [.slice a_s_ l41.length c_s_] l41) 0 rfl (fun w hA => own_cut zl41 hA) rfl (ow_y (yh_sliceH Tb (k := l41.length) rfl rfl rfl il41 (Nat.le_trans jl41 hcp41) rfl rfl) rfl rfl (kk_wl ?_)))
      refine wl_u rfl (ow_y (yh_assign rfl rfl) rfl rfl (kk_wl ?_))
      refine wl_nil ?_
      refine ex_seq ?_
      refine cw_ret ?_
      obtain rfl := Option.some.inj h
      exact ex_r1 Tb rfl (.tmp rfl) (fun wq hq => ⟨_, rfl, hq.ext, ⟨a_s_, c_s_, Fs0, rfl, NewM.sel [0] hq rfl⟩⟩)

end Go.Proofs.YtmnhnldnnniglaaGreat
