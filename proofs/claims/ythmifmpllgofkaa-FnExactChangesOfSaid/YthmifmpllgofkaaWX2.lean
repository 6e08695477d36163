/- Mirrors and contracts, printed by a program: what each function computes as a plain term, and that it does. -/
import Derived.Test.YthmifmpllgofkaaR
import Derived.Test.YthmifmpllgofkaaH
import Derived.Test.YthmifmpllgofkaaWX0
import Derived.Test.YthmifmpllgofkaaWX1
set_option linter.all false
set_option maxRecDepth 100000
namespace Go.Proofs.Ythmifmpllgofkaa
open Go.RowKit

def m_laws_markFlow (N : Nat) (a : Flow) (k : Int) : Option ((Int) × (List Step)) := (m_laws_markStepS N a.steps k).bind fun x8 => some (x8.1, x8.2)

set_option maxHeartbeats 4000000 in
theorem c_laws_markFlow (N : Nat) (a : Flow) (k : Int) (res : (Int) × (List Step)) (h : m_laws_markFlow N a k = some res) (w : World) {a_a : Option Addr} {c_a : Nat} {F_a : List Nat} (hr : (owC stepsL F_a [.slice a_a a.steps.length c_a] a.steps).A w) (hnd : F_a.Nodup) : Ret Try.prog 20 [.agg #[.int .i64 a.ver, .slice a_a a.steps.length c_a], .int .i64 k] w F_a fun v w' => ∃ F0, v = .int .i64 res.1 ∧ NewM w w' F_a [owC stepsL F0 [.slice a_a a.steps.length c_a] res.2] := by
  unfold m_laws_markFlow at h
  refine ret_enter Try.func20 rfl Try.ntmps20 rfl (hp_one hr hnd) ?_
  refine cw_seq ?_
  refine cw_region ?_
  refine wl_u rfl (ow_boxA rfl rfl rfl rfl (fun g2 => kk_wl ?_))
  refine wl_u rfl (ow_y (yh_assign rfl rfl) rfl rfl (kk_wl ?_))
  refine wl_nil ?_
  refine ex_seq ?_
  refine cw_seq ?_
  refine cw_region ?_
  refine wl_u rfl (ow_y (yh_field Tb rfl rfl rfl) rfl rfl (kk_wl ?_))
  refine wl_u rfl (ow_y (yh_loadB Tb (k := 0) rfl rfl rfl rfl rfl) rfl rfl (kk_wl ?_))
  refine wl_u rfl (ow_y (yh_move rfl rfl) rfl rfl (kk_wl ?_))
  obtain ⟨x8, hx8, h⟩ := bd h
  refine wl_u rfl (ow_cF1 1 rfl hb56 rfl rfl (fun w hw => c_laws_markStepS N _ _ _ hx8 w (hw.at (i := 1) rfl) (hw.ndAt (i := 1) rfl)) rfl rfl (fun F8 => kk_wl ?_))
  refine wl_u rfl (ow_y (yh_assign rfl rfl) rfl rfl (kk_wl ?_))
  refine wl_nil ?_
  refine ex_seq ?_
  refine cw_seq ?_
  refine cw_region ?_
  refine wl_u rfl (ow_y (yh_move rfl rfl) rfl rfl (kk_wl ?_))
  refine wl_u rfl (ow_y (yh_assign rfl rfl) rfl rfl (kk_wl ?_))
  refine wl_nil ?_
  refine ex_seq ?_
  refine cw_ret ?_
  obtain rfl := Option.some.inj h
  exact ex_r1 Tb rfl (.tmp rfl) (fun wq hq => ⟨_, rfl, hq.ext, ⟨F8, rfl, NewM.sel [0] hq rfl⟩⟩)

def m_laws_markChangeS_L4 (N : Nat) (a : List Change) : Nat → (List Change) → Int → Nat → Option (Ex (List Change × Int × Nat) ((Int) × (List Change)))
  | 0, _, _, _ => none
  | n + 1, s0, s1, s5 => (bif ltb ((s5 : Nat) : Int) ((a.length : Nat) : Int) then (s0[s5]?).bind fun y15 => (m_laws_markText N (w64 (s1 + 1))).bind fun x22 => ((s0.set s5 (Change.mk s1 y15.step))[s5]?).bind fun y23 => (((s0.set s5 (Change.mk s1 y15.step)).set s5 (Change.mk y23.kind (Step.mk x22 y23.step.after y23.step.undo)))[s5]?).bind fun y30 => (m_laws_markStringS N y30.step.after (w64 ((w64 (s1 + 1)) + 1))).bind fun x35 => ((((s0.set s5 (Change.mk s1 y15.step)).set s5 (Change.mk y23.kind (Step.mk x22 y23.step.after y23.step.undo))).set s5 (Change.mk y30.kind (Step.mk y30.step.name x35.2 y30.step.undo)))[s5]?).bind fun y41 => m_laws_markChangeS_L4 N a n ((((s0.set s5 (Change.mk s1 y15.step)).set s5 (Change.mk y23.kind (Step.mk x22 y23.step.after y23.step.undo))).set s5 (Change.mk y30.kind (Step.mk y30.step.name x35.2 y30.step.undo))).set s5 (Change.mk y41.kind (Step.mk y41.step.name y41.step.after (eqb (Int.tmod x35.1 3) 0)))) (w64 (x35.1 + 1)) (s5 + 1)
 else some (Ex.brk (s0, s1, s5)))

def m_laws_markChangeS (N : Nat) (a : List Change) (k : Int) : Option ((Int) × (List Change)) := (m_laws_markChangeS_L4 N a N a k 0).bind fun e4 => e4.go (fun r => r) fun b4 => some (b4.2.1, b4.1)

set_option maxHeartbeats 4000000 in
theorem c_laws_markChangeS (N : Nat) (a : List Change) (k : Int) (res : (Int) × (List Change)) (h : m_laws_markChangeS N a k = some res) (w : World) {a_a : Option Addr} {c_a : Nat} {F_a : List Nat} (hr : (owC changesL F_a [.slice a_a a.length c_a] a).A w) (hnd : F_a.Nodup) : Ret Try.prog 21 [.slice a_a a.length c_a, .int .i64 k] w F_a fun v w' => ∃ F0, v = .int .i64 res.1 ∧ NewM w w' F_a [owC changesL F0 [.slice a_a a.length c_a] res.2] := by
  unfold m_laws_markChangeS at h
  refine ret_enter Try.func21 rfl Try.ntmps21 rfl (hp_one hr hnd) ?_
  refine cw_seq ?_
  refine cw_region ?_
  refine wl_u rfl (ow_y (yh_assign rfl rfl) rfl rfl (kk_wl ?_))
  refine wl_nil ?_
  refine ex_seq ?_
  refine cw_seq ?_
  refine cw_seq ?_
  refine cw_region ?_
  refine wl_u rfl (ow_y (yh_assign rfl rfl) rfl rfl (kk_wl ?_))
  refine wl_nil ?_
  refine ex_seq ?_
  refine cw_block ?_
  obtain ⟨e4, he4, hk4⟩ := bd h
  clear h
  refine cw_loopG (σ := Nat × (List Change) × Int × Nat × (List Nat)) (fun s => m_laws_markChangeS_L4 N a s.1 s.2.1 s.2.2.1 s.2.2.2.1 = some e4) (fun s => [(0, .slice a_a a.length c_a), (1, .int .i64 s.2.2.1), (5, .int .i64 ((s.2.2.2.1 : Nat) : Int))]) (fun s => [owC changesL s.2.2.2.2 [.slice a_a a.length c_a] s.2.1]) (fun s => s.1) (N, a, k, 0, F_a) [0] he4 ⟨rfl, rfl, rfl, trivial⟩ rfl (fun KL s he4 hn4 => ?_)
  obtain ⟨n4, s0, s1, s5, Fs0⟩ := s
  simp only at he4 hn4 ⊢
  rcases n4 with _ | n4
  · exact nosome he4
  have h := he4; rw [m_laws_markChangeS_L4] at h
  refine cw_seq ?_
  refine cw_seq ?_
  refine cw_region ?_
  refine wl_u rfl (ow_y (yh_move rfl rfl) rfl rfl (kk_wl ?_))
  refine wl_u rfl (ow_y (yh_move rfl rfl) rfl rfl (kk_wl ?_))
  refine wl_know (a.length ≤ 9223372036854775807) (fun w hw => own_max 0 rfl hw) (fun mo8 => ?_)
  refine wl_u rfl (ow_y (yh_lenS Tb rfl rfl rfl rfl) rfl rfl (kk_wl ?_))
  refine wl_u rfl (ow_y (yh_cmpI rfl rfl rfl rfl) rfl rfl (kk_wl ?_))
  refine wl_nil ?_
  refine ex_seq ?_
  refine cw_split rfl (fun c1 => ?_) (fun c1 => ?_)
  · skip
    replace h := bt c1 h
    have q1 := ltb_true.1 c1
    refine cw_skip ?_
    refine ex_seq ?_
    refine cw_seq ?_
    refine cw_block ?_
    refine cw_seq ?_
    refine cw_region ?_
    refine wl_u rfl (ow_y (yh_move rfl rfl) rfl rfl (kk_wl ?_))
    refine wl_u rfl (ow_y (yh_move rfl rfl) rfl rfl (kk_wl ?_))
    refine wl_u rfl (ow_y (yh_move rfl rfl) rfl rfl (kk_wl ?_))
    obtain ⟨y15, hy15, h⟩ := bd h
    refine wl_ex (fun g => a_a = some ⟨g, 0, none⟩) (fun w hw => by exact own_addrK 0 rfl hy15 hw) (fun g15 hg15 => ?_)
    subst hg15
    refine wl_know (a.length = s0.length) (fun w hw => own_lenK 0 rfl hw) (fun hn15 => ?_)
    refine wl_u rfl (ow_y (yh_idx Tb (k := s5) rfl rfl rfl rfl (Nat.lt_of_lt_of_eq (get_lt hy15) hn15.symm) rfl rfl) rfl rfl (kk_wl ?_))
    refine wl_u rfl (ow_y (yh_field Tb rfl rfl rfl) rfl rfl (kk_wl ?_))
    refine wl_u rfl (ow_setFP Tb 0 0 (Change.mk s1 y15.step) (fun w F cs h => by obtain ⟨a, c, rfl, h2⟩ := changeL_ow h; exact changeL_mk (Change.mk s1 y15.step) h2) rfl rfl rfl rfl rfl rfl rfl hy15 rfl (kk_wl ?_))
    refine wl_nil ?_
    refine ex_seq ?_
    refine cw_seq ?_
    refine cw_region ?_
    refine wl_u rfl (ow_y (yh_move rfl rfl) rfl rfl (kk_wl ?_))
    refine wl_u rfl (ow_y (yh_arW rfl rfl rfl rfl) rfl rfl (kk_wl ?_))
    refine wl_u rfl (ow_y (yh_assign rfl rfl) rfl rfl (kk_wl ?_))
    refine wl_nil ?_
    refine ex_seq ?_
    refine cw_seq ?_
    refine cw_region ?_
    refine wl_u rfl (ow_y (yh_move rfl rfl) rfl rfl (kk_wl ?_))
    refine wl_u rfl (ow_y (yh_move rfl rfl) rfl rfl (kk_wl ?_))
    refine wl_u rfl (ow_y (yh_move rfl rfl) rfl rfl (kk_wl ?_))
    obtain ⟨x22, hx22, h⟩ := bd h
    refine wl_u rfl (ow_cV rfl hb57 rfl (fun w hw => c_laws_markText N _ _ hx22 w) rfl rfl (kk_wl ?_))
    obtain ⟨y23, hy23, h⟩ := bd h
    refine wl_know (a.length = (s0.set s5 (Change.mk s1 y15.step)).length) (fun w hw => own_lenK 0 rfl hw) (fun hn23 => ?_)
    refine wl_u rfl (ow_y (yh_idx Tb (k := s5) rfl rfl rfl rfl (Nat.lt_of_lt_of_eq (get_lt hy23) hn23.symm) rfl rfl) rfl rfl (kk_wl ?_))
    refine wl_u rfl (ow_y (yh_field Tb rfl rfl rfl) rfl rfl (kk_wl ?_))
    refine wl_u rfl (ow_y (yh_field Tb rfl rfl rfl) rfl rfl (kk_wl ?_))
    refine wl_u rfl (ow_setFP Tb 0 1 (Change.mk y23.kind (Step.mk x22 y23.step.after y23.step.undo)) (fun w F cs h => by obtain ⟨a, c, rfl, h2⟩ := changeL_ow h; exact changeL_mk (Change.mk y23.kind (Step.mk x22 y23.step.after y23.step.undo)) h2) rfl rfl rfl rfl rfl rfl rfl hy23 rfl (kk_wl ?_))
    refine wl_nil ?_
    refine ex_seq ?_
    refine cw_seq ?_
    refine cw_region ?_
    refine wl_u rfl (ow_y (yh_move rfl rfl) rfl rfl (kk_wl ?_))
    refine wl_u rfl (ow_y (yh_arW rfl rfl rfl rfl) rfl rfl (kk_wl ?_))
    refine wl_u rfl (ow_y (yh_assign rfl rfl) rfl rfl (kk_wl ?_))
    refine wl_nil ?_
    refine ex_seq ?_
    refine cw_seq ?_
    refine cw_region ?_
    refine wl_u rfl (ow_y (yh_move rfl rfl) rfl rfl (kk_wl ?_))
    refine wl_u rfl (ow_y (yh_move rfl rfl) rfl rfl (kk_wl ?_))
    obtain ⟨y30, hy30, h⟩ := bd h
    refine wl_know (a.length = ((s0.set s5 (Change.mk s1 y15.step)).set s5 (Change.mk y23.kind (Step.mk x22 y23.step.after y23.step.undo))).length) (fun w hw => own_lenK 0 rfl hw) (fun hn30 => ?_)
    refine wl_u rfl (ow_y (yh_idx Tb (k := s5) rfl rfl rfl rfl (Nat.lt_of_lt_of_eq (get_lt hy30) hn30.symm) rfl rfl) rfl rfl (kk_wl ?_))
    refine wl_u rfl (ow_y (yh_field Tb rfl rfl rfl) rfl rfl (kk_wl ?_))
    refine wl_u rfl (ow_y (yh_field Tb rfl rfl rfl) rfl rfl (kk_wl ?_))
    refine wl_u rfl (ow_loadH Tb 0 2 (change_nest y30) rfl rfl rfl rfl hy30 rfl rfl (fun a33 c33 G33 F33 => kk_wl ?_))
    refine wl_u rfl (ow_y (yh_move rfl rfl) rfl rfl (kk_wl ?_))
    obtain ⟨x35, hx35, h⟩ := bd h
    refine wl_u rfl (ow_cF1 0 rfl hb58 rfl rfl (fun w hw => c_laws_markStringS N _ _ _ hx35 w (hw.at (i := 0) rfl) (hw.ndAt (i := 0) rfl)) rfl rfl (fun F35 => kk_join (l2 := (((s0.set s5 (Change.mk s1 y15.step)).set s5 (Change.mk y23.kind (Step.mk x22 y23.step.after y23.step.undo))).set s5 (Change.mk y30.kind (Step.mk y30.step.name x35.2 y30.step.undo)))) 0 0 rfl rfl rfl (fun G35 => kk_wl ?_)))
    refine wl_u rfl (ow_y (yh_assign rfl rfl) rfl rfl (kk_wl ?_))
    refine wl_nil ?_
    refine ex_seq ?_
    refine cw_seq ?_
    refine cw_region ?_
    refine wl_u rfl (ow_y (yh_move rfl rfl) rfl rfl (kk_wl ?_))
    refine wl_u rfl (ow_y (yh_move rfl rfl) rfl rfl (kk_wl ?_))
    refine wl_u rfl (ow_y (yh_move rfl rfl) rfl rfl (kk_wl ?_))
    refine wl_u rfl (ow_y (yh_remT rfl rfl rfl (by decide)) rfl rfl (kk_wl ?_))
    refine wl_u rfl (ow_y (yh_cmpI rfl rfl rfl rfl) rfl rfl (kk_wl ?_))
    obtain ⟨y41, hy41, h⟩ := bd h
    refine wl_know (a.length = (((s0.set s5 (Change.mk s1 y15.step)).set s5 (Change.mk y23.kind (Step.mk x22 y23.step.after y23.step.undo))).set s5 (Change.mk y30.kind (Step.mk y30.step.name x35.2 y30.step.undo))).length) (fun w hw => own_lenK 0 rfl hw) (fun hn41 => ?_)
    refine wl_u rfl (ow_y (yh_idx Tb (k := s5) rfl rfl rfl rfl (Nat.lt_of_lt_of_eq (get_lt hy41) hn41.symm) rfl rfl) rfl rfl (kk_wl ?_))
    refine wl_u rfl (ow_y (yh_field Tb rfl rfl rfl) rfl rfl (kk_wl ?_))
    refine wl_u rfl (ow_y (yh_field Tb rfl rfl rfl) rfl rfl (kk_wl ?_))
    refine wl_u rfl (ow_setFP Tb 0 3 (Change.mk y41.kind (Step.mk y41.step.name y41.step.after (eqb (Int.tmod x35.1 3) 0))) (fun w F cs h => by obtain ⟨a, c, rfl, h2⟩ := changeL_ow h; exact changeL_mk (Change.mk y41.kind (Step.mk y41.step.name y41.step.after (eqb (Int.tmod x35.1 3) 0))) h2) rfl rfl rfl rfl rfl rfl rfl hy41 rfl (kk_wl ?_))
    refine wl_nil ?_
    refine ex_seq ?_
    refine cw_region ?_
    refine wl_u rfl (ow_y (yh_move rfl rfl) rfl rfl (kk_wl ?_))
    refine wl_u rfl (ow_y (yh_arW rfl rfl rfl rfl) rfl rfl (kk_wl ?_))
    refine wl_u rfl (ow_y (yh_assign rfl rfl) rfl rfl (kk_wl ?_))
    refine wl_nil ?_
    refine ex_block_normal ?_
    refine ex_seq ?_
    refine cw_region ?_
    refine wl_u rfl (ow_y (yh_move rfl rfl) rfl rfl (kk_wl ?_))
    refine wl_u rfl (ow_y (yh_arI rfl rfl rfl rfl (by omega)) rfl rfl (kk_wl ?_))
    refine wl_u rfl (ow_y (yh_assign rfl rfl) rfl rfl (kk_wl ?_))
    refine wl_nil ?_
    exact ex_next [0] (hn4 (n4, ((((s0.set s5 (Change.mk s1 y15.step)).set s5 (Change.mk y23.kind (Step.mk x22 y23.step.after y23.step.undo))).set s5 (Change.mk y30.kind (Step.mk y30.step.name x35.2 y30.step.undo))).set s5 (Change.mk y41.kind (Step.mk y41.step.name y41.step.after (eqb (Int.tmod x35.1 3) 0)))), w64 (x35.1 + 1), s5 + 1, G35) (Nat.lt_succ_self _) h) ⟨rfl, rfl, rfl, trivial⟩ (by kernel_rfl)
  · skip
    replace h := bf c1 h
    have q2 := ltb_false.1 c1
    refine cw_exit ?_
    refine ex_then_exit ?_
    refine ex_then_exit ?_
    obtain rfl := Option.some.inj h
    have h := go_brk hk4
    refine ex_block_exit ?_
    refine ex_seq ?_
    refine cw_seq ?_
    refine cw_region ?_
    refine wl_u rfl (ow_y (yh_move rfl rfl) rfl rfl (kk_wl ?_))
    refine wl_u rfl (ow_y (yh_assign rfl rfl) rfl rfl (kk_wl ?_))
    refine wl_nil ?_
    refine ex_seq ?_
    refine cw_ret ?_
    obtain rfl := Option.some.inj h
    exact ex_r1 Tb rfl (.tmp rfl) (fun wq hq => ⟨_, rfl, hq.ext, ⟨Fs0, rfl, NewM.sel [0] hq rfl⟩⟩)

def m_laws_heldStringS_L5 (N : Nat) (a : List Str) : Nat → Int → Nat → Option (Ex (Int × Nat) (Int))
  | 0, _, _ => none
  | n + 1, s1, s5 => (bif ltb ((s5 : Nat) : Int) ((a.length : Nat) : Int) then (a[s5]?).bind fun y14 => (m_laws_markText N s1).bind fun x17 => (bif !(seq y14 x17) then some (Ex.ret (-1))
 else m_laws_heldStringS_L5 N a n (w64 (s1 + 1)) (s5 + 1))
 else some (Ex.brk (s1, s5)))

def m_laws_heldStringS (N : Nat) (a : List Str) (k : Int) : Option (Int) := (m_laws_heldStringS_L5 N a N k 0).bind fun e5 => e5.go (fun r => r) fun b5 => some b5.1

set_option maxHeartbeats 4000000 in
theorem c_laws_heldStringS (N : Nat) (a : List Str) (k : Int) (res : Int) (h : m_laws_heldStringS N a k = some res) (w : World) {a_a : Option Addr} {c_a : Nat} (h_a : strsL.rd w [] [.slice a_a a.length c_a] a) : Ret Try.prog 59 [.slice a_a a.length c_a, .int .i64 k] w [] fun v w' => v = .int .i64 res := by
  have mh_a := rd_max h_a
  unfold m_laws_heldStringS at h
  refine ret_enter Try.func59 rfl Try.ntmps59 rfl (Hp.refl w _) ?_
  refine cw_seq ?_
  refine cw_region ?_
  refine wl_u rfl (ow_y (yh_assign rfl rfl) rfl rfl (kk_wl ?_))
  refine wl_nil ?_
  refine ex_seq ?_
  refine cw_seq ?_
  refine cw_seq ?_
  refine cw_region ?_
  refine wl_u rfl (ow_y (yh_assign rfl rfl) rfl rfl (kk_wl ?_))
  refine wl_nil ?_
  refine ex_seq ?_
  refine cw_block ?_
  obtain ⟨e5, he5, hk5⟩ := bd h
  clear h
  refine cw_loopG (σ := Nat × Int × Nat) (fun s => m_laws_heldStringS_L5 N a s.1 s.2.1 s.2.2 = some e5) (fun s => [(0, .slice a_a a.length c_a), (1, .int .i64 s.2.1), (5, .int .i64 ((s.2.2 : Nat) : Int))]) (fun s => []) (fun s => s.1) (N, k, 0) [] he5 ⟨rfl, rfl, rfl, trivial⟩ rfl (fun KL s he5 hn5 => ?_)
  obtain ⟨n5, s1, s5⟩ := s
  simp only at he5 hn5 ⊢
  rcases n5 with _ | n5
  · exact nosome he5
  have h := he5; rw [m_laws_heldStringS_L5] at h
  refine cw_seq ?_
  refine cw_seq ?_
  refine cw_region ?_
  refine wl_u rfl (ow_y (yh_move rfl rfl) rfl rfl (kk_wl ?_))
  refine wl_u rfl (ow_y (yh_move rfl rfl) rfl rfl (kk_wl ?_))
  refine wl_u rfl (ow_y (yh_lenS Tb rfl rfl rfl rfl) rfl rfl (kk_wl ?_))
  refine wl_u rfl (ow_y (yh_cmpI rfl rfl rfl rfl) rfl rfl (kk_wl ?_))
  refine wl_nil ?_
  refine ex_seq ?_
  refine cw_split rfl (fun c1 => ?_) (fun c1 => ?_)
  · skip
    replace h := bt c1 h
    have q1 := ltb_true.1 c1
    refine cw_skip ?_
    refine ex_seq ?_
    refine cw_seq ?_
    refine cw_block ?_
    refine cw_seq ?_
    refine cw_seq ?_
    refine cw_dr [0, 1, 2, 3, 4, 6] [] [] (by kernel_rfl) ?_
    refine wd_take (i := 0) [] rfl rfl rfl rfl rfl (by kernel_rfl) (by kernel_rfl) (fun _ _ _ _ h => h) (yh_move rfl rfl) ?_
    refine wd_take (i := 1) [] rfl rfl rfl rfl rfl (by kernel_rfl) (by kernel_rfl) (fun _ _ _ _ h => h) (yh_move rfl rfl) ?_
    obtain ⟨y14, hy14, h⟩ := bd h
    obtain ⟨b14, o14, ha14⟩ := sl_addr h_a hy14
    subst ha14
    have hc14 := get_str h_a hy14
    refine wd_take (i := 2) [] rfl rfl rfl rfl rfl (by kernel_rfl) (by kernel_rfl) (fun _ _ _ _ h => h) (yh_idx Tb (k := s5) rfl rfl rfl rfl (get_lt hy14) rfl rfl) ?_
    refine wd_take (i := 3) [] rfl rfl rfl rfl rfl (by kernel_rfl) (by kernel_rfl) (fun _ _ _ _ h => h) (yh_loadA0 Tb rfl rfl rfl hc14 rfl) ?_
    refine wd_take (i := 4) [] rfl rfl rfl rfl rfl (by kernel_rfl) (by kernel_rfl) (fun _ _ _ _ h => h) (yh_move rfl rfl) ?_
    obtain ⟨x17, hx17, h⟩ := bd h
    refine wd_one 5 rfl rfl (by kernel_rfl) (ow_cV rfl hb57 rfl (fun w hw => c_laws_markText N _ _ hx17 w) rfl rfl (kk_wd [] (by kernel_rfl) ?_))
    refine wd_take (i := 6) [] rfl rfl rfl rfl rfl (by kernel_rfl) (by kernel_rfl) (fun _ _ _ _ h => h) (yh_cmpS rfl rfl rfl rfl) ?_
    refine wd_done (by kernel_rfl) ?_
    refine ex_seq ?_
    refine cw_split rfl (fun c2 => ?_) (fun c2 => ?_)
    · skip
      replace h := bt c2 h
      refine cw_seq ?_
      refine cw_region ?_
      refine wl_u rfl (ow_y (yh_assign rfl rfl) rfl rfl (kk_wl ?_))
      refine wl_nil ?_
      refine ex_seq ?_
      refine cw_ret ?_
      refine ex_then_ret ?_
      refine ex_block_ret ?_
      refine ex_then_ret ?_
      refine ex_then_ret ?_
      refine ex_block_ret ?_
      refine ex_then_ret ?_
      obtain rfl := Option.some.inj h
      obtain rfl := go_ret hk5
      exact ex_r1 Tb rfl (.tmp rfl) (fun wq hq => ⟨_, rfl, hq.ext, rfl⟩)
    · skip
      replace h := bf c2 h
      refine cw_skip ?_
      refine ex_seq ?_
      refine cw_region ?_
      refine wl_u rfl (ow_y (yh_move rfl rfl) rfl rfl (kk_wl ?_))
      refine wl_u rfl (ow_y (yh_arW rfl rfl rfl rfl) rfl rfl (kk_wl ?_))
      refine wl_u rfl (ow_y (yh_assign rfl rfl) rfl rfl (kk_wl ?_))
      refine wl_nil ?_
      refine ex_block_normal ?_
      refine ex_seq ?_
      refine cw_region ?_
      refine wl_u rfl (ow_y (yh_move rfl rfl) rfl rfl (kk_wl ?_))
      refine wl_u rfl (ow_y (yh_arI rfl rfl rfl rfl (by omega)) rfl rfl (kk_wl ?_))
      refine wl_u rfl (ow_y (yh_assign rfl rfl) rfl rfl (kk_wl ?_))
      refine wl_nil ?_
      exact ex_next [] (hn5 (n5, w64 (s1 + 1), s5 + 1) (Nat.lt_succ_self _) h) ⟨rfl, rfl, rfl, trivial⟩ (by kernel_rfl)
  · skip
    replace h := bf c1 h
    have q2 := ltb_false.1 c1
    refine cw_exit ?_
    refine ex_then_exit ?_
    refine ex_then_exit ?_
    obtain rfl := Option.some.inj h
    have h := go_brk hk5
    refine ex_block_exit ?_
    refine ex_seq ?_
    refine cw_seq ?_
    refine cw_region ?_
    refine wl_u rfl (ow_y (yh_move rfl rfl) rfl rfl (kk_wl ?_))
    refine wl_u rfl (ow_y (yh_assign rfl rfl) rfl rfl (kk_wl ?_))
    refine wl_nil ?_
    refine ex_seq ?_
    refine cw_ret ?_
    obtain rfl := Option.some.inj h
    exact ex_r1 Tb rfl (.tmp rfl) (fun wq hq => ⟨_, rfl, hq.ext, rfl⟩)

def m_laws_heldChangeS_L5 (N : Nat) (a : List Change) : Nat → Int → Nat → Option (Ex (Int × Nat) (Int))
  | 0, _, _ => none
  | n + 1, s1, s5 => (bif ltb ((s5 : Nat) : Int) ((a.length : Nat) : Int) then (a[s5]?).bind fun y14 => (bif !(eqb y14.kind s1) then some (Ex.ret (-1))
 else ((m_laws_markText N (w64 (s1 + 1))).bind fun x28 => (bif !(seq y14.step.name x28) then some (Ex.ret (-1))
 else some (Ex.brk ())) : Option (Ex (Unit) (Int))).bind fun e113 => e113.go Ex.ret fun j113 => (m_laws_heldStringS N y14.step.after (w64 ((w64 (s1 + 1)) + 1))).bind fun x39 => (bif ltb x39 0 then some (Ex.ret (-1))
 else (bif y14.step.undo != (eqb (Int.tmod x39 3) 0) then some (Ex.ret (-1))
 else m_laws_heldChangeS_L5 N a n (w64 (x39 + 1)) (s5 + 1))))
 else some (Ex.brk (s1, s5)))

def m_laws_heldChangeS (N : Nat) (a : List Change) (k : Int) : Option (Int) := (m_laws_heldChangeS_L5 N a N k 0).bind fun e5 => e5.go (fun r => r) fun b5 => some b5.1

set_option maxHeartbeats 4000000 in
theorem c_laws_heldChangeS (N : Nat) (a : List Change) (k : Int) (res : Int) (h : m_laws_heldChangeS N a k = some res) (w : World) {a_a : Option Addr} {c_a : Nat} (h_a : changesL.rd w [] [.slice a_a a.length c_a] a) : Ret Try.prog 22 [.slice a_a a.length c_a, .int .i64 k] w [] fun v w' => v = .int .i64 res := by
  have mh_a := rd_max h_a
  unfold m_laws_heldChangeS at h
  refine ret_enter Try.func22 rfl Try.ntmps22 rfl (Hp.refl w _) ?_
  refine cw_seq ?_
  refine cw_region ?_
  refine wl_u rfl (ow_y (yh_assign rfl rfl) rfl rfl (kk_wl ?_))
  refine wl_nil ?_
  refine ex_seq ?_
  refine cw_seq ?_
  refine cw_seq ?_
  refine cw_region ?_
  refine wl_u rfl (ow_y (yh_assign rfl rfl) rfl rfl (kk_wl ?_))
  refine wl_nil ?_
  refine ex_seq ?_
  refine cw_block ?_
  obtain ⟨e5, he5, hk5⟩ := bd h
  clear h
  refine cw_loopG (σ := Nat × Int × Nat) (fun s => m_laws_heldChangeS_L5 N a s.1 s.2.1 s.2.2 = some e5) (fun s => [(0, .slice a_a a.length c_a), (1, .int .i64 s.2.1), (5, .int .i64 ((s.2.2 : Nat) : Int))]) (fun s => []) (fun s => s.1) (N, k, 0) [] he5 ⟨rfl, rfl, rfl, trivial⟩ rfl (fun KL s he5 hn5 => ?_)
  obtain ⟨n5, s1, s5⟩ := s
  simp only at he5 hn5 ⊢
  rcases n5 with _ | n5
  · exact nosome he5
  have h := he5; rw [m_laws_heldChangeS_L5] at h
  refine cw_seq ?_
  refine cw_seq ?_
  refine cw_region ?_
  refine wl_u rfl (ow_y (yh_move rfl rfl) rfl rfl (kk_wl ?_))
  refine wl_u rfl (ow_y (yh_move rfl rfl) rfl rfl (kk_wl ?_))
  refine wl_u rfl (ow_y (yh_lenS Tb rfl rfl rfl rfl) rfl rfl (kk_wl ?_))
  refine wl_u rfl (ow_y (yh_cmpI rfl rfl rfl rfl) rfl rfl (kk_wl ?_))
  refine wl_nil ?_
  refine ex_seq ?_
  refine cw_split rfl (fun c1 => ?_) (fun c1 => ?_)
  · skip
    replace h := bt c1 h
    have q1 := ltb_true.1 c1
    refine cw_skip ?_
    refine ex_seq ?_
    refine cw_seq ?_
    refine cw_block ?_
    refine cw_seq ?_
    refine cw_seq ?_
    refine cw_region ?_
    refine wl_u rfl (ow_y (yh_move rfl rfl) rfl rfl (kk_wl ?_))
    refine wl_u rfl (ow_y (yh_move rfl rfl) rfl rfl (kk_wl ?_))
    obtain ⟨y14, hy14, h⟩ := bd h
    obtain ⟨b14, o14, ha14⟩ := sl_addr h_a hy14
    subst ha14
    obtain ⟨a14, e14, hc14, hf14⟩ := get_change h_a hy14
    have mx14 := rd_max hf14
    refine wl_u rfl (ow_y (yh_idx Tb (k := s5) rfl rfl rfl rfl (get_lt hy14) rfl rfl) rfl rfl (kk_wl ?_))
    refine wl_u rfl (ow_y (yh_field Tb rfl rfl rfl) rfl rfl (kk_wl ?_))
    refine wl_u rfl (ow_y (yh_loadAF Tb (j := 0) rfl rfl rfl hc14 rfl) rfl rfl (kk_wl ?_))
    refine wl_u rfl (ow_y (yh_move rfl rfl) rfl rfl (kk_wl ?_))
    refine wl_u rfl (ow_y (yh_cmpI rfl rfl rfl rfl) rfl rfl (kk_wl ?_))
    refine wl_nil ?_
    refine ex_seq ?_
    refine cw_split rfl (fun c2 => ?_) (fun c2 => ?_)
    · skip
      replace h := bt c2 h
      have q2 := eqb_false.1 (nt c2)
      refine cw_seq ?_
      refine cw_region ?_
      refine wl_u rfl (ow_y (yh_assign rfl rfl) rfl rfl (kk_wl ?_))
      refine wl_nil ?_
      refine ex_seq ?_
      refine cw_ret ?_
      refine ex_then_ret ?_
      refine ex_block_ret ?_
      refine ex_then_ret ?_
      refine ex_then_ret ?_
      refine ex_block_ret ?_
      refine ex_then_ret ?_
      obtain rfl := Option.some.inj h
      obtain rfl := go_ret hk5
      exact ex_r1 Tb rfl (.tmp rfl) (fun wq hq => ⟨_, rfl, hq.ext, rfl⟩)
    · skip
      replace h := bf c2 h
      have q3 := eqb_true.1 (nf c2)
      refine cw_skip ?_
      refine ex_seq ?_
      refine cw_seq ?_
      refine cw_region ?_
      refine wl_u rfl (ow_y (yh_move rfl rfl) rfl rfl (kk_wl ?_))
      refine wl_u rfl (ow_y (yh_arW rfl rfl rfl rfl) rfl rfl (kk_wl ?_))
      refine wl_u rfl (ow_y (yh_assign rfl rfl) rfl rfl (kk_wl ?_))
      refine wl_nil ?_
      refine ex_seq ?_
      obtain ⟨e113, he113, hk113⟩ := bd h
      clear h
      refine cw_cut (σ := Unit × Unit) (fun s => e113 = Ex.brk s.1) (fun s => [(0, .slice (some ⟨b14, o14, none⟩) a.length c_a), (1, .int .i64 (w64 (s1 + 1))), (5, .int .i64 ((s5 : Nat) : Int))]) (fun s => []) (fun s hI => ?_) (fun KL hn113 => ?_)
      · skip
        obtain ⟨j113, _⟩ := s
        simp only at hI ⊢
        subst hI
        have h := go_brk hk113
        refine cw_seq ?_
        refine cw_region ?_
        refine wl_u rfl (ow_y (yh_move rfl rfl) rfl rfl (kk_wl ?_))
        refine wl_u rfl (ow_y (yh_arW rfl rfl rfl rfl) rfl rfl (kk_wl ?_))
        refine wl_u rfl (ow_y (yh_assign rfl rfl) rfl rfl (kk_wl ?_))
        refine wl_nil ?_
        refine ex_seq ?_
        refine cw_seq ?_
        refine cw_region ?_
        refine wl_u rfl (ow_y (yh_move rfl rfl) rfl rfl (kk_wl ?_))
        refine wl_u rfl (ow_y (yh_move rfl rfl) rfl rfl (kk_wl ?_))
        refine wl_u rfl (ow_y (yh_idx Tb (k := s5) rfl rfl rfl rfl (get_lt hy14) rfl rfl) rfl rfl (kk_wl ?_))
        refine wl_u rfl (ow_y (yh_field Tb rfl rfl rfl) rfl rfl (kk_wl ?_))
        refine wl_u rfl (ow_y (yh_field Tb rfl rfl rfl) rfl rfl (kk_wl ?_))
        refine wl_u rfl (ow_y (yh_loadAF2 Tb 1 1 rfl rfl rfl hc14 rfl) rfl rfl (kk_wl ?_))
        refine wl_u rfl (ow_y (yh_move rfl rfl) rfl rfl (kk_wl ?_))
        obtain ⟨x39, hx39, h⟩ := bd h
        refine wl_u rfl (ow_cV rfl hb59 rfl (fun w hw => c_laws_heldStringS N _ _ _ hx39 w (Lay.at_ hf14 hw)) rfl rfl (kk_wl ?_))
        refine wl_u rfl (ow_y (yh_assign rfl rfl) rfl rfl (kk_wl ?_))
        refine wl_nil ?_
        refine ex_seq ?_
        refine cw_seq ?_
        refine cw_seq ?_
        refine cw_region ?_
        refine wl_u rfl (ow_y (yh_move rfl rfl) rfl rfl (kk_wl ?_))
        refine wl_u rfl (ow_y (yh_cmpI rfl rfl rfl rfl) rfl rfl (kk_wl ?_))
        refine wl_nil ?_
        refine ex_seq ?_
        refine cw_split rfl (fun c3 => ?_) (fun c3 => ?_)
        · skip
          replace h := bt c3 h
          have q4 := ltb_true.1 c3
          refine cw_seq ?_
          refine cw_region ?_
          refine wl_u rfl (ow_y (yh_assign rfl rfl) rfl rfl (kk_wl ?_))
          refine wl_nil ?_
          refine ex_seq ?_
          refine cw_ret ?_
          refine ex_then_ret ?_
          refine ex_block_ret ?_
          refine ex_then_ret ?_
          refine ex_then_ret ?_
          refine ex_block_ret ?_
          refine ex_then_ret ?_
          obtain rfl := Option.some.inj h
          obtain rfl := go_ret hk5
          exact ex_r1 Tb rfl (.tmp rfl) (fun wq hq => ⟨_, rfl, hq.ext, rfl⟩)
        · skip
          replace h := bf c3 h
          have q5 := ltb_false.1 c3
          refine cw_skip ?_
          refine ex_seq ?_
          refine cw_seq ?_
          refine cw_seq ?_
          refine cw_region ?_
          refine wl_u rfl (ow_y (yh_move rfl rfl) rfl rfl (kk_wl ?_))
          refine wl_u rfl (ow_y (yh_move rfl rfl) rfl rfl (kk_wl ?_))
          refine wl_u rfl (ow_y (yh_idx Tb (k := s5) rfl rfl rfl rfl (get_lt hy14) rfl rfl) rfl rfl (kk_wl ?_))
          refine wl_u rfl (ow_y (yh_field Tb rfl rfl rfl) rfl rfl (kk_wl ?_))
          refine wl_u rfl (ow_y (yh_field Tb rfl rfl rfl) rfl rfl (kk_wl ?_))
          refine wl_u rfl (ow_y (yh_loadAF2 Tb 1 2 rfl rfl rfl hc14 rfl) rfl rfl (kk_wl ?_))
          refine wl_u rfl (ow_y (yh_move rfl rfl) rfl rfl (kk_wl ?_))
          refine wl_u rfl (ow_y (yh_remT rfl rfl rfl (by decide)) rfl rfl (kk_wl ?_))
          refine wl_u rfl (ow_y (yh_cmpI rfl rfl rfl rfl) rfl rfl (kk_wl ?_))
          refine wl_u rfl (ow_y (yh_cmpB rfl rfl rfl rfl (by kernel_rfl)) rfl rfl (kk_wl ?_))
          refine wl_nil ?_
          refine ex_seq ?_
          refine cw_split rfl (fun c4 => ?_) (fun c4 => ?_)
          · skip
            replace h := bt c4 h
            refine cw_seq ?_
            refine cw_region ?_
            refine wl_u rfl (ow_y (yh_assign rfl rfl) rfl rfl (kk_wl ?_))
            refine wl_nil ?_
            refine ex_seq ?_
            refine cw_ret ?_
            refine ex_then_ret ?_
            refine ex_block_ret ?_
            refine ex_then_ret ?_
            refine ex_then_ret ?_
            refine ex_block_ret ?_
            refine ex_then_ret ?_
            obtain rfl := Option.some.inj h
            obtain rfl := go_ret hk5
            exact ex_r1 Tb rfl (.tmp rfl) (fun wq hq => ⟨_, rfl, hq.ext, rfl⟩)
          · skip
            replace h := bf c4 h
            refine cw_skip ?_
            refine ex_seq ?_
            refine cw_region ?_
            refine wl_u rfl (ow_y (yh_move rfl rfl) rfl rfl (kk_wl ?_))
            refine wl_u rfl (ow_y (yh_arW rfl rfl rfl rfl) rfl rfl (kk_wl ?_))
            refine wl_u rfl (ow_y (yh_assign rfl rfl) rfl rfl (kk_wl ?_))
            refine wl_nil ?_
            refine ex_block_normal ?_
            refine ex_seq ?_
            refine cw_region ?_
            refine wl_u rfl (ow_y (yh_move rfl rfl) rfl rfl (kk_wl ?_))
            refine wl_u rfl (ow_y (yh_arI rfl rfl rfl rfl (by omega)) rfl rfl (kk_wl ?_))
            refine wl_u rfl (ow_y (yh_assign rfl rfl) rfl rfl (kk_wl ?_))
            refine wl_nil ?_
            exact ex_next [] (hn5 (n5, w64 (x39 + 1), s5 + 1) (Nat.lt_succ_self _) h) ⟨rfl, rfl, rfl, trivial⟩ (by kernel_rfl)
      · skip
        have h := he113
        refine cw_seq ?_
        refine cw_dr [0, 1, 2, 3, 4, 5, 6, 8] [] [] (by kernel_rfl) ?_
        refine wd_take (i := 0) [] rfl rfl rfl rfl rfl (by kernel_rfl) (by kernel_rfl) (fun _ _ _ _ h => h) (yh_move rfl rfl) ?_
        refine wd_take (i := 1) [] rfl rfl rfl rfl rfl (by kernel_rfl) (by kernel_rfl) (fun _ _ _ _ h => h) (yh_move rfl rfl) ?_
        refine wd_take (i := 2) [] rfl rfl rfl rfl rfl (by kernel_rfl) (by kernel_rfl) (fun _ _ _ _ h => h) (yh_idx Tb (k := s5) rfl rfl rfl rfl (get_lt hy14) rfl rfl) ?_
        refine wd_take (i := 3) [] rfl rfl rfl rfl rfl (by kernel_rfl) (by kernel_rfl) (fun _ _ _ _ h => h) (yh_field Tb rfl rfl rfl) ?_
        refine wd_take (i := 4) [] rfl rfl rfl rfl rfl (by kernel_rfl) (by kernel_rfl) (fun _ _ _ _ h => h) (yh_field Tb rfl rfl rfl) ?_
        refine wd_take (i := 5) [] rfl rfl rfl rfl rfl (by kernel_rfl) (by kernel_rfl) (fun _ _ _ _ h => h) (yh_loadAF2 Tb 1 0 rfl rfl rfl hc14 rfl) ?_
        refine wd_take (i := 6) [] rfl rfl rfl rfl rfl (by kernel_rfl) (by kernel_rfl) (fun _ _ _ _ h => h) (yh_move rfl rfl) ?_
        obtain ⟨x28, hx28, h⟩ := bd h
        refine wd_one 7 rfl rfl (by kernel_rfl) (ow_cV rfl hb57 rfl (fun w hw => c_laws_markText N _ _ hx28 w) rfl rfl (kk_wd [] (by kernel_rfl) ?_))
        refine wd_take (i := 8) [] rfl rfl rfl rfl rfl (by kernel_rfl) (by kernel_rfl) (fun _ _ _ _ h => h) (yh_cmpS rfl rfl rfl rfl) ?_
        refine wd_done (by kernel_rfl) ?_
        refine ex_seq ?_
        refine cw_split rfl (fun c5 => ?_) (fun c5 => ?_)
        · skip
          replace h := bt c5 h
          refine cw_seq ?_
          refine cw_region ?_
          refine wl_u rfl (ow_y (yh_assign rfl rfl) rfl rfl (kk_wl ?_))
          refine wl_nil ?_
          refine ex_seq ?_
          refine cw_ret ?_
          refine ex_then_ret ?_
          refine ex_block_ret ?_
          refine ex_then_ret ?_
          refine ex_then_ret ?_
          refine ex_block_ret ?_
          refine ex_then_ret ?_
          obtain rfl := Option.some.inj h
          obtain rfl := go_ret hk113
          obtain rfl := go_ret hk5
          exact ex_r1 Tb rfl (.tmp rfl) (fun wq hq => ⟨_, rfl, hq.ext, rfl⟩)
        · skip
          replace h := bf c5 h
          refine cw_skip ?_
          obtain rfl := Option.some.inj h
          exact ex_next [] (hn113 ((), ()) rfl) ⟨rfl, rfl, rfl, trivial⟩ (by kernel_rfl)
  · skip
    replace h := bf c1 h
    have q6 := ltb_false.1 c1
    refine cw_exit ?_
    refine ex_then_exit ?_
    refine ex_then_exit ?_
    obtain rfl := Option.some.inj h
    have h := go_brk hk5
    refine ex_block_exit ?_
    refine ex_seq ?_
    refine cw_seq ?_
    refine cw_region ?_
    refine wl_u rfl (ow_y (yh_move rfl rfl) rfl rfl (kk_wl ?_))
    refine wl_u rfl (ow_y (yh_assign rfl rfl) rfl rfl (kk_wl ?_))
    refine wl_nil ?_
    refine ex_seq ?_
    refine cw_ret ?_
    obtain rfl := Option.some.inj h
    exact ex_r1 Tb rfl (.tmp rfl) (fun wq hq => ⟨_, rfl, hq.ext, rfl⟩)

def m_laws_FnExactChangesOf (N : Nat) (u0 : Flow) (u1 : Flow) : Option (Bool) := (m_laws_szFlow N u0 1048576).bind fun x19 => (bif ltb x19 0 then some true
 else (m_laws_szFlow N u1 x19).bind fun x24 => (bif ltb x24 0 then some true
 else ((m_laws_toFlow N u0).bind fun x29 => (m_laws_toFlow N u1).bind fun x31 => (m_spec_ChangesOf N x29 x31).bind fun x32 => some (x32.1, x32.2) : Option ((List Change) × Bool)).bind fun j111 => (m_laws_toFlow N u0).bind fun x36 => (m_laws_toFlow N u1).bind fun x38 => (m_impl_ChangesOf N x36 x38).bind fun x42 => (m_laws_eqChangeS N x42.1 j111.1).bind fun x47 => (bif !x47 then some false
 else (bif x42.2 != j111.2 then some false
 else ((m_laws_toFlow N u0).bind fun x56 => (m_laws_eqFlow N x36 x56).bind fun x57 => (bif !x57 then some (Ex.ret false)
 else some (Ex.brk ())) : Option (Ex (Unit) (Bool))).bind fun e120 => e120.go (fun r => r) fun j120 => ((m_laws_toFlow N u1).bind fun x61 => (m_laws_eqFlow N x38 x61).bind fun x62 => (bif !x62 then some (Ex.ret false)
 else some (Ex.brk ())) : Option (Ex (Unit) (Bool))).bind fun e124 => e124.go (fun r => r) fun j124 => (m_laws_markFlow N x36 1).bind fun x66 => (m_laws_markFlow N x38 x66.1).bind fun x69 => (bif ltb x69.1 0 then some false
 else (m_laws_eqChangeS N x42.1 j111.1).bind fun x75 => (bif !x75 then some false
 else (m_laws_markChangeS N x42.1 1).bind fun x85 => (m_laws_heldChangeS N x85.2 1).bind fun x88 => (bif ltb x88 0 then some false
 else (bif !(eqb x88 x85.1) then some false
 else ((m_laws_toFlow N u0).bind fun x96 => (m_laws_toFlow N u1).bind fun x98 => (m_impl_ChangesOf N x96 x98).bind fun x99 => some (x99.1, x99.2) : Option ((List Change) × Bool)).bind fun j145 => (m_laws_eqChangeS N j145.1 j111.1).bind fun x104 => (bif !x104 then some false
 else (bif j145.2 != j111.2 then some false
 else (m_laws_heldChangeS N x85.2 1).bind fun x113 => (bif ltb x113 0 then some false
 else (bif !(eqb x113 x85.1) then some false
 else some true))))))))))))

set_option maxHeartbeats 4000000 in
theorem c_laws_FnExactChangesOf (N : Nat) (u0 : Flow) (u1 : Flow) (res : Bool) (h : m_laws_FnExactChangesOf N u0 u1 = some res) (w : World) {a_u0_steps a_u1_steps : Option Addr} {c_u0_steps c_u1_steps : Nat} (h_u0_steps : stepsL.rd w [] [.slice a_u0_steps u0.steps.length c_u0_steps] u0.steps) (h_u1_steps : stepsL.rd w [] [.slice a_u1_steps u1.steps.length c_u1_steps] u1.steps) : Ret Try.prog 4 [.agg #[.int .i64 u0.ver, .slice a_u0_steps u0.steps.length c_u0_steps], .agg #[.int .i64 u1.ver, .slice a_u1_steps u1.steps.length c_u1_steps]] w [] fun v w' => v = .bool res := by
  have mh_u0_steps := rd_max h_u0_steps
  have mh_u1_steps := rd_max h_u1_steps
  unfold m_laws_FnExactChangesOf at h
  refine ret_enter Try.func4 rfl Try.ntmps4 rfl (Hp.refl w _) ?_
  refine cw_seq ?_
  refine cw_region ?_
  refine wl_u rfl (ow_boxA rfl rfl rfl rfl (fun g2 => kk_wl ?_))
  refine wl_u rfl (ow_boxA rfl rfl rfl rfl (fun g3 => kk_wl ?_))
  refine wl_u rfl (ow_y (yh_assign rfl rfl) rfl rfl (kk_wl ?_))
  refine wl_nil ?_
  refine ex_seq ?_
  refine cw_seq ?_
  refine cw_region ?_
  refine wl_u rfl (ow_y (yh_assign rfl rfl) rfl rfl (kk_wl ?_))
  refine wl_nil ?_
  refine ex_seq ?_
  refine cw_seq ?_
  refine cw_region ?_
  refine wl_u rfl (ow_y (yh_loadBA Tb (k := 1) rfl rfl rfl rfl rfl rfl) rfl rfl (kk_wl ?_))
  refine wl_u rfl (ow_y (yh_move rfl rfl) rfl rfl (kk_wl ?_))
  obtain ⟨x19, hx19, h⟩ := bd h
  refine wl_u rfl (ow_cV rfl hb14 rfl (fun w hw => c_laws_szFlow N _ _ _ hx19 w (Lay.at_ h_u0_steps hw)) rfl rfl (kk_wl ?_))
  refine wl_u rfl (ow_y (yh_assign rfl rfl) rfl rfl (kk_wl ?_))
  refine wl_nil ?_
  refine ex_seq ?_
  refine cw_seq ?_
  refine cw_seq ?_
  refine cw_region ?_
  refine wl_u rfl (ow_y (yh_move rfl rfl) rfl rfl (kk_wl ?_))
  refine wl_u rfl (ow_y (yh_cmpI rfl rfl rfl rfl) rfl rfl (kk_wl ?_))
  refine wl_nil ?_
  refine ex_seq ?_
  refine cw_split rfl (fun c1 => ?_) (fun c1 => ?_)
  · skip
    replace h := bt c1 h
    have q1 := ltb_true.1 c1
    refine cw_seq ?_
    refine cw_region ?_
    refine wl_u rfl (ow_y (yh_assign rfl rfl) rfl rfl (kk_wl ?_))
    refine wl_nil ?_
    refine ex_seq ?_
    refine cw_ret ?_
    refine ex_then_ret ?_
    obtain rfl := Option.some.inj h
    exact ex_r1 Tb rfl (.tmp rfl) (fun wq hq => ⟨_, rfl, hq.ext, rfl⟩)
  · skip
    replace h := bf c1 h
    have q2 := ltb_false.1 c1
    refine cw_skip ?_
    refine ex_seq ?_
    refine cw_seq ?_
    refine cw_region ?_
    refine wl_u rfl (ow_y (yh_loadBA Tb (k := 0) rfl rfl rfl rfl rfl rfl) rfl rfl (kk_wl ?_))
    refine wl_u rfl (ow_y (yh_move rfl rfl) rfl rfl (kk_wl ?_))
    obtain ⟨x24, hx24, h⟩ := bd h
    refine wl_u rfl (ow_cV rfl hb14 rfl (fun w hw => c_laws_szFlow N _ _ _ hx24 w (Lay.at_ h_u1_steps hw)) rfl rfl (kk_wl ?_))
    refine wl_u rfl (ow_y (yh_assign rfl rfl) rfl rfl (kk_wl ?_))
    refine wl_nil ?_
    refine ex_seq ?_
    refine cw_seq ?_
    refine cw_seq ?_
    refine cw_region ?_
    refine wl_u rfl (ow_y (yh_move rfl rfl) rfl rfl (kk_wl ?_))
    refine wl_u rfl (ow_y (yh_cmpI rfl rfl rfl rfl) rfl rfl (kk_wl ?_))
    refine wl_nil ?_
    refine ex_seq ?_
    refine cw_split rfl (fun c2 => ?_) (fun c2 => ?_)
    · skip
      replace h := bt c2 h
      have q3 := ltb_true.1 c2
      refine cw_seq ?_
      refine cw_region ?_
      refine wl_u rfl (ow_y (yh_assign rfl rfl) rfl rfl (kk_wl ?_))
      refine wl_nil ?_
      refine ex_seq ?_
      refine cw_ret ?_
      refine ex_then_ret ?_
      obtain rfl := Option.some.inj h
      exact ex_r1 Tb rfl (.tmp rfl) (fun wq hq => ⟨_, rfl, hq.ext, rfl⟩)
    · skip
      replace h := bf c2 h
      have q4 := ltb_false.1 c2
      refine cw_skip ?_
      refine ex_seq ?_
      obtain ⟨j111, he111, hk111⟩ := bd h
      clear h
      refine cw_cut (σ := (Option Addr) × Nat × (List Nat)) (fun s => True) (fun s => [(2, .pointer (some ⟨g2, 0, none⟩)), (3, .pointer (some ⟨g3, 0, none⟩)), (6, .slice s.1 j111.1.length s.2.1), (7, .bool j111.2)]) (fun s => [blkC g2 29 [.int .i64 u0.ver, .slice a_u0_steps u0.steps.length c_u0_steps], blkC g3 29 [.int .i64 u1.ver, .slice a_u1_steps u1.steps.length c_u1_steps], owC changesL s.2.2 [.slice s.1 j111.1.length s.2.1] j111.1]) (fun s hI => ?_) (fun KL hn111 => ?_)
      · skip
        obtain ⟨ak111_6, ck111_6, Fk111_6⟩ := s
        simp only at ⊢
        have h := hk111
        refine cw_seq ?_
        refine cw_region ?_
        refine wl_u rfl (ow_y (yh_loadBA Tb (k := 0) rfl rfl rfl rfl rfl rfl) rfl rfl (kk_wl ?_))
        obtain ⟨x36, hx36, h⟩ := bd h
        refine wl_u rfl (ow_cN1 rfl hb16 rfl (fun w hw => c_laws_toFlow N _ _ hx36 w (Lay.at_ h_u0_steps hw)) rfl rfl (fun a36 c36 F36 => kk_wl ?_))
        refine wl_u rfl (ow_allocA Tb rfl rfl rfl rfl (fun g8 => kk_wl ?_))
        refine wl_u rfl (ow_storeA Tb (k := 0) rfl rfl rfl rfl rfl rfl rfl rfl rfl (kk_wl ?_))
        refine wl_nil ?_
        refine ex_seq ?_
        refine cw_seq ?_
        refine cw_region ?_
        refine wl_u rfl (ow_y (yh_loadBA Tb (k := 3) rfl rfl rfl rfl rfl rfl) rfl rfl (kk_wl ?_))
        obtain ⟨x38, hx38, h⟩ := bd h
        refine wl_u rfl (ow_cN1 rfl hb16 rfl (fun w hw => c_laws_toFlow N _ _ hx38 w (Lay.at_ h_u1_steps hw)) rfl rfl (fun a38 c38 F38 => kk_wl ?_))
        refine wl_u rfl (ow_allocA Tb rfl rfl rfl rfl (fun g9 => kk_wl ?_))
        refine wl_u rfl (ow_storeA Tb (k := 0) rfl rfl rfl rfl rfl rfl rfl rfl rfl (kk_wl ?_))
        refine wl_nil ?_
        refine ex_seq ?_
        refine cw_seq ?_
        refine cw_region ?_
        refine wl_u rfl (ow_y (yh_loadBA Tb (k := 2) rfl rfl rfl rfl rfl rfl) rfl rfl (kk_wl ?_))
        refine wl_u rfl (ow_y (yh_loadBA Tb (k := 0) rfl rfl rfl rfl rfl rfl) rfl rfl (kk_wl ?_))
        obtain ⟨x42, hx42, h⟩ := bd h
        refine wl_u rfl (ow_cN1 rfl hb17 rfl (fun w hw => c_impl_ChangesOf N _ _ _ hx42 w (rdo (A := stepsL) 3 rfl hw) (rdo (A := stepsL) 1 rfl hw)) rfl rfl (fun a42 c42 F42 => kk_wl ?_))
        refine wl_u rfl (ow_y (yh_move rfl rfl) rfl rfl (kk_wl ?_))
        refine wl_u rfl (ow_y (yh_extract rfl rfl rfl) rfl rfl (kk_wl ?_))
        refine wl_u rfl (ow_y (yh_extract rfl rfl rfl) rfl rfl (kk_wl ?_))
        refine wl_u rfl (ow_y (yh_assign rfl rfl) rfl rfl (kk_wl ?_))
        refine wl_u rfl (ow_y (yh_assign rfl rfl) rfl rfl (kk_wl ?_))
        refine wl_nil ?_
        refine ex_seq ?_
        refine cw_seq ?_
        refine cw_seq ?_
        refine cw_region ?_
        refine wl_u rfl (ow_y (yh_move rfl rfl) rfl rfl (kk_wl ?_))
        refine wl_u rfl (ow_y (yh_move rfl rfl) rfl rfl (kk_wl ?_))
        obtain ⟨x47, hx47, h⟩ := bd h
        refine wl_u rfl (ow_cV rfl hb18 rfl (fun w hw => c_laws_eqChangeS N _ _ _ hx47 w (rdo (A := changesL) 0 rfl hw) (rdo (A := changesL) 7 rfl hw)) rfl rfl (kk_wl ?_))
        refine wl_u rfl (ow_y (yh_not rfl rfl) rfl rfl (kk_wl ?_))
        refine wl_u rfl (ow_y (yh_move rfl rfl) rfl rfl (kk_wl ?_))
        refine wl_s rfl rfl (fun c3 => ?_) (fun c3 => ?_)
        · skip
          replace h := bt c3 h
          refine wl_n rfl rfl rfl rfl ?_
          refine wl_n rfl rfl rfl rfl ?_
          refine wl_n rfl rfl rfl rfl ?_
          refine wl_u rfl (ow_y (yh_pickT rfl rfl rfl) rfl rfl (kk_wl ?_))
          refine wl_nil ?_
          refine ex_seq ?_
          refine cw_true rfl ?_
          refine cw_seq ?_
          refine cw_region ?_
          refine wl_u rfl (ow_y (yh_assign rfl rfl) rfl rfl (kk_wl ?_))
          refine wl_nil ?_
          refine ex_seq ?_
          refine cw_ret ?_
          refine ex_then_ret ?_
          obtain rfl := Option.some.inj h
          exact ex_r1 Tb rfl (.tmp rfl) (fun wq hq => ⟨_, rfl, hq.ext, rfl⟩)
        · skip
          replace h := bf c3 h
          refine wl_g rfl rfl (ow_y (yh_move rfl rfl) rfl rfl (kk_wl ?_))
          refine wl_g rfl rfl (ow_y (yh_move rfl rfl) rfl rfl (kk_wl ?_))
          refine wl_g rfl rfl (ow_y (yh_cmpB rfl rfl rfl rfl (by kernel_rfl)) rfl rfl (kk_wl ?_))
          refine wl_u rfl (ow_y (yh_pickF rfl rfl rfl) rfl rfl (kk_wl ?_))
          refine wl_nil ?_
          refine ex_seq ?_
          refine cw_split rfl (fun c4 => ?_) (fun c4 => ?_)
          · skip
            replace h := bt c4 h
            refine cw_seq ?_
            refine cw_region ?_
            refine wl_u rfl (ow_y (yh_assign rfl rfl) rfl rfl (kk_wl ?_))
            refine wl_nil ?_
            refine ex_seq ?_
            refine cw_ret ?_
            refine ex_then_ret ?_
            obtain rfl := Option.some.inj h
            exact ex_r1 Tb rfl (.tmp rfl) (fun wq hq => ⟨_, rfl, hq.ext, rfl⟩)
          · skip
            replace h := bf c4 h
            refine cw_skip ?_
            refine ex_seq ?_
            obtain ⟨e120, he120, hk120⟩ := bd h
            clear h
            refine cw_cut (σ := Unit × Unit) (fun s => e120 = Ex.brk s.1) (fun s => [(2, .pointer (some ⟨g2, 0, none⟩)), (3, .pointer (some ⟨g3, 0, none⟩)), (6, .slice ak111_6 j111.1.length ck111_6), (7, .bool j111.2), (8, .pointer (some ⟨g8, 0, none⟩)), (9, .pointer (some ⟨g9, 0, none⟩)), (10, .slice a42 x42.1.length c42), (11, .bool x42.2)]) (fun s => [blkC g2 29 [.int .i64 u0.ver, .slice a_u0_steps u0.steps.length c_u0_steps], blkC g3 29 [.int .i64 u1.ver, .slice a_u1_steps u1.steps.length c_u1_steps], owC changesL Fk111_6 [.slice ak111_6 j111.1.length ck111_6] j111.1, blkC g8 36 [.int .i64 x36.ver, .slice a36 x36.steps.length c36], owC stepsL F36 [.slice a36 x36.steps.length c36] x36.steps, blkC g9 36 [.int .i64 x38.ver, .slice a38 x38.steps.length c38], owC stepsL F38 [.slice a38 x38.steps.length c38] x38.steps, owC changesL F42 [.slice a42 x42.1.length c42] x42.1]) (fun s hI => ?_) (fun KL hn120 => ?_)
            · skip
              obtain ⟨j120, _⟩ := s
              simp only at hI ⊢
              subst hI
              have h := go_brk hk120
              obtain ⟨e124, he124, hk124⟩ := bd h
              clear h
              refine cw_cut (σ := Unit × Unit) (fun s => e124 = Ex.brk s.1) (fun s => [(2, .pointer (some ⟨g2, 0, none⟩)), (3, .pointer (some ⟨g3, 0, none⟩)), (6, .slice ak111_6 j111.1.length ck111_6), (7, .bool j111.2), (8, .pointer (some ⟨g8, 0, none⟩)), (9, .pointer (some ⟨g9, 0, none⟩)), (10, .slice a42 x42.1.length c42), (11, .bool x42.2)]) (fun s => [blkC g2 29 [.int .i64 u0.ver, .slice a_u0_steps u0.steps.length c_u0_steps], blkC g3 29 [.int .i64 u1.ver, .slice a_u1_steps u1.steps.length c_u1_steps], owC changesL Fk111_6 [.slice ak111_6 j111.1.length ck111_6] j111.1, blkC g8 36 [.int .i64 x36.ver, .slice a36 x36.steps.length c36], owC stepsL F36 [.slice a36 x36.steps.length c36] x36.steps, blkC g9 36 [.int .i64 x38.ver, .slice a38 x38.steps.length c38], owC stepsL F38 [.slice a38 x38.steps.length c38] x38.steps, owC changesL F42 [.slice a42 x42.1.length c42] x42.1]) (fun s hI => ?_) (fun KL hn124 => ?_)
              · skip
                obtain ⟨j124, _⟩ := s
                simp only at hI ⊢
                subst hI
                have h := go_brk hk124
                refine cw_seq ?_
                refine cw_region ?_
                refine wl_u rfl (ow_y (yh_assign rfl rfl) rfl rfl (kk_wl ?_))
                refine wl_nil ?_
                refine ex_seq ?_
                refine cw_seq ?_
                refine cw_region ?_
                refine wl_u rfl (ow_y (yh_loadBA Tb (k := 3) rfl rfl rfl rfl rfl rfl) rfl rfl (kk_wl ?_))
                refine wl_u rfl (ow_y (yh_move rfl rfl) rfl rfl (kk_wl ?_))
                obtain ⟨x66, hx66, h⟩ := bd h
                refine wl_u rfl (ow_cF1 4 rfl hb20 rfl rfl (fun w hw => c_laws_markFlow N _ _ _ hx66 w (hw.at (i := 4) rfl) (hw.ndAt (i := 4) rfl)) rfl rfl (fun F66 => kk_wl ?_))
                refine wl_u rfl (ow_y (yh_assign rfl rfl) rfl rfl (kk_wl ?_))
                refine wl_nil ?_
                refine ex_seq ?_
                refine cw_seq ?_
                refine cw_region ?_
                refine wl_u rfl (ow_y (yh_loadBA Tb (k := 5) rfl rfl rfl rfl rfl rfl) rfl rfl (kk_wl ?_))
                refine wl_u rfl (ow_y (yh_move rfl rfl) rfl rfl (kk_wl ?_))
                obtain ⟨x69, hx69, h⟩ := bd h
                refine wl_u rfl (ow_cF1 6 rfl hb20 rfl rfl (fun w hw => c_laws_markFlow N _ _ _ hx69 w (hw.at (i := 6) rfl) (hw.ndAt (i := 6) rfl)) rfl rfl (fun F69 => kk_wl ?_))
                refine wl_u rfl (ow_y (yh_assign rfl rfl) rfl rfl (kk_wl ?_))
                refine wl_nil ?_
                refine ex_seq ?_
                refine cw_seq ?_
                refine cw_seq ?_
                refine cw_region ?_
                refine wl_u rfl (ow_y (yh_move rfl rfl) rfl rfl (kk_wl ?_))
                refine wl_u rfl (ow_y (yh_cmpI rfl rfl rfl rfl) rfl rfl (kk_wl ?_))
                refine wl_u rfl (ow_y (yh_move rfl rfl) rfl rfl (kk_wl ?_))
                refine wl_s rfl rfl (fun c5 => ?_) (fun c5 => ?_)
                · skip
                  replace h := bt c5 h
                  have q5 := ltb_true.1 c5
                  refine wl_n rfl rfl rfl rfl ?_
                  refine wl_n rfl rfl rfl rfl ?_
                  refine wl_n rfl rfl rfl rfl ?_
                  refine wl_n rfl rfl rfl rfl ?_
                  refine wl_u rfl (ow_y (yh_pickT rfl rfl rfl) rfl rfl (kk_wl ?_))
                  refine wl_u rfl (ow_y (yh_move rfl rfl) rfl rfl (kk_wl ?_))
                  refine wl_s rfl rfl (fun _ => ?_) nofun
                  refine wl_n rfl rfl rfl rfl ?_
                  refine wl_n rfl rfl rfl rfl ?_
                  refine wl_n rfl rfl rfl rfl ?_
                  refine wl_u rfl (ow_y (yh_pickT rfl rfl rfl) rfl rfl (kk_wl ?_))
                  refine wl_nil ?_
                  refine ex_seq ?_
                  refine cw_true rfl ?_
                  refine cw_seq ?_
                  refine cw_region ?_
                  refine wl_u rfl (ow_y (yh_assign rfl rfl) rfl rfl (kk_wl ?_))
                  refine wl_nil ?_
                  refine ex_seq ?_
                  refine cw_ret ?_
                  refine ex_then_ret ?_
                  obtain rfl := Option.some.inj h
                  exact ex_r1 Tb rfl (.tmp rfl) (fun wq hq => ⟨_, rfl, hq.ext, rfl⟩)
                · skip
                  replace h := bf c5 h
                  have q6 := ltb_false.1 c5
                  refine wl_g rfl rfl (ow_y (yh_move rfl rfl) rfl rfl (kk_wl ?_))
                  refine wl_g rfl rfl (ow_y (yh_move rfl rfl) rfl rfl (kk_wl ?_))
                  obtain ⟨x75, hx75, h⟩ := bd h
                  refine wl_g rfl rfl (ow_cV rfl hb18 rfl (fun w hw => c_laws_eqChangeS N _ _ _ hx75 w (rdo (A := changesL) 7 rfl hw) (rdo (A := changesL) 4 rfl hw)) rfl rfl (kk_wl ?_))
                  refine wl_g rfl rfl (ow_y (yh_not rfl rfl) rfl rfl (kk_wl ?_))
                  refine wl_u rfl (ow_y (yh_pickF rfl rfl rfl) rfl rfl (kk_wl ?_))
                  refine wl_u rfl (ow_y (yh_move rfl rfl) rfl rfl (kk_wl ?_))
                  refine wl_s rfl rfl (fun c6 => ?_) (fun c6 => ?_)
                  · skip
                    replace h := bt c6 h
                    refine wl_n rfl rfl rfl rfl ?_
                    refine wl_n rfl rfl rfl rfl ?_
                    refine wl_n rfl rfl rfl rfl ?_
                    refine wl_u rfl (ow_y (yh_pickT rfl rfl rfl) rfl rfl (kk_wl ?_))
                    refine wl_nil ?_
                    refine ex_seq ?_
                    refine cw_true rfl ?_
                    refine cw_seq ?_
                    refine cw_region ?_
                    refine wl_u rfl (ow_y (yh_assign rfl rfl) rfl rfl (kk_wl ?_))
                    refine wl_nil ?_
                    refine ex_seq ?_
                    refine cw_ret ?_
                    refine ex_then_ret ?_
                    obtain rfl := Option.some.inj h
                    exact ex_r1 Tb rfl (.tmp rfl) (fun wq hq => ⟨_, rfl, hq.ext, rfl⟩)
                  · skip
                    replace h := bf c6 h
                    refine wl_g rfl rfl (ow_y (yh_move rfl rfl) rfl rfl (kk_wl ?_))
                    refine wl_g rfl rfl (ow_y (yh_move rfl rfl) rfl rfl (kk_wl ?_))
                    refine wl_g rfl rfl (ow_y (yh_cmpB rfl rfl rfl rfl (by kernel_rfl)) rfl rfl (kk_wl ?_))
                    refine wl_u rfl (ow_y (yh_pickF rfl rfl rfl) rfl rfl (kk_wl ?_))
                    refine wl_nil ?_
                    refine ex_seq ?_
                    refine cw_split rfl (fun hc => Bool.noConfusion (c4.symm.trans hc)) (fun _ => ?_)
                    refine cw_skip ?_
                    refine ex_seq ?_
                    refine cw_seq ?_
                    refine cw_region ?_
                    refine wl_u rfl (ow_y (yh_assign rfl rfl) rfl rfl (kk_wl ?_))
                    refine wl_nil ?_
                    refine ex_seq ?_
                    refine cw_seq ?_
                    refine cw_region ?_
                    refine wl_u rfl (ow_y (yh_move rfl rfl) rfl rfl (kk_wl ?_))
                    refine wl_u rfl (ow_y (yh_move rfl rfl) rfl rfl (kk_wl ?_))
                    obtain ⟨x85, hx85, h⟩ := bd h
                    refine wl_u rfl (ow_cF1 7 rfl hb21 rfl rfl (fun w hw => c_laws_markChangeS N _ _ _ hx85 w (hw.at (i := 7) rfl) (hw.ndAt (i := 7) rfl)) rfl rfl (fun F85 => kk_wl ?_))
                    refine wl_u rfl (ow_y (yh_assign rfl rfl) rfl rfl (kk_wl ?_))
                    refine wl_nil ?_
                    refine ex_seq ?_
                    refine cw_seq ?_
                    refine cw_region ?_
                    refine wl_u rfl (ow_y (yh_assign rfl rfl) rfl rfl (kk_wl ?_))
                    refine wl_nil ?_
                    refine ex_seq ?_
                    refine cw_seq ?_
                    refine cw_region ?_
                    refine wl_u rfl (ow_y (yh_move rfl rfl) rfl rfl (kk_wl ?_))
                    refine wl_u rfl (ow_y (yh_move rfl rfl) rfl rfl (kk_wl ?_))
                    refine wl_know (x42.1.length = x85.2.length) (fun w hw => own_lenK 0 rfl hw) (fun hr2_ => ?_)
                    rw [hr2_]
                    obtain ⟨x88, hx88, h⟩ := bd h
                    refine wl_u rfl (ow_cV rfl hb22 rfl (fun w hw => c_laws_heldChangeS N _ _ _ hx88 w (rdo (A := changesL) 0 rfl hw)) rfl rfl (kk_wl ?_))
                    refine wl_u rfl (ow_y (yh_assign rfl rfl) rfl rfl (kk_wl ?_))
                    refine wl_nil ?_
                    refine ex_seq ?_
                    refine cw_seq ?_
                    refine cw_seq ?_
                    refine cw_region ?_
                    refine wl_u rfl (ow_y (yh_move rfl rfl) rfl rfl (kk_wl ?_))
                    refine wl_u rfl (ow_y (yh_cmpI rfl rfl rfl rfl) rfl rfl (kk_wl ?_))
                    refine wl_nil ?_
                    refine ex_seq ?_
                    refine cw_split rfl (fun c7 => ?_) (fun c7 => ?_)
                    · skip
                      replace h := bt c7 h
                      have q7 := ltb_true.1 c7
                      refine cw_seq ?_
                      refine cw_region ?_
                      refine wl_u rfl (ow_y (yh_assign rfl rfl) rfl rfl (kk_wl ?_))
                      refine wl_nil ?_
                      refine ex_seq ?_
                      refine cw_ret ?_
                      refine ex_then_ret ?_
                      obtain rfl := Option.some.inj h
                      exact ex_r1 Tb rfl (.tmp rfl) (fun wq hq => ⟨_, rfl, hq.ext, rfl⟩)
                    · skip
                      replace h := bf c7 h
                      have q8 := ltb_false.1 c7
                      refine cw_skip ?_
                      refine ex_seq ?_
                      refine cw_seq ?_
                      refine cw_seq ?_
                      refine cw_region ?_
                      refine wl_u rfl (ow_y (yh_move rfl rfl) rfl rfl (kk_wl ?_))
                      refine wl_u rfl (ow_y (yh_move rfl rfl) rfl rfl (kk_wl ?_))
                      refine wl_u rfl (ow_y (yh_cmpI rfl rfl rfl rfl) rfl rfl (kk_wl ?_))
                      refine wl_nil ?_
                      refine ex_seq ?_
                      refine cw_split rfl (fun c8 => ?_) (fun c8 => ?_)
                      · skip
                        replace h := bt c8 h
                        have q9 := eqb_false.1 (nt c8)
                        refine cw_seq ?_
                        refine cw_region ?_
                        refine wl_u rfl (ow_y (yh_assign rfl rfl) rfl rfl (kk_wl ?_))
                        refine wl_nil ?_
                        refine ex_seq ?_
                        refine cw_ret ?_
                        refine ex_then_ret ?_
                        obtain rfl := Option.some.inj h
                        exact ex_r1 Tb rfl (.tmp rfl) (fun wq hq => ⟨_, rfl, hq.ext, rfl⟩)
                      · skip
                        replace h := bf c8 h
                        have q10 := eqb_true.1 (nf c8)
                        refine cw_skip ?_
                        refine ex_seq ?_
                        obtain ⟨j145, he145, hk145⟩ := bd h
                        clear h
                        refine cw_cut (σ := (Option Addr) × Nat × (List Nat)) (fun s => True) (fun s => [(6, .slice ak111_6 j111.1.length ck111_6), (7, .bool j111.2), (10, .slice a42 x85.2.length c42), (13, .int .i64 x85.1), (15, .slice s.1 j145.1.length s.2.1), (16, .bool j145.2)]) (fun s => [owC changesL Fk111_6 [.slice ak111_6 j111.1.length ck111_6] j111.1, owC changesL F85 [.slice a42 x85.2.length c42] x85.2, owC changesL s.2.2 [.slice s.1 j145.1.length s.2.1] j145.1]) (fun s hI => ?_) (fun KL hn145 => ?_)
                        · skip
                          obtain ⟨ak145_15, ck145_15, Fk145_15⟩ := s
                          simp only at ⊢
                          have h := hk145
                          refine cw_seq ?_
                          refine cw_seq ?_
                          refine cw_region ?_
                          refine wl_u rfl (ow_y (yh_move rfl rfl) rfl rfl (kk_wl ?_))
                          refine wl_u rfl (ow_y (yh_move rfl rfl) rfl rfl (kk_wl ?_))
                          obtain ⟨x104, hx104, h⟩ := bd h
                          refine wl_u rfl (ow_cV rfl hb18 rfl (fun w hw => c_laws_eqChangeS N _ _ _ hx104 w (rdo (A := changesL) 2 rfl hw) (rdo (A := changesL) 0 rfl hw)) rfl rfl (kk_wl ?_))
                          refine wl_u rfl (ow_y (yh_not rfl rfl) rfl rfl (kk_wl ?_))
                          refine wl_u rfl (ow_y (yh_move rfl rfl) rfl rfl (kk_wl ?_))
                          refine wl_s rfl rfl (fun c9 => ?_) (fun c9 => ?_)
                          · skip
                            replace h := bt c9 h
                            refine wl_n rfl rfl rfl rfl ?_
                            refine wl_n rfl rfl rfl rfl ?_
                            refine wl_n rfl rfl rfl rfl ?_
                            refine wl_u rfl (ow_y (yh_pickT rfl rfl rfl) rfl rfl (kk_wl ?_))
                            refine wl_nil ?_
                            refine ex_seq ?_
                            refine cw_true rfl ?_
                            refine cw_seq ?_
                            refine cw_region ?_
                            refine wl_u rfl (ow_y (yh_assign rfl rfl) rfl rfl (kk_wl ?_))
                            refine wl_nil ?_
                            refine ex_seq ?_
                            refine cw_ret ?_
                            refine ex_then_ret ?_
                            obtain rfl := Option.some.inj h
                            exact ex_r1 Tb rfl (.tmp rfl) (fun wq hq => ⟨_, rfl, hq.ext, rfl⟩)
                          · skip
                            replace h := bf c9 h
                            refine wl_g rfl rfl (ow_y (yh_move rfl rfl) rfl rfl (kk_wl ?_))
                            refine wl_g rfl rfl (ow_y (yh_move rfl rfl) rfl rfl (kk_wl ?_))
                            refine wl_g rfl rfl (ow_y (yh_cmpB rfl rfl rfl rfl (by kernel_rfl)) rfl rfl (kk_wl ?_))
                            refine wl_u rfl (ow_y (yh_pickF rfl rfl rfl) rfl rfl (kk_wl ?_))
                            refine wl_nil ?_
                            refine ex_seq ?_
                            refine cw_split rfl (fun c10 => ?_) (fun c10 => ?_)
                            · skip
                              replace h := bt c10 h
                              refine cw_seq ?_
                              refine cw_region ?_
                              refine wl_u rfl (ow_y (yh_assign rfl rfl) rfl rfl (kk_wl ?_))
                              refine wl_nil ?_
                              refine ex_seq ?_
                              refine cw_ret ?_
                              refine ex_then_ret ?_
                              obtain rfl := Option.some.inj h
                              exact ex_r1 Tb rfl (.tmp rfl) (fun wq hq => ⟨_, rfl, hq.ext, rfl⟩)
                            · skip
                              replace h := bf c10 h
                              refine cw_skip ?_
                              refine ex_seq ?_
                              refine cw_seq ?_
                              refine cw_region ?_
                              refine wl_u rfl (ow_y (yh_assign rfl rfl) rfl rfl (kk_wl ?_))
                              refine wl_nil ?_
                              refine ex_seq ?_
                              refine cw_seq ?_
                              refine cw_region ?_
                              refine wl_u rfl (ow_y (yh_move rfl rfl) rfl rfl (kk_wl ?_))
                              refine wl_u rfl (ow_y (yh_move rfl rfl) rfl rfl (kk_wl ?_))
                              obtain ⟨x113, hx113, h⟩ := bd h
                              refine wl_u rfl (ow_cV rfl hb22 rfl (fun w hw => c_laws_heldChangeS N _ _ _ hx113 w (rdo (A := changesL) 1 rfl hw)) rfl rfl (kk_wl ?_))
                              refine wl_u rfl (ow_y (yh_assign rfl rfl) rfl rfl (kk_wl ?_))
                              refine wl_nil ?_
                              refine ex_seq ?_
                              refine cw_seq ?_
                              refine cw_seq ?_
                              refine cw_region ?_
                              refine wl_u rfl (ow_y (yh_move rfl rfl) rfl rfl (kk_wl ?_))
                              refine wl_u rfl (ow_y (yh_cmpI rfl rfl rfl rfl) rfl rfl (kk_wl ?_))
                              refine wl_nil ?_
                              refine ex_seq ?_
                              refine cw_split rfl (fun c11 => ?_) (fun c11 => ?_)
                              · skip
                                replace h := bt c11 h
                                have q11 := ltb_true.1 c11
                                refine cw_seq ?_
                                refine cw_region ?_
                                refine wl_u rfl (ow_y (yh_assign rfl rfl) rfl rfl (kk_wl ?_))
                                refine wl_nil ?_
                                refine ex_seq ?_
                                refine cw_ret ?_
                                refine ex_then_ret ?_
                                obtain rfl := Option.some.inj h
                                exact ex_r1 Tb rfl (.tmp rfl) (fun wq hq => ⟨_, rfl, hq.ext, rfl⟩)
                              · skip
                                replace h := bf c11 h
                                have q12 := ltb_false.1 c11
                                refine cw_skip ?_
                                refine ex_seq ?_
                                refine cw_seq ?_
                                refine cw_seq ?_
                                refine cw_region ?_
                                refine wl_u rfl (ow_y (yh_move rfl rfl) rfl rfl (kk_wl ?_))
                                refine wl_u rfl (ow_y (yh_move rfl rfl) rfl rfl (kk_wl ?_))
                                refine wl_u rfl (ow_y (yh_cmpI rfl rfl rfl rfl) rfl rfl (kk_wl ?_))
                                refine wl_nil ?_
                                refine ex_seq ?_
                                refine cw_split rfl (fun c12 => ?_) (fun c12 => ?_)
                                · skip
                                  replace h := bt c12 h
                                  have q13 := eqb_false.1 (nt c12)
                                  refine cw_seq ?_
                                  refine cw_region ?_
                                  refine wl_u rfl (ow_y (yh_assign rfl rfl) rfl rfl (kk_wl ?_))
                                  refine wl_nil ?_
                                  refine ex_seq ?_
                                  refine cw_ret ?_
                                  refine ex_then_ret ?_
                                  obtain rfl := Option.some.inj h
                                  exact ex_r1 Tb rfl (.tmp rfl) (fun wq hq => ⟨_, rfl, hq.ext, rfl⟩)
                                · skip
                                  replace h := bf c12 h
                                  have q14 := eqb_true.1 (nf c12)
                                  refine cw_skip ?_
                                  refine ex_seq ?_
                                  refine cw_seq ?_
                                  refine cw_region ?_
                                  refine wl_u rfl (ow_y (yh_assign rfl rfl) rfl rfl (kk_wl ?_))
                                  refine wl_nil ?_
                                  refine ex_seq ?_
                                  refine cw_ret ?_
                                  obtain rfl := Option.some.inj h
                                  exact ex_r1 Tb rfl (.tmp rfl) (fun wq hq => ⟨_, rfl, hq.ext, rfl⟩)
                        · skip
                          have h := he145
                          refine cw_dr [0, 2, 5, 6, 7, 8, 9] [] [owC changesL F85 [.slice a42 x85.2.length c42] x85.2, owC stepsL F69 [.slice a38 x38.steps.length c38] x69.2, owC stepsL F66 [.slice a36 x36.steps.length c36] x66.2, blkC g2 29 [.int .i64 u0.ver, .slice a_u0_steps u0.steps.length c_u0_steps], blkC g3 29 [.int .i64 u1.ver, .slice a_u1_steps u1.steps.length c_u1_steps], owC changesL Fk111_6 [.slice ak111_6 j111.1.length ck111_6] j111.1, blkC g8 36 [.int .i64 x36.ver, .slice a36 x36.steps.length c36], blkC g9 36 [.int .i64 x38.ver, .slice a38 x38.steps.length c38]] (by kernel_rfl) ?_
                          refine wd_take (i := 0) [0, 1, 2, 3, 4, 5, 6, 7] rfl rfl rfl rfl rfl (by kernel_rfl) (by kernel_rfl) (fun _ _ _ _ h => h) (yh_loadBA Tb (k := 3) rfl rfl rfl rfl rfl rfl) ?_
                          refine wd_take (i := 2) [0, 1, 2, 3, 4, 5, 6, 7] rfl rfl rfl rfl rfl (by kernel_rfl) (by kernel_rfl) (fun _ _ _ _ h => h) (yh_loadBA Tb (k := 4) rfl rfl rfl rfl rfl rfl) ?_
                          obtain ⟨x96, hx96, h⟩ := bd h
                          refine wd_one 1 rfl rfl (by kernel_rfl) (ow_cN1 rfl hb16 rfl (fun w hw => c_laws_toFlow N _ _ hx96 w (Lay.at_ h_u0_steps hw)) rfl rfl (fun a96 c96 F96 => kk_wd [1, 2, 3, 4, 5, 6, 7, 8] (by kernel_rfl) ?_))
                          obtain ⟨x98, hx98, h⟩ := bd h
                          refine wd_one 3 rfl rfl (by kernel_rfl) (ow_cN1 rfl hb16 rfl (fun w hw => c_laws_toFlow N _ _ hx98 w (Lay.at_ h_u1_steps hw)) rfl rfl (fun a98 c98 F98 => kk_wd [2, 3, 4, 5, 6, 7, 8, 9] (by kernel_rfl) ?_))
                          obtain ⟨x99, hx99, h⟩ := bd h
                          refine wd_one 4 rfl rfl (by kernel_rfl) (ow_cN1 rfl hb17 rfl (fun w hw => c_impl_ChangesOf N _ _ _ hx99 w (rdo (A := stepsL) 1 rfl hw) (rdo (A := stepsL) 0 rfl hw)) rfl rfl (fun a99 c99 F99 => kk_wd [3, 4, 5, 6, 7, 8, 9, 10] (by kernel_rfl) ?_))
                          refine wd_take (i := 5) [3, 4, 5, 6, 7, 8, 9, 10] rfl rfl rfl rfl rfl (by kernel_rfl) (by kernel_rfl) (fun _ _ _ _ h => h) (yh_move rfl rfl) ?_
                          refine wd_take (i := 6) [3, 4, 5, 6, 7, 8, 9, 10] rfl rfl rfl rfl rfl (by kernel_rfl) (by kernel_rfl) (fun _ _ _ _ h => h) (yh_extract rfl rfl rfl) ?_
                          refine wd_take (i := 7) [3, 4, 5, 6, 7, 8, 9, 10] rfl rfl rfl rfl rfl (by kernel_rfl) (by kernel_rfl) (fun _ _ _ _ h => h) (yh_extract rfl rfl rfl) ?_
                          refine wd_take (i := 8) [3, 4, 5, 6, 7, 8, 9, 10] rfl rfl rfl rfl rfl (by kernel_rfl) (by kernel_rfl) (fun _ _ _ _ h => h) (yh_assign rfl rfl) ?_
                          refine wd_take (i := 9) [3, 4, 5, 6, 7, 8, 9, 10] rfl rfl rfl rfl rfl (by kernel_rfl) (by kernel_rfl) (fun _ _ _ _ h => h) (yh_assign rfl rfl) ?_
                          refine wd_done (by kernel_rfl) ?_
                          obtain rfl := Option.some.inj h
                          exact ex_next [8, 3, 0] (hn145 (a99, c99, F99) trivial) ⟨rfl, rfl, rfl, rfl, rfl, rfl, trivial⟩ (by kernel_rfl)
              · skip
                have h := he124
                refine cw_seq ?_
                refine cw_dr [0, 1, 4] [] [blkC g2 29 [.int .i64 u0.ver, .slice a_u0_steps u0.steps.length c_u0_steps], blkC g3 29 [.int .i64 u1.ver, .slice a_u1_steps u1.steps.length c_u1_steps], owC changesL Fk111_6 [.slice ak111_6 j111.1.length ck111_6] j111.1, blkC g8 36 [.int .i64 x36.ver, .slice a36 x36.steps.length c36], owC stepsL F36 [.slice a36 x36.steps.length c36] x36.steps, blkC g9 36 [.int .i64 x38.ver, .slice a38 x38.steps.length c38], owC stepsL F38 [.slice a38 x38.steps.length c38] x38.steps, owC changesL F42 [.slice a42 x42.1.length c42] x42.1] (by kernel_rfl) ?_
                refine wd_take (i := 0) [0, 1, 2, 3, 4, 5, 6, 7] rfl rfl rfl rfl rfl (by kernel_rfl) (by kernel_rfl) (fun _ _ _ _ h => h) (yh_loadBA Tb (k := 5) rfl rfl rfl rfl rfl rfl) ?_
                refine wd_take (i := 1) [0, 1, 2, 3, 4, 5, 6, 7] rfl rfl rfl rfl rfl (by kernel_rfl) (by kernel_rfl) (fun _ _ _ _ h => h) (yh_loadBA Tb (k := 1) rfl rfl rfl rfl rfl rfl) ?_
                obtain ⟨x61, hx61, h⟩ := bd h
                refine wd_one 2 rfl rfl (by kernel_rfl) (ow_cN1 rfl hb16 rfl (fun w hw => c_laws_toFlow N _ _ hx61 w (Lay.at_ h_u1_steps hw)) rfl rfl (fun a61 c61 F61 => kk_wd [1, 2, 3, 4, 5, 6, 7, 8] (by kernel_rfl) ?_))
                obtain ⟨x62, hx62, h⟩ := bd h
                refine wd_one 3 rfl rfl (by kernel_rfl) (ow_cV rfl hb19 rfl (fun w hw => c_laws_eqFlow N _ _ _ hx62 w (rdo (A := stepsL) 7 rfl hw) (rdo (A := stepsL) 0 rfl hw)) rfl rfl (kk_wd [1, 2, 3, 4, 5, 6, 7, 8] (by kernel_rfl) ?_))
                refine wd_take (i := 4) [1, 2, 3, 4, 5, 6, 7, 8] rfl rfl rfl rfl rfl (by kernel_rfl) (by kernel_rfl) (fun _ _ _ _ h => h) (yh_not rfl rfl) ?_
                refine wd_done (by kernel_rfl) ?_
                refine ex_seq ?_
                refine cw_split rfl (fun c13 => ?_) (fun c13 => ?_)
                · skip
                  replace h := bt c13 h
                  refine cw_seq ?_
                  refine cw_region ?_
                  refine wl_u rfl (ow_y (yh_assign rfl rfl) rfl rfl (kk_wl ?_))
                  refine wl_nil ?_
                  refine ex_seq ?_
                  refine cw_ret ?_
                  refine ex_then_ret ?_
                  obtain rfl := Option.some.inj h
                  obtain rfl := go_ret hk124
                  exact ex_r1 Tb rfl (.tmp rfl) (fun wq hq => ⟨_, rfl, hq.ext, rfl⟩)
                · skip
                  replace h := bf c13 h
                  refine cw_skip ?_
                  obtain rfl := Option.some.inj h
                  exact ex_next [1, 2, 3, 4, 5, 6, 7, 8] (hn124 ((), ()) rfl) ⟨rfl, rfl, rfl, rfl, rfl, rfl, rfl, rfl, trivial⟩ (by kernel_rfl)
            · skip
              have h := he120
              refine cw_seq ?_
              refine cw_dr [0, 1, 4] [] [owC changesL F42 [.slice a42 x42.1.length c42] x42.1, blkC g9 36 [.int .i64 x38.ver, .slice a38 x38.steps.length c38], owC stepsL F38 [.slice a38 x38.steps.length c38] x38.steps, blkC g8 36 [.int .i64 x36.ver, .slice a36 x36.steps.length c36], owC stepsL F36 [.slice a36 x36.steps.length c36] x36.steps, blkC g2 29 [.int .i64 u0.ver, .slice a_u0_steps u0.steps.length c_u0_steps], blkC g3 29 [.int .i64 u1.ver, .slice a_u1_steps u1.steps.length c_u1_steps], owC changesL Fk111_6 [.slice ak111_6 j111.1.length ck111_6] j111.1] (by kernel_rfl) ?_
              refine wd_take (i := 0) [0, 1, 2, 3, 4, 5, 6, 7] rfl rfl rfl rfl rfl (by kernel_rfl) (by kernel_rfl) (fun _ _ _ _ h => h) (yh_loadBA Tb (k := 3) rfl rfl rfl rfl rfl rfl) ?_
              refine wd_take (i := 1) [0, 1, 2, 3, 4, 5, 6, 7] rfl rfl rfl rfl rfl (by kernel_rfl) (by kernel_rfl) (fun _ _ _ _ h => h) (yh_loadBA Tb (k := 5) rfl rfl rfl rfl rfl rfl) ?_
              obtain ⟨x56, hx56, h⟩ := bd h
              refine wd_one 2 rfl rfl (by kernel_rfl) (ow_cN1 rfl hb16 rfl (fun w hw => c_laws_toFlow N _ _ hx56 w (Lay.at_ h_u0_steps hw)) rfl rfl (fun a56 c56 F56 => kk_wd [1, 2, 3, 4, 5, 6, 7, 8] (by kernel_rfl) ?_))
              obtain ⟨x57, hx57, h⟩ := bd h
              refine wd_one 3 rfl rfl (by kernel_rfl) (ow_cV rfl hb19 rfl (fun w hw => c_laws_eqFlow N _ _ _ hx57 w (rdo (A := stepsL) 5 rfl hw) (rdo (A := stepsL) 0 rfl hw)) rfl rfl (kk_wd [1, 2, 3, 4, 5, 6, 7, 8] (by kernel_rfl) ?_))
              refine wd_take (i := 4) [1, 2, 3, 4, 5, 6, 7, 8] rfl rfl rfl rfl rfl (by kernel_rfl) (by kernel_rfl) (fun _ _ _ _ h => h) (yh_not rfl rfl) ?_
              refine wd_done (by kernel_rfl) ?_
              refine ex_seq ?_
              refine cw_split rfl (fun c14 => ?_) (fun c14 => ?_)
              · skip
                replace h := bt c14 h
                refine cw_seq ?_
                refine cw_region ?_
                refine wl_u rfl (ow_y (yh_assign rfl rfl) rfl rfl (kk_wl ?_))
                refine wl_nil ?_
                refine ex_seq ?_
                refine cw_ret ?_
                refine ex_then_ret ?_
                obtain rfl := Option.some.inj h
                obtain rfl := go_ret hk120
                exact ex_r1 Tb rfl (.tmp rfl) (fun wq hq => ⟨_, rfl, hq.ext, rfl⟩)
              · skip
                replace h := bf c14 h
                refine cw_skip ?_
                obtain rfl := Option.some.inj h
                exact ex_next [6, 7, 8, 4, 5, 2, 3, 1] (hn120 ((), ()) rfl) ⟨rfl, rfl, rfl, rfl, rfl, rfl, rfl, rfl, trivial⟩ (by kernel_rfl)
      · skip
        have h := he111
        refine cw_dr [0, 2, 5, 6, 7, 8, 9] [] [blkC g3 29 [.int .i64 u1.ver, .slice a_u1_steps u1.steps.length c_u1_steps], blkC g2 29 [.int .i64 u0.ver, .slice a_u0_steps u0.steps.length c_u0_steps]] (by kernel_rfl) ?_
        refine wd_take (i := 0) [0, 1] rfl rfl rfl rfl rfl (by kernel_rfl) (by kernel_rfl) (fun _ _ _ _ h => h) (yh_loadBA Tb (k := 1) rfl rfl rfl rfl rfl rfl) ?_
        refine wd_take (i := 2) [0, 1] rfl rfl rfl rfl rfl (by kernel_rfl) (by kernel_rfl) (fun _ _ _ _ h => h) (yh_loadBA Tb (k := 0) rfl rfl rfl rfl rfl rfl) ?_
        obtain ⟨x29, hx29, h⟩ := bd h
        refine wd_one 1 rfl rfl (by kernel_rfl) (ow_cN1 rfl hb16 rfl (fun w hw => c_laws_toFlow N _ _ hx29 w (Lay.at_ h_u0_steps hw)) rfl rfl (fun a29 c29 F29 => kk_wd [1, 2] (by kernel_rfl) ?_))
        obtain ⟨x31, hx31, h⟩ := bd h
        refine wd_one 3 rfl rfl (by kernel_rfl) (ow_cN1 rfl hb16 rfl (fun w hw => c_laws_toFlow N _ _ hx31 w (Lay.at_ h_u1_steps hw)) rfl rfl (fun a31 c31 F31 => kk_wd [2, 3] (by kernel_rfl) ?_))
        obtain ⟨x32, hx32, h⟩ := bd h
        refine wd_one 4 rfl rfl (by kernel_rfl) (ow_cN1 rfl hb15 rfl (fun w hw => c_spec_ChangesOf N _ _ _ hx32 w (rdo (A := stepsL) 1 rfl hw) (rdo (A := stepsL) 0 rfl hw)) rfl rfl (fun a32 c32 F32 => kk_wd [3, 4] (by kernel_rfl) ?_))
        refine wd_take (i := 5) [3, 4] rfl rfl rfl rfl rfl (by kernel_rfl) (by kernel_rfl) (fun _ _ _ _ h => h) (yh_move rfl rfl) ?_
        refine wd_take (i := 6) [3, 4] rfl rfl rfl rfl rfl (by kernel_rfl) (by kernel_rfl) (fun _ _ _ _ h => h) (yh_extract rfl rfl rfl) ?_
        refine wd_take (i := 7) [3, 4] rfl rfl rfl rfl rfl (by kernel_rfl) (by kernel_rfl) (fun _ _ _ _ h => h) (yh_extract rfl rfl rfl) ?_
        refine wd_take (i := 8) [3, 4] rfl rfl rfl rfl rfl (by kernel_rfl) (by kernel_rfl) (fun _ _ _ _ h => h) (yh_assign rfl rfl) ?_
        refine wd_take (i := 9) [3, 4] rfl rfl rfl rfl rfl (by kernel_rfl) (by kernel_rfl) (fun _ _ _ _ h => h) (yh_assign rfl rfl) ?_
        refine wd_done (by kernel_rfl) ?_
        obtain rfl := Option.some.inj h
        exact ex_next [4, 3, 0] (hn111 (a32, c32, F32) trivial) ⟨rfl, rfl, rfl, rfl, trivial⟩ (by kernel_rfl)

end Go.Proofs.Ythmifmpllgofkaa
