/- Mirrors and contracts, printed by a program: what each function computes as a plain term, and that it does. -/
import Derived.Test.YtmnhnldnnniglaaGreatR
import Derived.Test.YtmnhnldnnniglaaGreatK
import Derived.Test.YtmnhnldnnniglaaGreatWC0
import Derived.Test.YtmnhnldnnniglaaGreatWC1
set_option linter.all false
set_option maxRecDepth 100000
namespace Go.Proofs.YtmnhnldnnniglaaGreat
open Go.RowKit

def m_laws_eqChangeS_L8 (N : Nat) (a : List Change) (b : List Change) : Nat → Nat → Option (Ex (Nat) (Bool))
  | 0, _ => none
  | n + 1, s5 => (bif ltb ((s5 : Nat) : Int) ((a.length : Nat) : Int) then (a[s5]?).bind fun y19 => (b[s5]?).bind fun y23 => (m_laws_eqChange N y19 y23).bind fun x25 => (bif !x25 then some (Ex.ret false)
 else m_laws_eqChangeS_L8 N a b n (s5 + 1))
 else some (Ex.brk (s5)))

def m_laws_eqChangeS (N : Nat) (a : List Change) (b : List Change) : Option (Bool) := (bif !(eqb ((a.length : Nat) : Int) ((b.length : Nat) : Int)) then some false
 else (m_laws_eqChangeS_L8 N a b N 0).bind fun e8 => e8.go (fun r => r) fun b8 => some true)

set_option maxHeartbeats 4000000 in
theorem c_laws_eqChangeS (N : Nat) (a : List Change) (b : List Change) (res : Bool) (h : m_laws_eqChangeS N a b = some res) (w : World) {a_a a_b : Option Addr} {c_a c_b : Nat} (h_a : changesL.rd w [] [.slice a_a a.length c_a] a) (h_b : changesL.rd w [] [.slice a_b b.length c_b] b) : Ret Tryz.prog 19 [.slice a_a a.length c_a, .slice a_b b.length c_b] w [] fun v w' => v = .bool res := by
  have mh_a := rd_max h_a
  have mh_b := rd_max h_b
  unfold m_laws_eqChangeS at h
  refine ret_enter Tryz.func19 rfl Tryz.ntmps19 rfl (Hp.refl w _) ?_
  refine cw_seq ?_
  refine cw_region ?_
  refine wl_u rfl (ow_y (yh_assign rfl rfl) rfl rfl (kk_wl ?_))
  refine wl_nil ?_
  refine ex_seq ?_
  refine cw_seq ?_
  refine cw_seq ?_
  refine cw_region ?_
  refine wl_u rfl (ow_y (yh_move rfl rfl) rfl rfl (kk_wl ?_))
  refine wl_u rfl (ow_y (yh_lenS Tb rfl rfl rfl rfl) rfl rfl (kk_wl ?_))
  refine wl_u rfl (ow_y (yh_move rfl rfl) rfl rfl (kk_wl ?_))
  refine wl_u rfl (ow_y (yh_lenS Tb rfl rfl rfl rfl) rfl rfl (kk_wl ?_))
  refine wl_u rfl (ow_y (yh_cmpI rfl rfl rfl rfl) rfl rfl (kk_wl ?_))
  refine wl_nil ?_
  refine ex_seq ?_
  refine cw_split rfl (fun cc1 => ?_) (fun cc1 => ?_)
  · skip
    replace h := bt cc1 h
    have q1 := eqb_false.1 (nt cc1)
    refine cw_seq ?_
    refine cw_region ?_
    refine wl_u rfl (ow_y (yh_assign rfl rfl) rfl rfl (kk_wl ?_))
    refine wl_nil ?_
    refine ex_seq ?_
    refine cw_ret ?_
    refine ex_then_ret ?_
    obtain rfl := Option.some.inj h
    exact ex_r1 Tb rfl (.tmp rfl) (fun wq hq => ⟨_, rfl, hq.ext, rfl⟩)
  · skip
    replace h := bf cc1 h
    have q2 := eqb_true.1 (nf cc1)
    refine cw_skip ?_
    refine ex_seq ?_
    refine cw_seq ?_
    refine cw_seq ?_
    refine cw_region ?_
    refine wl_u rfl (ow_y (yh_assign rfl rfl) rfl rfl (kk_wl ?_))
    refine wl_nil ?_
    refine ex_seq ?_
    refine cw_block ?_
    obtain ⟨e8, he8, hk8⟩ := bd h
    clear h
    refine cw_loopG (σ := Nat × Nat) (fun s => m_laws_eqChangeS_L8 N a b s.1 s.2 = some e8) (fun s => [(0, .slice a_a a.length c_a), (1, .slice a_b b.length c_b), (5, .int .i64 ((s.2 : Nat) : Int))]) (fun s => []) (fun s => s.1) (N, 0) [] he8 ⟨rfl, rfl, rfl, trivial⟩ rfl (fun KL s he8 hn8 => ?_)
    obtain ⟨n8, s5⟩ := s
    simp only at he8 hn8 ⊢
    rcases n8 with _ | n8
    · exact nosome he8
    have h := he8; rw [m_laws_eqChangeS_L8] at h
    refine cw_seq ?_
    refine cw_seq ?_
    refine cw_region ?_
    refine wl_u rfl (ow_y (yh_move rfl rfl) rfl rfl (kk_wl ?_))
    refine wl_u rfl (ow_y (yh_move rfl rfl) rfl rfl (kk_wl ?_))
    refine wl_u rfl (ow_y (yh_lenS Tb rfl rfl rfl rfl) rfl rfl (kk_wl ?_))
    refine wl_u rfl (ow_y (yh_cmpI rfl rfl rfl rfl) rfl rfl (kk_wl ?_))
    refine wl_nil ?_
    refine ex_seq ?_
    refine cw_split rfl (fun cc2 => ?_) (fun cc2 => ?_)
    · skip
      replace h := bt cc2 h
      have q3 := ltb_true.1 cc2
      refine cw_skip ?_
      refine ex_seq ?_
      refine cw_seq ?_
      refine cw_block ?_
      refine cw_seq ?_
      refine cw_dr [0, 1, 2, 3, 4, 5, 6, 7, 9] [] [] (by kernel_rfl) ?_
      refine wd_take (i := 0) [] rfl rfl rfl rfl rfl (by kernel_rfl) (by kernel_rfl) (fun _ _ _ _ h => h) (yh_move rfl rfl) ?_
      refine wd_take (i := 1) [] rfl rfl rfl rfl rfl (by kernel_rfl) (by kernel_rfl) (fun _ _ _ _ h => h) (yh_move rfl rfl) ?_
      obtain ⟨y19, hy19, h⟩ := bd h
      obtain ⟨b19, o19, ha19⟩ := sl_addr h_a hy19
      subst ha19
      obtain ⟨a19, e19, hc19, hf19⟩ := get_change h_a hy19
      have mx19 := rd_max hf19
      refine wd_take (i := 2) [] rfl rfl rfl rfl rfl (by kernel_rfl) (by kernel_rfl) (fun _ _ _ _ h => h) (yh_idx Tb (k := s5) rfl rfl rfl rfl (get_lt hy19) rfl rfl) ?_
      refine wd_take (i := 3) [] rfl rfl rfl rfl rfl (by kernel_rfl) (by kernel_rfl) (fun _ _ _ _ h => h) (yh_loadAN Tb rfl rfl rfl rfl hc19 rfl) ?_
      refine wd_take (i := 4) [] rfl rfl rfl rfl rfl (by kernel_rfl) (by kernel_rfl) (fun _ _ _ _ h => h) (yh_move rfl rfl) ?_
      refine wd_take (i := 5) [] rfl rfl rfl rfl rfl (by kernel_rfl) (by kernel_rfl) (fun _ _ _ _ h => h) (yh_move rfl rfl) ?_
      obtain ⟨y23, hy23, h⟩ := bd h
      obtain ⟨b23, o23, ha23⟩ := sl_addr h_b hy23
      subst ha23
      obtain ⟨a23, e23, hc23, hf23⟩ := get_change h_b hy23
      have mx23 := rd_max hf23
      refine wd_take (i := 6) [] rfl rfl rfl rfl rfl (by kernel_rfl) (by kernel_rfl) (fun _ _ _ _ h => h) (yh_idx Tb (k := s5) rfl rfl rfl rfl (get_lt hy23) rfl rfl) ?_
      refine wd_take (i := 7) [] rfl rfl rfl rfl rfl (by kernel_rfl) (by kernel_rfl) (fun _ _ _ _ h => h) (yh_loadAN Tb rfl rfl rfl rfl hc23 rfl) ?_
      obtain ⟨x25, hx25, h⟩ := bd h
      refine wd_one 8 rfl rfl (by kernel_rfl) (ow_cV rfl hb58 rfl (fun w hw => c_laws_eqChange N _ _ _ hx25 w (Lay.at_ hf19 hw) (Lay.at_ hf23 hw)) rfl rfl (kk_wd [] (by kernel_rfl) ?_))
      refine wd_take (i := 9) [] rfl rfl rfl rfl rfl (by kernel_rfl) (by kernel_rfl) (fun _ _ _ _ h => h) (yh_not rfl rfl) ?_
      refine wd_done (by kernel_rfl) ?_
      refine ex_seq ?_
      refine cw_split rfl (fun cc3 => ?_) (fun cc3 => ?_)
      · skip
        replace h := bt cc3 h
        refine cw_seq ?_
        refine cw_region ?_
        refine wl_u rfl (ow_y (yh_assign rfl rfl) rfl rfl (kk_wl ?_))
        refine wl_nil ?_
        refine ex_seq ?_
        refine cw_ret ?_
        refine ex_block_ret ?_
        refine ex_then_ret ?_
        refine ex_then_ret ?_
        refine ex_block_ret ?_
        refine ex_then_ret ?_
        obtain rfl := Option.some.inj h
        obtain rfl := go_ret hk8
        exact ex_r1 Tb rfl (.tmp rfl) (fun wq hq => ⟨_, rfl, hq.ext, rfl⟩)
      · skip
        replace h := bf cc3 h
        refine cw_skip ?_
        refine ex_block_normal ?_
        refine ex_seq ?_
        refine cw_region ?_
        refine wl_u rfl (ow_y (yh_move rfl rfl) rfl rfl (kk_wl ?_))
        refine wl_u rfl (ow_y (yh_arI rfl rfl rfl rfl (by omega)) rfl rfl (kk_wl ?_))
        refine wl_u rfl (ow_y (yh_assign rfl rfl) rfl rfl (kk_wl ?_))
        refine wl_nil ?_
        exact ex_next [] (hn8 (n8, s5 + 1) (Nat.lt_succ_self _) h) ⟨rfl, rfl, rfl, trivial⟩ (by kernel_rfl)
    · skip
      replace h := bf cc2 h
      have q4 := ltb_false.1 cc2
      refine cw_exit ?_
      refine ex_then_exit ?_
      refine ex_then_exit ?_
      obtain rfl := Option.some.inj h
      have h := go_brk hk8
      refine ex_block_exit ?_
      refine ex_seq ?_
      refine cw_seq ?_
      refine cw_region ?_
      refine wl_u rfl (ow_y (yh_assign rfl rfl) rfl rfl (kk_wl ?_))
      refine wl_nil ?_
      refine ex_seq ?_
      refine cw_ret ?_
      obtain rfl := Option.some.inj h
      exact ex_r1 Tb rfl (.tmp rfl) (fun wq hq => ⟨_, rfl, hq.ext, rfl⟩)

def m_laws_markText_L7 (N : Nat) : Nat → Int → Str → Option (Ex (Int × Str) (Str))
  | 0, _, _ => none
  | n + 1, s0, s3 => (bif ltb 0 s0 then (cat (bstr [u8w (w64 (48 + (Int.tmod s0 10)))]) s3).bind fun t15_ => m_laws_markText_L7 N n (w64 (Int.tdiv s0 10)) t15_
 else some (Ex.brk (s0, s3)))

def m_laws_markText (N : Nat) (k : Int) : Option (Str) := (bif leb k 0 then some (⟨#[109, 48]⟩ : Str)
 else (m_laws_markText_L7 N N k (⟨#[]⟩ : Str)).bind fun e7 => e7.go (fun r => r) fun b7 => (cat (⟨#[109]⟩ : Str) b7.2).bind fun t19_ => some t19_)

set_option maxHeartbeats 4000000 in
theorem c_laws_markText (N : Nat) (k : Int) (res : Str) (h : m_laws_markText N k = some res) (w : World) : Ret Tryz.prog 60 [.int .i64 k] w [] fun v w' => v = .string res := by
  unfold m_laws_markText at h
  refine ret_enter Tryz.func60 rfl Tryz.ntmps60 rfl (Hp.refl w _) ?_
  refine cw_seq ?_
  refine cw_region ?_
  refine wl_u rfl (ow_y (yh_assign rfl rfl) rfl rfl (kk_wl ?_))
  refine wl_nil ?_
  refine ex_seq ?_
  refine cw_seq ?_
  refine cw_seq ?_
  refine cw_region ?_
  refine wl_u rfl (ow_y (yh_move rfl rfl) rfl rfl (kk_wl ?_))
  refine wl_u rfl (ow_y (yh_cmpI rfl rfl rfl rfl) rfl rfl (kk_wl ?_))
  refine wl_nil ?_
  refine ex_seq ?_
  refine cw_split rfl (fun cc1 => ?_) (fun cc1 => ?_)
  · skip
    replace h := bt cc1 h
    have q1 := leb_true.1 cc1
    refine cw_seq ?_
    refine cw_region ?_
    refine wl_u rfl (ow_y (yh_assign rfl rfl) rfl rfl (kk_wl ?_))
    refine wl_nil ?_
    refine ex_seq ?_
    refine cw_ret ?_
    refine ex_then_ret ?_
    obtain rfl := Option.some.inj h
    exact ex_r1 Tb rfl (.tmp rfl) (fun wq hq => ⟨_, rfl, hq.ext, rfl⟩)
  · skip
    replace h := bf cc1 h
    have q2 := leb_false.1 cc1
    refine cw_skip ?_
    refine ex_seq ?_
    refine cw_seq ?_
    refine cw_region ?_
    refine wl_u rfl (ow_y (yh_assign rfl rfl) rfl rfl (kk_wl ?_))
    refine wl_nil ?_
    refine ex_seq ?_
    refine cw_seq ?_
    refine cw_block ?_
    obtain ⟨e7, he7, hk7⟩ := bd h
    clear h
    refine cw_loopG (σ := Nat × Int × Str) (fun s => m_laws_markText_L7 N s.1 s.2.1 s.2.2 = some e7) (fun s => [(0, .int .i64 s.2.1), (3, .string s.2.2)]) (fun s => []) (fun s => s.1) (N, k, (⟨#[]⟩ : Str)) [] he7 ⟨rfl, rfl, trivial⟩ rfl (fun KL s he7 hn7 => ?_)
    obtain ⟨n7, s0, s3⟩ := s
    simp only at he7 hn7 ⊢
    rcases n7 with _ | n7
    · exact nosome he7
    have h := he7; rw [m_laws_markText_L7] at h
    refine cw_seq ?_
    refine cw_seq ?_
    refine cw_region ?_
    refine wl_u rfl (ow_y (yh_move rfl rfl) rfl rfl (kk_wl ?_))
    refine wl_u rfl (ow_y (yh_cmpI rfl rfl rfl rfl) rfl rfl (kk_wl ?_))
    refine wl_nil ?_
    refine ex_seq ?_
    refine cw_split rfl (fun cc2 => ?_) (fun cc2 => ?_)
    · skip
      replace h := bt cc2 h
      have q3 := ltb_true.1 cc2
      refine cw_skip ?_
      refine ex_seq ?_
      refine cw_block ?_
      refine cw_seq ?_
      refine cw_region ?_
      refine wl_u rfl (ow_y (yh_move rfl rfl) rfl rfl (kk_wl ?_))
      refine wl_u rfl (ow_y (yh_remT rfl rfl rfl (by decide)) rfl rfl (kk_wl ?_))
      refine wl_u rfl (ow_y (yh_arW rfl rfl rfl rfl) rfl rfl (kk_wl ?_))
      refine wl_u rfl (ow_y (yh_convU rfl rfl (by kernel_rfl)) rfl rfl (kk_wl ?_))
      refine wl_u rfl (ow_lit1 Tb rfl rfl rfl rfl rfl rfl rfl rfl rfl rfl (fun g12 => kk_wl ?_))
      refine wl_u rfl (ow_y (yh_bstr (ns := [u8w (w64 (48 + (Int.tmod s0 10)))]) (k := 0) rfl rfl rfl rfl (by kernel_rfl)) rfl rfl (kk_wl ?_))
      refine wl_u rfl (ow_y (yh_move rfl rfl) rfl rfl (kk_wl ?_))
      obtain ⟨t15_, zt15_, h⟩ := bd h
      refine wl_u rfl (ow_y (yh_addS zt15_ rfl rfl rfl) rfl rfl (kk_wl ?_))
      refine wl_u rfl (ow_y (yh_assign rfl rfl) rfl rfl (kk_wl ?_))
      refine wl_nil ?_
      refine ex_seq ?_
      refine cw_region ?_
      refine wl_u rfl (ow_y (yh_move rfl rfl) rfl rfl (kk_wl ?_))
      refine wl_u rfl (ow_y (yh_quoT rfl rfl rfl (by decide)) rfl rfl (kk_wl ?_))
      refine wl_u rfl (ow_y (yh_assign rfl rfl) rfl rfl (kk_wl ?_))
      refine wl_nil ?_
      refine ex_block_normal ?_
      exact ex_next [] (hn7 (n7, w64 (Int.tdiv s0 10), t15_) (Nat.lt_succ_self _) h) ⟨rfl, rfl, trivial⟩ (by kernel_rfl)
    · skip
      replace h := bf cc2 h
      have q4 := ltb_false.1 cc2
      refine cw_exit ?_
      refine ex_then_exit ?_
      refine ex_then_exit ?_
      obtain rfl := Option.some.inj h
      have h := go_brk hk7
      refine ex_block_exit ?_
      refine ex_seq ?_
      refine cw_seq ?_
      refine cw_region ?_
      refine wl_u rfl (ow_y (yh_move rfl rfl) rfl rfl (kk_wl ?_))
      obtain ⟨t19_, zt19_, h⟩ := bd h
      refine wl_u rfl (ow_y (yh_addS zt19_ rfl rfl rfl) rfl rfl (kk_wl ?_))
      refine wl_u rfl (ow_y (yh_assign rfl rfl) rfl rfl (kk_wl ?_))
      refine wl_nil ?_
      refine ex_seq ?_
      refine cw_ret ?_
      obtain rfl := Option.some.inj h
      exact ex_r1 Tb rfl (.tmp rfl) (fun wq hq => ⟨_, rfl, hq.ext, rfl⟩)

def m_laws_markStringS_L4 (N : Nat) (a : List Str) : Nat → (List Str) → Int → Nat → Option (Ex (List Str × Int × Nat) ((Int) × (List Str)))
  | 0, _, _, _ => none
  | n + 1, s0, s1, s5 => (bif ltb ((s5 : Nat) : Int) ((a.length : Nat) : Int) then (m_laws_markText N s1).bind fun x15 => (s0[s5]?).bind fun y16 => m_laws_markStringS_L4 N a n (s0.set s5 x15) (w64 (s1 + 1)) (s5 + 1)
 else some (Ex.brk (s0, s1, s5)))

def m_laws_markStringS (N : Nat) (a : List Str) (k : Int) : Option ((Int) × (List Str)) := (m_laws_markStringS_L4 N a N a k 0).bind fun e4 => e4.go (fun r => r) fun b4 => some (b4.2.1, b4.1)

set_option maxHeartbeats 4000000 in
theorem c_laws_markStringS (N : Nat) (a : List Str) (k : Int) (res : (Int) × (List Str)) (h : m_laws_markStringS N a k = some res) (w : World) {a_a : Option Addr} {c_a : Nat} {F_a : List Nat} (hr : (owC strsL F_a [.slice a_a a.length c_a] a).A w) (hnd : F_a.Nodup) : Ret Tryz.prog 61 [.slice a_a a.length c_a, .int .i64 k] w F_a fun v w' => ∃ F0, v = .int .i64 res.1 ∧ NewM w w' F_a [owC strsL F0 [.slice a_a a.length c_a] res.2] := by
  unfold m_laws_markStringS at h
  refine ret_enter Tryz.func61 rfl Tryz.ntmps61 rfl (hp_one hr hnd) ?_
  refine cw_seq ?_
  refine cw_region ?_
  refine wl_u rfl (ow_y (yh_assign rfl rfl) rfl rfl (kk_wl ?_))
  refine wl_nil ?_
  refine ex_seq ?_
  refine cw_seq ?_
  refine cw_seq ?_
  refine cw_region ?_
  refine wl_u rfl (ow_y (yh_assign rfl rfl) rfl rfl (kk_wl ?_))
  refine wl_nil ?_
  refine ex_seq ?_
  refine cw_block ?_
  obtain ⟨e4, he4, hk4⟩ := bd h
  clear h
  refine cw_loopG (σ := Nat × (List Str) × Int × Nat × (List Nat)) (fun s => m_laws_markStringS_L4 N a s.1 s.2.1 s.2.2.1 s.2.2.2.1 = some e4) (fun s => [(0, .slice a_a a.length c_a), (1, .int .i64 s.2.2.1), (5, .int .i64 ((s.2.2.2.1 : Nat) : Int))]) (fun s => [owC strsL s.2.2.2.2 [.slice a_a a.length c_a] s.2.1]) (fun s => s.1) (N, a, k, 0, F_a) [0] he4 ⟨rfl, rfl, rfl, trivial⟩ rfl (fun KL s he4 hn4 => ?_)
  obtain ⟨n4, s0, s1, s5, Fs0⟩ := s
  simp only at he4 hn4 ⊢
  rcases n4 with _ | n4
  · exact nosome he4
  have h := he4; rw [m_laws_markStringS_L4] at h
  refine cw_seq ?_
  refine cw_seq ?_
  refine cw_region ?_
  refine wl_u rfl (ow_y (yh_move rfl rfl) rfl rfl (kk_wl ?_))
  refine wl_u rfl (ow_y (yh_move rfl rfl) rfl rfl (kk_wl ?_))
  refine wl_know (a.length ≤ 9223372036854775807) (fun w hw => own_max 0 rfl hw) (fun mo8 => ?_)
  refine wl_u rfl (ow_y (yh_lenS Tb rfl rfl rfl rfl) rfl rfl (kk_wl ?_))
  refine wl_u rfl (ow_y (yh_cmpI rfl rfl rfl rfl) rfl rfl (kk_wl ?_))
  refine wl_nil ?_
  refine ex_seq ?_
  refine cw_split rfl (fun cc1 => ?_) (fun cc1 => ?_)
  · skip
    replace h := bt cc1 h
    have q1 := ltb_true.1 cc1
    refine cw_skip ?_
    refine ex_seq ?_
    refine cw_seq ?_
    refine cw_block ?_
    refine cw_seq ?_
    refine cw_region ?_
    refine wl_u rfl (ow_y (yh_move rfl rfl) rfl rfl (kk_wl ?_))
    refine wl_u rfl (ow_y (yh_move rfl rfl) rfl rfl (kk_wl ?_))
    refine wl_u rfl (ow_y (yh_move rfl rfl) rfl rfl (kk_wl ?_))
    obtain ⟨x15, hx15, h⟩ := bd h
    refine wl_u rfl (ow_cV rfl hb60 rfl (fun w hw => c_laws_markText N _ _ hx15 w) rfl rfl (kk_wl ?_))
    obtain ⟨y16, hy16, h⟩ := bd h
    refine wl_ex (fun g => a_a = some ⟨g, 0, none⟩) (fun w hw => by exact own_addrK 0 rfl hy16 hw) (fun g16 hg16 => ?_)
    subst hg16
    refine wl_know (a.length = s0.length) (fun w hw => own_lenK 0 rfl hw) (fun hn16 => ?_)
    refine wl_u rfl (ow_y (yh_idx Tb (k := s5) rfl rfl rfl rfl (Nat.lt_of_lt_of_eq (get_lt hy16) hn16.symm) rfl rfl) rfl rfl (kk_wl ?_))
    refine wl_u rfl (ow_setP Tb (u := x15) 0 rfl rfl rfl rfl rfl (get_lt hy16) rfl rfl (fun Fs12 => kk_wl ?_))
    refine wl_nil ?_
    refine ex_seq ?_
    refine cw_region ?_
    refine wl_u rfl (ow_y (yh_move rfl rfl) rfl rfl (kk_wl ?_))
    refine wl_u rfl (ow_y (yh_arW rfl rfl rfl rfl) rfl rfl (kk_wl ?_))
    refine wl_u rfl (ow_y (yh_assign rfl rfl) rfl rfl (kk_wl ?_))
    refine wl_nil ?_
    refine ex_block_normal ?_
    refine ex_seq ?_
    refine cw_region ?_
    refine wl_u rfl (ow_y (yh_move rfl rfl) rfl rfl (kk_wl ?_))
    refine wl_u rfl (ow_y (yh_arI rfl rfl rfl rfl (by omega)) rfl rfl (kk_wl ?_))
    refine wl_u rfl (ow_y (yh_assign rfl rfl) rfl rfl (kk_wl ?_))
    refine wl_nil ?_
    exact ex_next [0] (hn4 (n4, (s0.set s5 x15), w64 (s1 + 1), s5 + 1, Fs12) (Nat.lt_succ_self _) h) ⟨rfl, rfl, rfl, trivial⟩ (by kernel_rfl)
  · skip
    replace h := bf cc1 h
    have q2 := ltb_false.1 cc1
    refine cw_exit ?_
    refine ex_then_exit ?_
    refine ex_then_exit ?_
    obtain rfl := Option.some.inj h
    have h := go_brk hk4
    refine ex_block_exit ?_
    refine ex_seq ?_
    refine cw_seq ?_
    refine cw_region ?_
    refine wl_u rfl (ow_y (yh_move rfl rfl) rfl rfl (kk_wl ?_))
    refine wl_u rfl (ow_y (yh_assign rfl rfl) rfl rfl (kk_wl ?_))
    refine wl_nil ?_
    refine ex_seq ?_
    refine cw_ret ?_
    obtain rfl := Option.some.inj h
    exact ex_r1 Tb rfl (.tmp rfl) (fun wq hq => ⟨_, rfl, hq.ext, ⟨Fs0, rfl, NewM.sel [0] hq rfl⟩⟩)

def m_laws_markStepS_L4 (N : Nat) (a : List Step) : Nat → (List Step) → Int → Nat → Option (Ex (List Step × Int × Nat) ((Int) × (List Step)))
  | 0, _, _, _ => none
  | n + 1, s0, s1, s5 => (bif ltb ((s5 : Nat) : Int) ((a.length : Nat) : Int) then (m_laws_markText N s1).bind fun x15 => (s0[s5]?).bind fun y16 => ((s0.set s5 (Step.mk x15 y16.after y16.undo))[s5]?).bind fun y22 => (m_laws_markStringS N y22.after (w64 (s1 + 1))).bind fun x26 => (((s0.set s5 (Step.mk x15 y16.after y16.undo)).set s5 (Step.mk y22.name x26.2 y22.undo))[s5]?).bind fun y32 => m_laws_markStepS_L4 N a n (((s0.set s5 (Step.mk x15 y16.after y16.undo)).set s5 (Step.mk y22.name x26.2 y22.undo)).set s5 (Step.mk y32.name y32.after (eqb (Int.tmod x26.1 3) 0))) (w64 (x26.1 + 1)) (s5 + 1)
 else some (Ex.brk (s0, s1, s5)))

def m_laws_markStepS (N : Nat) (a : List Step) (k : Int) : Option ((Int) × (List Step)) := (m_laws_markStepS_L4 N a N a k 0).bind fun e4 => e4.go (fun r => r) fun b4 => some (b4.2.1, b4.1)

set_option maxHeartbeats 4000000 in
theorem c_laws_markStepS (N : Nat) (a : List Step) (k : Int) (res : (Int) × (List Step)) (h : m_laws_markStepS N a k = some res) (w : World) {a_a : Option Addr} {c_a : Nat} {F_a : List Nat} (hr : (owC stepsL F_a [.slice a_a a.length c_a] a).A w) (hnd : F_a.Nodup) : Ret Tryz.prog 59 [.slice a_a a.length c_a, .int .i64 k] w F_a fun v w' => ∃ F0, v = .int .i64 res.1 ∧ NewM w w' F_a [owC stepsL F0 [.slice a_a a.length c_a] res.2] := by
  unfold m_laws_markStepS at h
  refine ret_enter Tryz.func59 rfl Tryz.ntmps59 rfl (hp_one hr hnd) ?_
  refine cw_seq ?_
  refine cw_region ?_
  refine wl_u rfl (ow_y (yh_assign rfl rfl) rfl rfl (kk_wl ?_))
  refine wl_nil ?_
  refine ex_seq ?_
  refine cw_seq ?_
  refine cw_seq ?_
  refine cw_region ?_
  refine wl_u rfl (ow_y (yh_assign rfl rfl) rfl rfl (kk_wl ?_))
  refine wl_nil ?_
  refine ex_seq ?_
  refine cw_block ?_
  obtain ⟨e4, he4, hk4⟩ := bd h
  clear h
  refine cw_loopG (σ := Nat × (List Step) × Int × Nat × (List Nat)) (fun s => m_laws_markStepS_L4 N a s.1 s.2.1 s.2.2.1 s.2.2.2.1 = some e4) (fun s => [(0, .slice a_a a.length c_a), (1, .int .i64 s.2.2.1), (5, .int .i64 ((s.2.2.2.1 : Nat) : Int))]) (fun s => [owC stepsL s.2.2.2.2 [.slice a_a a.length c_a] s.2.1]) (fun s => s.1) (N, a, k, 0, F_a) [0] he4 ⟨rfl, rfl, rfl, trivial⟩ rfl (fun KL s he4 hn4 => ?_)
  obtain ⟨n4, s0, s1, s5, Fs0⟩ := s
  simp only at he4 hn4 ⊢
  rcases n4 with _ | n4
  · exact nosome he4
  have h := he4; rw [m_laws_markStepS_L4] at h
  refine cw_seq ?_
  refine cw_seq ?_
  refine cw_region ?_
  refine wl_u rfl (ow_y (yh_move rfl rfl) rfl rfl (kk_wl ?_))
  refine wl_u rfl (ow_y (yh_move rfl rfl) rfl rfl (kk_wl ?_))
  refine wl_know (a.length ≤ 9223372036854775807) (fun w hw => own_max 0 rfl hw) (fun mo8 => ?_)
  refine wl_u rfl (ow_y (yh_lenS Tb rfl rfl rfl rfl) rfl rfl (kk_wl ?_))
  refine wl_u rfl (ow_y (yh_cmpI rfl rfl rfl rfl) rfl rfl (kk_wl ?_))
  refine wl_nil ?_
  refine ex_seq ?_
  refine cw_split rfl (fun cc1 => ?_) (fun cc1 => ?_)
  · skip
    replace h := bt cc1 h
    have q1 := ltb_true.1 cc1
    refine cw_skip ?_
    refine ex_seq ?_
    refine cw_seq ?_
    refine cw_block ?_
    refine cw_seq ?_
    refine cw_region ?_
    refine wl_u rfl (ow_y (yh_move rfl rfl) rfl rfl (kk_wl ?_))
    refine wl_u rfl (ow_y (yh_move rfl rfl) rfl rfl (kk_wl ?_))
    refine wl_u rfl (ow_y (yh_move rfl rfl) rfl rfl (kk_wl ?_))
    obtain ⟨x15, hx15, h⟩ := bd h
    refine wl_u rfl (ow_cV rfl hb60 rfl (fun w hw => c_laws_markText N _ _ hx15 w) rfl rfl (kk_wl ?_))
    obtain ⟨y16, hy16, h⟩ := bd h
    refine wl_ex (fun g => a_a = some ⟨g, 0, none⟩) (fun w hw => by exact own_addrK 0 rfl hy16 hw) (fun g16 hg16 => ?_)
    subst hg16
    refine wl_know (a.length = s0.length) (fun w hw => own_lenK 0 rfl hw) (fun hn16 => ?_)
    refine wl_u rfl (ow_y (yh_idx Tb (k := s5) rfl rfl rfl rfl (Nat.lt_of_lt_of_eq (get_lt hy16) hn16.symm) rfl rfl) rfl rfl (kk_wl ?_))
    refine wl_u rfl (ow_y (yh_field Tb rfl rfl rfl) rfl rfl (kk_wl ?_))
    refine wl_u rfl (ow_setFP Tb 0 0 (Step.mk x15 y16.after y16.undo) (fun w F cs h => by obtain ⟨a, c, rfl, h2⟩ := stepL_ow h; exact stepL_mk (Step.mk x15 y16.after y16.undo) h2) rfl rfl rfl rfl rfl rfl rfl hy16 rfl (kk_wl ?_))
    refine wl_nil ?_
    refine ex_seq ?_
    refine cw_seq ?_
    refine cw_region ?_
    refine wl_u rfl (ow_y (yh_move rfl rfl) rfl rfl (kk_wl ?_))
    refine wl_u rfl (ow_y (yh_arW rfl rfl rfl rfl) rfl rfl (kk_wl ?_))
    refine wl_u rfl (ow_y (yh_assign rfl rfl) rfl rfl (kk_wl ?_))
    refine wl_nil ?_
    refine ex_seq ?_
    refine cw_seq ?_
    refine cw_region ?_
    refine wl_u rfl (ow_y (yh_move rfl rfl) rfl rfl (kk_wl ?_))
    refine wl_u rfl (ow_y (yh_move rfl rfl) rfl rfl (kk_wl ?_))
    obtain ⟨y22, hy22, h⟩ := bd h
    refine wl_know (a.length = (s0.set s5 (Step.mk x15 y16.after y16.undo)).length) (fun w hw => own_lenK 0 rfl hw) (fun hn22 => ?_)
    refine wl_u rfl (ow_y (yh_idx Tb (k := s5) rfl rfl rfl rfl (Nat.lt_of_lt_of_eq (get_lt hy22) hn22.symm) rfl rfl) rfl rfl (kk_wl ?_))
    refine wl_u rfl (ow_y (yh_field Tb rfl rfl rfl) rfl rfl (kk_wl ?_))
    refine wl_u rfl (ow_loadH Tb 0 1 (step_nest y22) rfl rfl rfl rfl hy22 rfl rfl (fun a24 c24 G24 F24 => kk_wl ?_))
    refine wl_u rfl (ow_y (yh_move rfl rfl) rfl rfl (kk_wl ?_))
    obtain ⟨x26, hx26, h⟩ := bd h
    refine wl_u rfl (ow_cF1 0 rfl hb61 rfl rfl (fun w hw => c_laws_markStringS N _ _ _ hx26 w (hw.at (i := 0) rfl) (hw.ndAt (i := 0) rfl)) rfl rfl (fun F26 => kk_join (l2 := ((s0.set s5 (Step.mk x15 y16.after y16.undo)).set s5 (Step.mk y22.name x26.2 y22.undo))) 0 0 rfl rfl rfl (fun G26 => kk_wl ?_)))
    refine wl_u rfl (ow_y (yh_assign rfl rfl) rfl rfl (kk_wl ?_))
    refine wl_nil ?_
    refine ex_seq ?_
    refine cw_seq ?_
    refine cw_region ?_
    refine wl_u rfl (ow_y (yh_move rfl rfl) rfl rfl (kk_wl ?_))
    refine wl_u rfl (ow_y (yh_move rfl rfl) rfl rfl (kk_wl ?_))
    refine wl_u rfl (ow_y (yh_move rfl rfl) rfl rfl (kk_wl ?_))
    refine wl_u rfl (ow_y (yh_remT rfl rfl rfl (by decide)) rfl rfl (kk_wl ?_))
    refine wl_u rfl (ow_y (yh_cmpI rfl rfl rfl rfl) rfl rfl (kk_wl ?_))
    obtain ⟨y32, hy32, h⟩ := bd h
    refine wl_know (a.length = ((s0.set s5 (Step.mk x15 y16.after y16.undo)).set s5 (Step.mk y22.name x26.2 y22.undo)).length) (fun w hw => own_lenK 0 rfl hw) (fun hn32 => ?_)
    refine wl_u rfl (ow_y (yh_idx Tb (k := s5) rfl rfl rfl rfl (Nat.lt_of_lt_of_eq (get_lt hy32) hn32.symm) rfl rfl) rfl rfl (kk_wl ?_))
    refine wl_u rfl (ow_y (yh_field Tb rfl rfl rfl) rfl rfl (kk_wl ?_))
    refine wl_u rfl (ow_setFP Tb 0 2 (Step.mk y32.name y32.after (eqb (Int.tmod x26.1 3) 0)) (fun w F cs h => by obtain ⟨a, c, rfl, h2⟩ := stepL_ow h; exact stepL_mk (Step.mk y32.name y32.after (eqb (Int.tmod x26.1 3) 0)) h2) rfl rfl rfl rfl rfl rfl rfl hy32 rfl (kk_wl ?_))
    refine wl_nil ?_
    refine ex_seq ?_
    refine cw_region ?_
    refine wl_u rfl (ow_y (yh_move rfl rfl) rfl rfl (kk_wl ?_))
    refine wl_u rfl (ow_y (yh_arW rfl rfl rfl rfl) rfl rfl (kk_wl ?_))
    refine wl_u rfl (ow_y (yh_assign rfl rfl) rfl rfl (kk_wl ?_))
    refine wl_nil ?_
    refine ex_block_normal ?_
    refine ex_seq ?_
    refine cw_region ?_
    refine wl_u rfl (ow_y (yh_move rfl rfl) rfl rfl (kk_wl ?_))
    refine wl_u rfl (ow_y (yh_arI rfl rfl rfl rfl (by omega)) rfl rfl (kk_wl ?_))
    refine wl_u rfl (ow_y (yh_assign rfl rfl) rfl rfl (kk_wl ?_))
    refine wl_nil ?_
    exact ex_next [0] (hn4 (n4, (((s0.set s5 (Step.mk x15 y16.after y16.undo)).set s5 (Step.mk y22.name x26.2 y22.undo)).set s5 (Step.mk y32.name y32.after (eqb (Int.tmod x26.1 3) 0))), w64 (x26.1 + 1), s5 + 1, G26) (Nat.lt_succ_self _) h) ⟨rfl, rfl, rfl, trivial⟩ (by kernel_rfl)
  · skip
    replace h := bf cc1 h
    have q2 := ltb_false.1 cc1
    refine cw_exit ?_
    refine ex_then_exit ?_
    refine ex_then_exit ?_
    obtain rfl := Option.some.inj h
    have h := go_brk hk4
    refine ex_block_exit ?_
    refine ex_seq ?_
    refine cw_seq ?_
    refine cw_region ?_
    refine wl_u rfl (ow_y (yh_move rfl rfl) rfl rfl (kk_wl ?_))
    refine wl_u rfl (ow_y (yh_assign rfl rfl) rfl rfl (kk_wl ?_))
    refine wl_nil ?_
    refine ex_seq ?_
    refine cw_ret ?_
    obtain rfl := Option.some.inj h
    exact ex_r1 Tb rfl (.tmp rfl) (fun wq hq => ⟨_, rfl, hq.ext, ⟨Fs0, rfl, NewM.sel [0] hq rfl⟩⟩)

def m_laws_markFlow (N : Nat) (a : Flow) (k : Int) : Option ((Int) × (List Step)) := (m_laws_markStepS N a.steps k).bind fun x8 => some (x8.1, x8.2)

set_option maxHeartbeats 4000000 in
theorem c_laws_markFlow (N : Nat) (a : Flow) (k : Int) (res : (Int) × (List Step)) (h : m_laws_markFlow N a k = some res) (w : World) {a_a : Option Addr} {c_a : Nat} {F_a : List Nat} (hr : (owC stepsL F_a [.slice a_a a.steps.length c_a] a.steps).A w) (hnd : F_a.Nodup) : Ret Tryz.prog 20 [.agg #[.int .i64 a.ver, .slice a_a a.steps.length c_a], .int .i64 k] w F_a fun v w' => ∃ F0, v = .int .i64 res.1 ∧ NewM w w' F_a [owC stepsL F0 [.slice a_a a.steps.length c_a] res.2] := by
  unfold m_laws_markFlow at h
  refine ret_enter Tryz.func20 rfl Tryz.ntmps20 rfl (hp_one hr hnd) ?_
  refine cw_seq ?_
  refine cw_region ?_
  refine wl_u rfl (ow_boxA rfl rfl rfl rfl (fun g2 => kk_wl ?_))
  refine wl_u rfl (ow_y (yh_assign rfl rfl) rfl rfl (kk_wl ?_))
  refine wl_nil ?_
  refine ex_seq ?_
  refine cw_seq ?_
  refine cw_region ?_
  refine wl_u rfl (ow_y (yh_field Tb rfl rfl rfl) rfl rfl (kk_wl ?_))
  refine wl_u rfl (ow_y (yh_loadB Tb (k := 0) rfl rfl rfl rfl rfl) rfl rfl (kk_wl ?_))
  refine wl_u rfl (ow_y (yh_move rfl rfl) rfl rfl (kk_wl ?_))
  obtain ⟨x8, hx8, h⟩ := bd h
  refine wl_u rfl (ow_cF1 1 rfl hb59 rfl rfl (fun w hw => c_laws_markStepS N _ _ _ hx8 w (hw.at (i := 1) rfl) (hw.ndAt (i := 1) rfl)) rfl rfl (fun F8 => kk_wl ?_))
  refine wl_u rfl (ow_y (yh_assign rfl rfl) rfl rfl (kk_wl ?_))
  refine wl_nil ?_
  refine ex_seq ?_
  refine cw_seq ?_
  refine cw_region ?_
  refine wl_u rfl (ow_y (yh_move rfl rfl) rfl rfl (kk_wl ?_))
  refine wl_u rfl (ow_y (yh_assign rfl rfl) rfl rfl (kk_wl ?_))
  refine wl_nil ?_
  refine ex_seq ?_
  refine cw_ret ?_
  obtain rfl := Option.some.inj h
  exact ex_r1 Tb rfl (.tmp rfl) (fun wq hq => ⟨_, rfl, hq.ext, ⟨F8, rfl, NewM.sel [0] hq rfl⟩⟩)

def m_laws_markChangeS_L4 (N : Nat) (a : List Change) : Nat → (List Change) → Int → Nat → Option (Ex (List Change × Int × Nat) ((Int) × (List Change)))
  | 0, _, _, _ => none
  | n + 1, s0, s1, s5 => (bif ltb ((s5 : Nat) : Int) ((a.length : Nat) : Int) then (s0[s5]?).bind fun y15 => (m_laws_markText N (w64 (s1 + 1))).bind fun x22 => ((s0.set s5 (Change.mk s1 y15.step))[s5]?).bind fun y23 => (((s0.set s5 (Change.mk s1 y15.step)).set s5 (Change.mk y23.kind (Step.mk x22 y23.step.after y23.step.undo)))[s5]?).bind fun y30 => (m_laws_markStringS N y30.step.after (w64 ((w64 (s1 + 1)) + 1))).bind fun x35 => ((((s0.set s5 (Change.mk s1 y15.step)).set s5 (Change.mk y23.kind (Step.mk x22 y23.step.after y23.step.undo))).set s5 (Change.mk y30.kind (Step.mk y30.step.name x35.2 y30.step.undo)))[s5]?).bind fun y41 => m_laws_markChangeS_L4 N a n ((((s0.set s5 (Change.mk s1 y15.step)).set s5 (Change.mk y23.kind (Step.mk x22 y23.step.after y23.step.undo))).set s5 (Change.mk y30.kind (Step.mk y30.step.name x35.2 y30.step.undo))).set s5 (Change.mk y41.kind (Step.mk y41.step.name y41.step.after (eqb (Int.tmod x35.1 3) 0)))) (w64 (x35.1 + 1)) (s5 + 1)
 else some (Ex.brk (s0, s1, s5)))

def m_laws_markChangeS (N : Nat) (a : List Change) (k : Int) : Option ((Int) × (List Change)) := (m_laws_markChangeS_L4 N a N a k 0).bind fun e4 => e4.go (fun r => r) fun b4 => some (b4.2.1, b4.1)

set_option maxHeartbeats 4000000 in
theorem c_laws_markChangeS (N : Nat) (a : List Change) (k : Int) (res : (Int) × (List Change)) (h : m_laws_markChangeS N a k = some res) (w : World) {a_a : Option Addr} {c_a : Nat} {F_a : List Nat} (hr : (owC changesL F_a [.slice a_a a.length c_a] a).A w) (hnd : F_a.Nodup) : Ret Tryz.prog 21 [.slice a_a a.length c_a, .int .i64 k] w F_a fun v w' => ∃ F0, v = .int .i64 res.1 ∧ NewM w w' F_a [owC changesL F0 [.slice a_a a.length c_a] res.2] := by
  unfold m_laws_markChangeS at h
  refine ret_enter Tryz.func21 rfl Tryz.ntmps21 rfl (hp_one hr hnd) ?_
  refine cw_seq ?_
  refine cw_region ?_
  refine wl_u rfl (ow_y (yh_assign rfl rfl) rfl rfl (kk_wl ?_))
  refine wl_nil ?_
  refine ex_seq ?_
  refine cw_seq ?_
  refine cw_seq ?_
  refine cw_region ?_
  refine wl_u rfl (ow_y (yh_assign rfl rfl) rfl rfl (kk_wl ?_))
  refine wl_nil ?_
  refine ex_seq ?_
  refine cw_block ?_
  obtain ⟨e4, he4, hk4⟩ := bd h
  clear h
  refine cw_loopG (σ := Nat × (List Change) × Int × Nat × (List Nat)) (fun s => m_laws_markChangeS_L4 N a s.1 s.2.1 s.2.2.1 s.2.2.2.1 = some e4) (fun s => [(0, .slice a_a a.length c_a), (1, .int .i64 s.2.2.1), (5, .int .i64 ((s.2.2.2.1 : Nat) : Int))]) (fun s => [owC changesL s.2.2.2.2 [.slice a_a a.length c_a] s.2.1]) (fun s => s.1) (N, a, k, 0, F_a) [0] he4 ⟨rfl, rfl, rfl, trivial⟩ rfl (fun KL s he4 hn4 => ?_)
  obtain ⟨n4, s0, s1, s5, Fs0⟩ := s
  simp only at he4 hn4 ⊢
  rcases n4 with _ | n4
  · exact nosome he4
  have h := he4; rw [m_laws_markChangeS_L4] at h
  refine cw_seq ?_
  refine cw_seq ?_
  refine cw_region ?_
  refine wl_u rfl (ow_y (yh_move rfl rfl) rfl rfl (kk_wl ?_))
  refine wl_u rfl (ow_y (yh_move rfl rfl) rfl rfl (kk_wl ?_))
  refine wl_know (a.length ≤ 9223372036854775807) (fun w hw => own_max 0 rfl hw) (fun mo8 => ?_)
  refine wl_u rfl (ow_y (yh_lenS Tb rfl rfl rfl rfl) rfl rfl (kk_wl ?_))
  refine wl_u rfl (ow_y (yh_cmpI rfl rfl rfl rfl) rfl rfl (kk_wl ?_))
  refine wl_nil ?_
  refine ex_seq ?_
  refine cw_split rfl (fun cc1 => ?_) (fun cc1 => ?_)
  · skip
    replace h := bt cc1 h
    have q1 := ltb_true.1 cc1
    refine cw_skip ?_
    refine ex_seq ?_
    refine cw_seq ?_
    refine cw_block ?_
    refine cw_seq ?_
    refine cw_region ?_
    refine wl_u rfl (ow_y (yh_move rfl rfl) rfl rfl (kk_wl ?_))
    refine wl_u rfl (ow_y (yh_move rfl rfl) rfl rfl (kk_wl ?_))
    refine wl_u rfl (ow_y (yh_move rfl rfl) rfl rfl (kk_wl ?_))
    obtain ⟨y15, hy15, h⟩ := bd h
    refine wl_ex (fun g => a_a = some ⟨g, 0, none⟩) (fun w hw => by exact own_addrK 0 rfl hy15 hw) (fun g15 hg15 => ?_)
    subst hg15
    refine wl_know (a.length = s0.length) (fun w hw => own_lenK 0 rfl hw) (fun hn15 => ?_)
    refine wl_u rfl (ow_y (yh_idx Tb (k := s5) rfl rfl rfl rfl (Nat.lt_of_lt_of_eq (get_lt hy15) hn15.symm) rfl rfl) rfl rfl (kk_wl ?_))
    refine wl_u rfl (ow_y (yh_field Tb rfl rfl rfl) rfl rfl (kk_wl ?_))
    refine wl_u rfl (ow_setFP Tb 0 0 (Change.mk s1 y15.step) (fun w F cs h => by obtain ⟨a, c, rfl, h2⟩ := changeL_ow h; exact changeL_mk (Change.mk s1 y15.step) h2) rfl rfl rfl rfl rfl rfl rfl hy15 rfl (kk_wl ?_))
    refine wl_nil ?_
    refine ex_seq ?_
    refine cw_seq ?_
    refine cw_region ?_
    refine wl_u rfl (ow_y (yh_move rfl rfl) rfl rfl (kk_wl ?_))
    refine wl_u rfl (ow_y (yh_arW rfl rfl rfl rfl) rfl rfl (kk_wl ?_))
    refine wl_u rfl (ow_y (yh_assign rfl rfl) rfl rfl (kk_wl ?_))
    refine wl_nil ?_
    refine ex_seq ?_
    refine cw_seq ?_
    refine cw_region ?_
    refine wl_u rfl (ow_y (yh_move rfl rfl) rfl rfl (kk_wl ?_))
    refine wl_u rfl (ow_y (yh_move rfl rfl) rfl rfl (kk_wl ?_))
    refine wl_u rfl (ow_y (yh_move rfl rfl) rfl rfl (kk_wl ?_))
    obtain ⟨x22, hx22, h⟩ := bd h
    refine wl_u rfl (ow_cV rfl hb60 rfl (fun w hw => c_laws_markText N _ _ hx22 w) rfl rfl (kk_wl ?_))
    obtain ⟨y23, hy23, h⟩ := bd h
    refine wl_know (a.length = (s0.set s5 (Change.mk s1 y15.step)).length) (fun w hw => own_lenK 0 rfl hw) (fun hn23 => ?_)
    refine wl_u rfl (ow_y (yh_idx Tb (k := s5) rfl rfl rfl rfl (Nat.lt_of_lt_of_eq (get_lt hy23) hn23.symm) rfl rfl) rfl rfl (kk_wl ?_))
    refine wl_u rfl (ow_y (yh_field Tb rfl rfl rfl) rfl rfl (kk_wl ?_))
    refine wl_u rfl (ow_y (yh_field Tb rfl rfl rfl) rfl rfl (kk_wl ?_))
    refine wl_u rfl (ow_setFP Tb 0 1 (Change.mk y23.kind (Step.mk x22 y23.step.after y23.step.undo)) (fun w F cs h => by obtain ⟨a, c, rfl, h2⟩ := changeL_ow h; exact changeL_mk (Change.mk y23.kind (Step.mk x22 y23.step.after y23.step.undo)) h2) rfl rfl rfl rfl rfl rfl rfl hy23 rfl (kk_wl ?_))
    refine wl_nil ?_
    refine ex_seq ?_
    refine cw_seq ?_
    refine cw_region ?_
    refine wl_u rfl (ow_y (yh_move rfl rfl) rfl rfl (kk_wl ?_))
    refine wl_u rfl (ow_y (yh_arW rfl rfl rfl rfl) rfl rfl (kk_wl ?_))
    refine wl_u rfl (ow_y (yh_assign rfl rfl) rfl rfl (kk_wl ?_))
    refine wl_nil ?_
    refine ex_seq ?_
    refine cw_seq ?_
    refine cw_region ?_
    refine wl_u rfl (ow_y (yh_move rfl rfl) rfl rfl (kk_wl ?_))
    refine wl_u rfl (ow_y (yh_move rfl rfl) rfl rfl (kk_wl ?_))
    obtain ⟨y30, hy30, h⟩ := bd h
    refine wl_know (a.length = ((s0.set s5 (Change.mk s1 y15.step)).set s5 (Change.mk y23.kind (Step.mk x22 y23.step.after y23.step.undo))).length) (fun w hw => own_lenK 0 rfl hw) (fun hn30 => ?_)
    refine wl_u rfl (ow_y (yh_idx Tb (k := s5) rfl rfl rfl rfl (Nat.lt_of_lt_of_eq (get_lt hy30) hn30.symm) rfl rfl) rfl rfl (kk_wl ?_))
    refine wl_u rfl (ow_y (yh_field Tb rfl rfl rfl) rfl rfl (kk_wl ?_))
    refine wl_u rfl (ow_y (yh_field Tb rfl rfl rfl) rfl rfl (kk_wl ?_))
    refine wl_u rfl (ow_loadH Tb 0 2 (change_nest y30) rfl rfl rfl rfl hy30 rfl rfl (fun a33 c33 G33 F33 => kk_wl ?_))
    refine wl_u rfl (ow_y (yh_move rfl rfl) rfl rfl (kk_wl ?_))
    obtain ⟨x35, hx35, h⟩ := bd h
    refine wl_u rfl (ow_cF1 0 rfl hb61 rfl rfl (fun w hw => c_laws_markStringS N _ _ _ hx35 w (hw.at (i := 0) rfl) (hw.ndAt (i := 0) rfl)) rfl rfl (fun F35 => kk_join (l2 := (((s0.set s5 (Change.mk s1 y15.step)).set s5 (Change.mk y23.kind (Step.mk x22 y23.step.after y23.step.undo))).set s5 (Change.mk y30.kind (Step.mk y30.step.name x35.2 y30.step.undo)))) 0 0 rfl rfl rfl (fun G35 => kk_wl ?_)))
    refine wl_u rfl (ow_y (yh_assign rfl rfl) rfl rfl (kk_wl ?_))
    refine wl_nil ?_
    refine ex_seq ?_
    refine cw_seq ?_
    refine cw_region ?_
    refine wl_u rfl (ow_y (yh_move rfl rfl) rfl rfl (kk_wl ?_))
    refine wl_u rfl (ow_y (yh_move rfl rfl) rfl rfl (kk_wl ?_))
    refine wl_u rfl (ow_y (yh_move rfl rfl) rfl rfl (kk_wl ?_))
    refine wl_u rfl (ow_y (yh_remT rfl rfl rfl (by decide)) rfl rfl (kk_wl ?_))
    refine wl_u rfl (ow_y (yh_cmpI rfl rfl rfl rfl) rfl rfl (kk_wl ?_))
    obtain ⟨y41, hy41, h⟩ := bd h
    refine wl_know (a.length = (((s0.set s5 (Change.mk s1 y15.step)).set s5 (Change.mk y23.kind (Step.mk x22 y23.step.after y23.step.undo))).set s5 (Change.mk y30.kind (Step.mk y30.step.name x35.2 y30.step.undo))).length) (fun w hw => own_lenK 0 rfl hw) (fun hn41 => ?_)
    refine wl_u rfl (ow_y (yh_idx Tb (k := s5) rfl rfl rfl rfl (Nat.lt_of_lt_of_eq (get_lt hy41) hn41.symm) rfl rfl) rfl rfl (kk_wl ?_))
    refine wl_u rfl (ow_y (yh_field Tb rfl rfl rfl) rfl rfl (kk_wl ?_))
    refine wl_u rfl (ow_y (yh_field Tb rfl rfl rfl) rfl rfl (kk_wl ?_))
    refine wl_u rfl (ow_setFP Tb 0 3 (Change.mk y41.kind (Step.mk y41.step.name y41.step.after (eqb (Int.tmod x35.1 3) 0))) (fun w F cs h => by obtain ⟨a, c, rfl, h2⟩ := changeL_ow h; exact changeL_mk (Change.mk y41.kind (Step.mk y41.step.name y41.step.after (eqb (Int.tmod x35.1 3) 0))) h2) rfl rfl rfl rfl rfl rfl rfl hy41 rfl (kk_wl ?_))
    refine wl_nil ?_
    refine ex_seq ?_
    refine cw_region ?_
    refine wl_u rfl (ow_y (yh_move rfl rfl) rfl rfl (kk_wl ?_))
    refine wl_u rfl (ow_y (yh_arW rfl rfl rfl rfl) rfl rfl (kk_wl ?_))
    refine wl_u rfl (ow_y (yh_assign rfl rfl) rfl rfl (kk_wl ?_))
    refine wl_nil ?_
    refine ex_block_normal ?_
    refine ex_seq ?_
    refine cw_region ?_
    refine wl_u rfl (ow_y (yh_move rfl rfl) rfl rfl (kk_wl ?_))
    refine wl_u rfl (ow_y (yh_arI rfl rfl rfl rfl (by omega)) rfl rfl (kk_wl ?_))
    refine wl_u rfl (ow_y (yh_assign rfl rfl) rfl rfl (kk_wl ?_))
    refine wl_nil ?_
    exact ex_next [0] (hn4 (n4, ((((s0.set s5 (Change.mk s1 y15.step)).set s5 (Change.mk y23.kind (Step.mk x22 y23.step.after y23.step.undo))).set s5 (Change.mk y30.kind (Step.mk y30.step.name x35.2 y30.step.undo))).set s5 (Change.mk y41.kind (Step.mk y41.step.name y41.step.after (eqb (Int.tmod x35.1 3) 0)))), w64 (x35.1 + 1), s5 + 1, G35) (Nat.lt_succ_self _) h) ⟨rfl, rfl, rfl, trivial⟩ (by kernel_rfl)
  · skip
    replace h := bf cc1 h
    have q2 := ltb_false.1 cc1
    refine cw_exit ?_
    refine ex_then_exit ?_
    refine ex_then_exit ?_
    obtain rfl := Option.some.inj h
    have h := go_brk hk4
    refine ex_block_exit ?_
    refine ex_seq ?_
    refine cw_seq ?_
    refine cw_region ?_
    refine wl_u rfl (ow_y (yh_move rfl rfl) rfl rfl (kk_wl ?_))
    refine wl_u rfl (ow_y (yh_assign rfl rfl) rfl rfl (kk_wl ?_))
    refine wl_nil ?_
    refine ex_seq ?_
    refine cw_ret ?_
    obtain rfl := Option.some.inj h
    exact ex_r1 Tb rfl (.tmp rfl) (fun wq hq => ⟨_, rfl, hq.ext, ⟨Fs0, rfl, NewM.sel [0] hq rfl⟩⟩)

def m_laws_heldStringS_L5 (N : Nat) (a : List Str) : Nat → Int → Nat → Option (Ex (Int × Nat) (Int))
  | 0, _, _ => none
  | n + 1, s1, s5 => (bif ltb ((s5 : Nat) : Int) ((a.length : Nat) : Int) then (a[s5]?).bind fun y14 => (m_laws_markText N s1).bind fun x17 => (bif !(seq y14 x17) then some (Ex.ret (-1))
 else m_laws_heldStringS_L5 N a n (w64 (s1 + 1)) (s5 + 1))
 else some (Ex.brk (s1, s5)))

def m_laws_heldStringS (N : Nat) (a : List Str) (k : Int) : Option (Int) := (m_laws_heldStringS_L5 N a N k 0).bind fun e5 => e5.go (fun r => r) fun b5 => some b5.1

set_option maxHeartbeats 4000000 in
theorem c_laws_heldStringS (N : Nat) (a : List Str) (k : Int) (res : Int) (h : m_laws_heldStringS N a k = some res) (w : World) {a_a : Option Addr} {c_a : Nat} (h_a : strsL.rd w [] [.slice a_a a.length c_a] a) : Ret Tryz.prog 94 [.slice a_a a.length c_a, .int .i64 k] w [] fun v w' => v = .int .i64 res := by
  have mh_a := rd_max h_a
  unfold m_laws_heldStringS at h
  refine ret_enter Tryz.func94 rfl Tryz.ntmps94 rfl (Hp.refl w _) ?_
  refine cw_seq ?_
  refine cw_region ?_
  refine wl_u rfl (ow_y (yh_assign rfl rfl) rfl rfl (kk_wl ?_))
  refine wl_nil ?_
  refine ex_seq ?_
  refine cw_seq ?_
  refine cw_seq ?_
  refine cw_region ?_
  refine wl_u rfl (ow_y (yh_assign rfl rfl) rfl rfl (kk_wl ?_))
  refine wl_nil ?_
  refine ex_seq ?_
  refine cw_block ?_
  obtain ⟨e5, he5, hk5⟩ := bd h
  clear h
  refine cw_loopG (σ := Nat × Int × Nat) (fun s => m_laws_heldStringS_L5 N a s.1 s.2.1 s.2.2 = some e5) (fun s => [(0, .slice a_a a.length c_a), (1, .int .i64 s.2.1), (5, .int .i64 ((s.2.2 : Nat) : Int))]) (fun s => []) (fun s => s.1) (N, k, 0) [] he5 ⟨rfl, rfl, rfl, trivial⟩ rfl (fun KL s he5 hn5 => ?_)
  obtain ⟨n5, s1, s5⟩ := s
  simp only at he5 hn5 ⊢
  rcases n5 with _ | n5
  · exact nosome he5
  have h := he5; rw [m_laws_heldStringS_L5] at h
  refine cw_seq ?_
  refine cw_seq ?_
  refine cw_region ?_
  refine wl_u rfl (ow_y (yh_move rfl rfl) rfl rfl (kk_wl ?_))
  refine wl_u rfl (ow_y (yh_move rfl rfl) rfl rfl (kk_wl ?_))
  refine wl_u rfl (ow_y (yh_lenS Tb rfl rfl rfl rfl) rfl rfl (kk_wl ?_))
  refine wl_u rfl (ow_y (yh_cmpI rfl rfl rfl rfl) rfl rfl (kk_wl ?_))
  refine wl_nil ?_
  refine ex_seq ?_
  refine cw_split rfl (fun cc1 => ?_) (fun cc1 => ?_)
  · skip
    replace h := bt cc1 h
    have q1 := ltb_true.1 cc1
    refine cw_skip ?_
    refine ex_seq ?_
    refine cw_seq ?_
    refine cw_block ?_
    refine cw_seq ?_
    refine cw_seq ?_
    refine cw_dr [0, 1, 2, 3, 4, 6] [] [] (by kernel_rfl) ?_
    refine wd_take (i := 0) [] rfl rfl rfl rfl rfl (by kernel_rfl) (by kernel_rfl) (fun _ _ _ _ h => h) (yh_move rfl rfl) ?_
    refine wd_take (i := 1) [] rfl rfl rfl rfl rfl (by kernel_rfl) (by kernel_rfl) (fun _ _ _ _ h => h) (yh_move rfl rfl) ?_
    obtain ⟨y14, hy14, h⟩ := bd h
    obtain ⟨b14, o14, ha14⟩ := sl_addr h_a hy14
    subst ha14
    have hc14 := get_str h_a hy14
    refine wd_take (i := 2) [] rfl rfl rfl rfl rfl (by kernel_rfl) (by kernel_rfl) (fun _ _ _ _ h => h) (yh_idx Tb (k := s5) rfl rfl rfl rfl (get_lt hy14) rfl rfl) ?_
    refine wd_take (i := 3) [] rfl rfl rfl rfl rfl (by kernel_rfl) (by kernel_rfl) (fun _ _ _ _ h => h) (yh_loadA0 Tb rfl rfl rfl hc14 rfl) ?_
    refine wd_take (i := 4) [] rfl rfl rfl rfl rfl (by kernel_rfl) (by kernel_rfl) (fun _ _ _ _ h => h) (yh_move rfl rfl) ?_
    obtain ⟨x17, hx17, h⟩ := bd h
    refine wd_one 5 rfl rfl (by kernel_rfl) (ow_cV rfl hb60 rfl (fun w hw => c_laws_markText N _ _ hx17 w) rfl rfl (kk_wd [] (by kernel_rfl) ?_))
    refine wd_take (i := 6) [] rfl rfl rfl rfl rfl (by kernel_rfl) (by kernel_rfl) (fun _ _ _ _ h => h) (yh_cmpS rfl rfl rfl rfl) ?_
    refine wd_done (by kernel_rfl) ?_
    refine ex_seq ?_
    refine cw_split rfl (fun cc2 => ?_) (fun cc2 => ?_)
    · skip
      replace h := bt cc2 h
      refine cw_seq ?_
      refine cw_region ?_
      refine wl_u rfl (ow_y (yh_assign rfl rfl) rfl rfl (kk_wl ?_))
      refine wl_nil ?_
      refine ex_seq ?_
      refine cw_ret ?_
      refine ex_then_ret ?_
      refine ex_block_ret ?_
      refine ex_then_ret ?_
      refine ex_then_ret ?_
      refine ex_block_ret ?_
      refine ex_then_ret ?_
      obtain rfl := Option.some.inj h
      obtain rfl := go_ret hk5
      exact ex_r1 Tb rfl (.tmp rfl) (fun wq hq => ⟨_, rfl, hq.ext, rfl⟩)
    · skip
      replace h := bf cc2 h
      refine cw_skip ?_
      refine ex_seq ?_
      refine cw_region ?_
      refine wl_u rfl (ow_y (yh_move rfl rfl) rfl rfl (kk_wl ?_))
      refine wl_u rfl (ow_y (yh_arW rfl rfl rfl rfl) rfl rfl (kk_wl ?_))
      refine wl_u rfl (ow_y (yh_assign rfl rfl) rfl rfl (kk_wl ?_))
      refine wl_nil ?_
      refine ex_block_normal ?_
      refine ex_seq ?_
      refine cw_region ?_
      refine wl_u rfl (ow_y (yh_move rfl rfl) rfl rfl (kk_wl ?_))
      refine wl_u rfl (ow_y (yh_arI rfl rfl rfl rfl (by omega)) rfl rfl (kk_wl ?_))
      refine wl_u rfl (ow_y (yh_assign rfl rfl) rfl rfl (kk_wl ?_))
      refine wl_nil ?_
      exact ex_next [] (hn5 (n5, w64 (s1 + 1), s5 + 1) (Nat.lt_succ_self _) h) ⟨rfl, rfl, rfl, trivial⟩ (by kernel_rfl)
  · skip
    replace h := bf cc1 h
    have q2 := ltb_false.1 cc1
    refine cw_exit ?_
    refine ex_then_exit ?_
    refine ex_then_exit ?_
    obtain rfl := Option.some.inj h
    have h := go_brk hk5
    refine ex_block_exit ?_
    refine ex_seq ?_
    refine cw_seq ?_
    refine cw_region ?_
    refine wl_u rfl (ow_y (yh_move rfl rfl) rfl rfl (kk_wl ?_))
    refine wl_u rfl (ow_y (yh_assign rfl rfl) rfl rfl (kk_wl ?_))
    refine wl_nil ?_
    refine ex_seq ?_
    refine cw_ret ?_
    obtain rfl := Option.some.inj h
    exact ex_r1 Tb rfl (.tmp rfl) (fun wq hq => ⟨_, rfl, hq.ext, rfl⟩)

def m_laws_heldStepS_L5 (N : Nat) (a : List Step) : Nat → Int → Nat → Option (Ex (Int × Nat) (Int))
  | 0, _, _ => none
  | n + 1, s1, s5 => (bif ltb ((s5 : Nat) : Int) ((a.length : Nat) : Int) then ((a[s5]?).bind fun y14 => (m_laws_markText N s1).bind fun x18 => (bif !(seq y14.name x18) then some (Ex.ret (-1))
 else some (Ex.brk ())) : Option (Ex (Unit) (Int))).bind fun e109 => e109.go Ex.ret fun j109 => (a[s5]?).bind fun y24 => (m_laws_heldStringS N y24.after (w64 (s1 + 1))).bind fun x28 => (bif ltb x28 0 then some (Ex.ret (-1))
 else (bif y24.undo != (eqb (Int.tmod x28 3) 0) then some (Ex.ret (-1))
 else m_laws_heldStepS_L5 N a n (w64 (x28 + 1)) (s5 + 1)))
 else some (Ex.brk (s1, s5)))

def m_laws_heldStepS (N : Nat) (a : List Step) (k : Int) : Option (Int) := (m_laws_heldStepS_L5 N a N k 0).bind fun e5 => e5.go (fun r => r) fun b5 => some b5.1

set_option maxHeartbeats 4000000 in
theorem c_laws_heldStepS (N : Nat) (a : List Step) (k : Int) (res : Int) (h : m_laws_heldStepS N a k = some res) (w : World) {a_a : Option Addr} {c_a : Nat} (h_a : stepsL.rd w [] [.slice a_a a.length c_a] a) : Ret Tryz.prog 62 [.slice a_a a.length c_a, .int .i64 k] w [] fun v w' => v = .int .i64 res := by
  have mh_a := rd_max h_a
  unfold m_laws_heldStepS at h
  refine ret_enter Tryz.func62 rfl Tryz.ntmps62 rfl (Hp.refl w _) ?_
  refine cw_seq ?_
  refine cw_region ?_
  refine wl_u rfl (ow_y (yh_assign rfl rfl) rfl rfl (kk_wl ?_))
  refine wl_nil ?_
  refine ex_seq ?_
  refine cw_seq ?_
  refine cw_seq ?_
  refine cw_region ?_
  refine wl_u rfl (ow_y (yh_assign rfl rfl) rfl rfl (kk_wl ?_))
  refine wl_nil ?_
  refine ex_seq ?_
  refine cw_block ?_
  obtain ⟨e5, he5, hk5⟩ := bd h
  clear h
  refine cw_loopG (σ := Nat × Int × Nat) (fun s => m_laws_heldStepS_L5 N a s.1 s.2.1 s.2.2 = some e5) (fun s => [(0, .slice a_a a.length c_a), (1, .int .i64 s.2.1), (5, .int .i64 ((s.2.2 : Nat) : Int))]) (fun s => []) (fun s => s.1) (N, k, 0) [] he5 ⟨rfl, rfl, rfl, trivial⟩ rfl (fun KL s he5 hn5 => ?_)
  obtain ⟨n5, s1, s5⟩ := s
  simp only at he5 hn5 ⊢
  rcases n5 with _ | n5
  · exact nosome he5
  have h := he5; rw [m_laws_heldStepS_L5] at h
  refine cw_seq ?_
  refine cw_seq ?_
  refine cw_region ?_
  refine wl_u rfl (ow_y (yh_move rfl rfl) rfl rfl (kk_wl ?_))
  refine wl_u rfl (ow_y (yh_move rfl rfl) rfl rfl (kk_wl ?_))
  refine wl_u rfl (ow_y (yh_lenS Tb rfl rfl rfl rfl) rfl rfl (kk_wl ?_))
  refine wl_u rfl (ow_y (yh_cmpI rfl rfl rfl rfl) rfl rfl (kk_wl ?_))
  refine wl_nil ?_
  refine ex_seq ?_
  refine cw_split rfl (fun cc1 => ?_) (fun cc1 => ?_)
  · skip
    replace h := bt cc1 h
    have q1 := ltb_true.1 cc1
    refine cw_skip ?_
    refine ex_seq ?_
    refine cw_seq ?_
    refine cw_block ?_
    obtain ⟨e109, he109, hk109⟩ := bd h
    clear h
    refine cw_cut (σ := Unit × Unit) (fun s => e109 = Ex.brk s.1) (fun s => [(0, .slice a_a a.length c_a), (1, .int .i64 s1), (5, .int .i64 ((s5 : Nat) : Int))]) (fun s => []) (fun s hI => ?_) (fun KL hn109 => ?_)
    · skip
      obtain ⟨j109, _⟩ := s
      simp only at hI ⊢
      subst hI
      have h := go_brk hk109
      refine cw_seq ?_
      refine cw_region ?_
      refine wl_u rfl (ow_y (yh_move rfl rfl) rfl rfl (kk_wl ?_))
      refine wl_u rfl (ow_y (yh_arW rfl rfl rfl rfl) rfl rfl (kk_wl ?_))
      refine wl_u rfl (ow_y (yh_assign rfl rfl) rfl rfl (kk_wl ?_))
      refine wl_nil ?_
      refine ex_seq ?_
      refine cw_seq ?_
      refine cw_region ?_
      refine wl_u rfl (ow_y (yh_move rfl rfl) rfl rfl (kk_wl ?_))
      refine wl_u rfl (ow_y (yh_move rfl rfl) rfl rfl (kk_wl ?_))
      obtain ⟨y24, hy24, h⟩ := bd h
      obtain ⟨b24, o24, ha24⟩ := sl_addr h_a hy24
      subst ha24
      obtain ⟨a24, e24, hc24, hf24⟩ := get_step h_a hy24
      have mx24 := rd_max hf24
      refine wl_u rfl (ow_y (yh_idx Tb (k := s5) rfl rfl rfl rfl (get_lt hy24) rfl rfl) rfl rfl (kk_wl ?_))
      refine wl_u rfl (ow_y (yh_field Tb rfl rfl rfl) rfl rfl (kk_wl ?_))
      refine wl_u rfl (ow_y (yh_loadAF Tb (j := 1) rfl rfl rfl hc24 rfl) rfl rfl (kk_wl ?_))
      refine wl_u rfl (ow_y (yh_move rfl rfl) rfl rfl (kk_wl ?_))
      obtain ⟨x28, hx28, h⟩ := bd h
      refine wl_u rfl (ow_cV rfl hb94 rfl (fun w hw => c_laws_heldStringS N _ _ _ hx28 w (Lay.at_ hf24 hw)) rfl rfl (kk_wl ?_))
      refine wl_u rfl (ow_y (yh_assign rfl rfl) rfl rfl (kk_wl ?_))
      refine wl_nil ?_
      refine ex_seq ?_
      refine cw_seq ?_
      refine cw_seq ?_
      refine cw_region ?_
      refine wl_u rfl (ow_y (yh_move rfl rfl) rfl rfl (kk_wl ?_))
      refine wl_u rfl (ow_y (yh_cmpI rfl rfl rfl rfl) rfl rfl (kk_wl ?_))
      refine wl_nil ?_
      refine ex_seq ?_
      refine cw_split rfl (fun cc2 => ?_) (fun cc2 => ?_)
      · skip
        replace h := bt cc2 h
        have q2 := ltb_true.1 cc2
        refine cw_seq ?_
        refine cw_region ?_
        refine wl_u rfl (ow_y (yh_assign rfl rfl) rfl rfl (kk_wl ?_))
        refine wl_nil ?_
        refine ex_seq ?_
        refine cw_ret ?_
        refine ex_then_ret ?_
        refine ex_block_ret ?_
        refine ex_then_ret ?_
        refine ex_then_ret ?_
        refine ex_block_ret ?_
        refine ex_then_ret ?_
        obtain rfl := Option.some.inj h
        obtain rfl := go_ret hk5
        exact ex_r1 Tb rfl (.tmp rfl) (fun wq hq => ⟨_, rfl, hq.ext, rfl⟩)
      · skip
        replace h := bf cc2 h
        have q3 := ltb_false.1 cc2
        refine cw_skip ?_
        refine ex_seq ?_
        refine cw_seq ?_
        refine cw_seq ?_
        refine cw_region ?_
        refine wl_u rfl (ow_y (yh_move rfl rfl) rfl rfl (kk_wl ?_))
        refine wl_u rfl (ow_y (yh_move rfl rfl) rfl rfl (kk_wl ?_))
        refine wl_u rfl (ow_y (yh_idx Tb (k := s5) rfl rfl rfl rfl (get_lt hy24) rfl rfl) rfl rfl (kk_wl ?_))
        refine wl_u rfl (ow_y (yh_field Tb rfl rfl rfl) rfl rfl (kk_wl ?_))
        refine wl_u rfl (ow_y (yh_loadAF Tb (j := 2) rfl rfl rfl hc24 rfl) rfl rfl (kk_wl ?_))
        refine wl_u rfl (ow_y (yh_move rfl rfl) rfl rfl (kk_wl ?_))
        refine wl_u rfl (ow_y (yh_remT rfl rfl rfl (by decide)) rfl rfl (kk_wl ?_))
        refine wl_u rfl (ow_y (yh_cmpI rfl rfl rfl rfl) rfl rfl (kk_wl ?_))
        refine wl_u rfl (ow_y (yh_cmpB rfl rfl rfl rfl (by kernel_rfl)) rfl rfl (kk_wl ?_))
        refine wl_nil ?_
        refine ex_seq ?_
        refine cw_split rfl (fun cc3 => ?_) (fun cc3 => ?_)
        · skip
          replace h := bt cc3 h
          refine cw_seq ?_
          refine cw_region ?_
          refine wl_u rfl (ow_y (yh_assign rfl rfl) rfl rfl (kk_wl ?_))
          refine wl_nil ?_
          refine ex_seq ?_
          refine cw_ret ?_
          refine ex_then_ret ?_
          refine ex_block_ret ?_
          refine ex_then_ret ?_
          refine ex_then_ret ?_
          refine ex_block_ret ?_
          refine ex_then_ret ?_
          obtain rfl := Option.some.inj h
          obtain rfl := go_ret hk5
          exact ex_r1 Tb rfl (.tmp rfl) (fun wq hq => ⟨_, rfl, hq.ext, rfl⟩)
        · skip
          replace h := bf cc3 h
          refine cw_skip ?_
          refine ex_seq ?_
          refine cw_region ?_
          refine wl_u rfl (ow_y (yh_move rfl rfl) rfl rfl (kk_wl ?_))
          refine wl_u rfl (ow_y (yh_arW rfl rfl rfl rfl) rfl rfl (kk_wl ?_))
          refine wl_u rfl (ow_y (yh_assign rfl rfl) rfl rfl (kk_wl ?_))
          refine wl_nil ?_
          refine ex_block_normal ?_
          refine ex_seq ?_
          refine cw_region ?_
          refine wl_u rfl (ow_y (yh_move rfl rfl) rfl rfl (kk_wl ?_))
          refine wl_u rfl (ow_y (yh_arI rfl rfl rfl rfl (by omega)) rfl rfl (kk_wl ?_))
          refine wl_u rfl (ow_y (yh_assign rfl rfl) rfl rfl (kk_wl ?_))
          refine wl_nil ?_
          exact ex_next [] (hn5 (n5, w64 (x28 + 1), s5 + 1) (Nat.lt_succ_self _) h) ⟨rfl, rfl, rfl, trivial⟩ (by kernel_rfl)
    · skip
      have h := he109
      refine cw_seq ?_
      refine cw_dr [0, 1, 2, 3, 4, 5, 7] [] [] (by kernel_rfl) ?_
      refine wd_take (i := 0) [] rfl rfl rfl rfl rfl (by kernel_rfl) (by kernel_rfl) (fun _ _ _ _ h => h) (yh_move rfl rfl) ?_
      refine wd_take (i := 1) [] rfl rfl rfl rfl rfl (by kernel_rfl) (by kernel_rfl) (fun _ _ _ _ h => h) (yh_move rfl rfl) ?_
      obtain ⟨y14, hy14, h⟩ := bd h
      obtain ⟨b14, o14, ha14⟩ := sl_addr h_a hy14
      subst ha14
      obtain ⟨a14, e14, hc14, hf14⟩ := get_step h_a hy14
      have mx14 := rd_max hf14
      refine wd_take (i := 2) [] rfl rfl rfl rfl rfl (by kernel_rfl) (by kernel_rfl) (fun _ _ _ _ h => h) (yh_idx Tb (k := s5) rfl rfl rfl rfl (get_lt hy14) rfl rfl) ?_
      refine wd_take (i := 3) [] rfl rfl rfl rfl rfl (by kernel_rfl) (by kernel_rfl) (fun _ _ _ _ h => h) (yh_field Tb rfl rfl rfl) ?_
      refine wd_take (i := 4) [] rfl rfl rfl rfl rfl (by kernel_rfl) (by kernel_rfl) (fun _ _ _ _ h => h) (yh_loadAF Tb (j := 0) rfl rfl rfl hc14 rfl) ?_
      refine wd_take (i := 5) [] rfl rfl rfl rfl rfl (by kernel_rfl) (by kernel_rfl) (fun _ _ _ _ h => h) (yh_move rfl rfl) ?_
      obtain ⟨x18, hx18, h⟩ := bd h
      refine wd_one 6 rfl rfl (by kernel_rfl) (ow_cV rfl hb60 rfl (fun w hw => c_laws_markText N _ _ hx18 w) rfl rfl (kk_wd [] (by kernel_rfl) ?_))
      refine wd_take (i := 7) [] rfl rfl rfl rfl rfl (by kernel_rfl) (by kernel_rfl) (fun _ _ _ _ h => h) (yh_cmpS rfl rfl rfl rfl) ?_
      refine wd_done (by kernel_rfl) ?_
      refine ex_seq ?_
      refine cw_split rfl (fun cc4 => ?_) (fun cc4 => ?_)
      · skip
        replace h := bt cc4 h
        refine cw_seq ?_
        refine cw_region ?_
        refine wl_u rfl (ow_y (yh_assign rfl rfl) rfl rfl (kk_wl ?_))
        refine wl_nil ?_
        refine ex_seq ?_
        refine cw_ret ?_
        refine ex_then_ret ?_
        refine ex_block_ret ?_
        refine ex_then_ret ?_
        refine ex_then_ret ?_
        refine ex_block_ret ?_
        refine ex_then_ret ?_
        obtain rfl := Option.some.inj h
        obtain rfl := go_ret hk109
        obtain rfl := go_ret hk5
        exact ex_r1 Tb rfl (.tmp rfl) (fun wq hq => ⟨_, rfl, hq.ext, rfl⟩)
      · skip
        replace h := bf cc4 h
        refine cw_skip ?_
        obtain rfl := Option.some.inj h
        exact ex_next [] (hn109 ((), ()) rfl) ⟨rfl, rfl, rfl, trivial⟩ (by kernel_rfl)
  · skip
    replace h := bf cc1 h
    have q4 := ltb_false.1 cc1
    refine cw_exit ?_
    refine ex_then_exit ?_
    refine ex_then_exit ?_
    obtain rfl := Option.some.inj h
    have h := go_brk hk5
    refine ex_block_exit ?_
    refine ex_seq ?_
    refine cw_seq ?_
    refine cw_region ?_
    refine wl_u rfl (ow_y (yh_move rfl rfl) rfl rfl (kk_wl ?_))
    refine wl_u rfl (ow_y (yh_assign rfl rfl) rfl rfl (kk_wl ?_))
    refine wl_nil ?_
    refine ex_seq ?_
    refine cw_ret ?_
    obtain rfl := Option.some.inj h
    exact ex_r1 Tb rfl (.tmp rfl) (fun wq hq => ⟨_, rfl, hq.ext, rfl⟩)

def m_laws_heldFlow (N : Nat) (a : Flow) (k : Int) : Option (Int) := (m_laws_heldStepS N a.steps k).bind fun x8 => (bif ltb x8 0 then some (-1)
 else some x8)

set_option maxHeartbeats 4000000 in
theorem c_laws_heldFlow (N : Nat) (a : Flow) (k : Int) (res : Int) (h : m_laws_heldFlow N a k = some res) (w : World) {a_a_steps : Option Addr} {c_a_steps : Nat} (h_a_steps : stepsL.rd w [] [.slice a_a_steps a.steps.length c_a_steps] a.steps) : Ret Tryz.prog 22 [.agg #[.int .i64 a.ver, .slice a_a_steps a.steps.length c_a_steps], .int .i64 k] w [] fun v w' => v = .int .i64 res := by
  have mh_a_steps := rd_max h_a_steps
  unfold m_laws_heldFlow at h
  refine ret_enter Tryz.func22 rfl Tryz.ntmps22 rfl (Hp.refl w _) ?_
  refine cw_seq ?_
  refine cw_region ?_
  refine wl_u rfl (ow_boxA rfl rfl rfl rfl (fun g2 => kk_wl ?_))
  refine wl_u rfl (ow_y (yh_assign rfl rfl) rfl rfl (kk_wl ?_))
  refine wl_nil ?_
  refine ex_seq ?_
  refine cw_seq ?_
  refine cw_region ?_
  refine wl_u rfl (ow_y (yh_field Tb rfl rfl rfl) rfl rfl (kk_wl ?_))
  refine wl_u rfl (ow_y (yh_loadB Tb (k := 0) rfl rfl rfl rfl rfl) rfl rfl (kk_wl ?_))
  refine wl_u rfl (ow_y (yh_move rfl rfl) rfl rfl (kk_wl ?_))
  obtain ⟨x8, hx8, h⟩ := bd h
  refine wl_u rfl (ow_cV rfl hb62 rfl (fun w hw => c_laws_heldStepS N _ _ _ hx8 w (Lay.at_ h_a_steps hw)) rfl rfl (kk_wl ?_))
  refine wl_u rfl (ow_y (yh_assign rfl rfl) rfl rfl (kk_wl ?_))
  refine wl_nil ?_
  refine ex_seq ?_
  refine cw_seq ?_
  refine cw_seq ?_
  refine cw_region ?_
  refine wl_u rfl (ow_y (yh_move rfl rfl) rfl rfl (kk_wl ?_))
  refine wl_u rfl (ow_y (yh_cmpI rfl rfl rfl rfl) rfl rfl (kk_wl ?_))
  refine wl_nil ?_
  refine ex_seq ?_
  refine cw_split rfl (fun cc1 => ?_) (fun cc1 => ?_)
  · skip
    replace h := bt cc1 h
    have q1 := ltb_true.1 cc1
    refine cw_seq ?_
    refine cw_region ?_
    refine wl_u rfl (ow_y (yh_assign rfl rfl) rfl rfl (kk_wl ?_))
    refine wl_nil ?_
    refine ex_seq ?_
    refine cw_ret ?_
    refine ex_then_ret ?_
    obtain rfl := Option.some.inj h
    exact ex_r1 Tb rfl (.tmp rfl) (fun wq hq => ⟨_, rfl, hq.ext, rfl⟩)
  · skip
    replace h := bf cc1 h
    have q2 := ltb_false.1 cc1
    refine cw_skip ?_
    refine ex_seq ?_
    refine cw_seq ?_
    refine cw_region ?_
    refine wl_u rfl (ow_y (yh_move rfl rfl) rfl rfl (kk_wl ?_))
    refine wl_u rfl (ow_y (yh_assign rfl rfl) rfl rfl (kk_wl ?_))
    refine wl_nil ?_
    refine ex_seq ?_
    refine cw_ret ?_
    obtain rfl := Option.some.inj h
    exact ex_r1 Tb rfl (.tmp rfl) (fun wq hq => ⟨_, rfl, hq.ext, rfl⟩)

def m_laws_FnExactFlowChanges (N : Nat) (u0 : Flow) (u1 : List Change) : Option (Bool) := (m_laws_szFlow N u0 1048576).bind fun x19 => (bif ltb x19 0 then some true
 else (m_laws_szChangeS N u1 x19).bind fun x24 => (bif ltb x24 0 then some true
 else (m_laws_toFlow N u0).bind fun x29 => (m_laws_toChangeS N u1).bind fun x31 => (m_spec_FlowChanges N x29 x31).bind fun x32 => (m_laws_toFlow N u0).bind fun x36 => (m_laws_toChangeS N u1).bind fun x38 => (m_impl_FlowChanges N x36 x38).bind fun x42 => (m_laws_eqFlow N x42.1 x32.1).bind fun x47 => (bif !x47 then some false
 else (bif x42.2 != x32.2 then some false
 else ((m_laws_toFlow N u0).bind fun x56 => (m_laws_eqFlow N x36 x56).bind fun x57 => (bif !x57 then some (Ex.ret false)
 else some (Ex.brk ())) : Option (Ex (Unit) (Bool))).bind fun e119 => e119.go (fun r => r) fun j119 => (m_laws_toChangeS N u1).bind fun x61 => (m_laws_eqChangeS N x38 x61).bind fun x62 => (bif !x62 then some false
 else (m_laws_markFlow N x36 1).bind fun x66 => (m_laws_markChangeS N x38 x66.1).bind fun x69 => (bif ltb x69.1 0 then some false
 else (m_laws_eqFlow N x42.1 x32.1).bind fun x75 => (bif !x75 then some false
 else (m_laws_markFlow N x42.1 1).bind fun x85 => (m_laws_heldFlow N (Flow.mk x42.1.ver x85.2) 1).bind fun x88 => (bif ltb x88 0 then some false
 else (bif !(eqb x88 x85.1) then some false
 else (m_laws_toFlow N u0).bind fun x96 => (m_laws_toChangeS N u1).bind fun x98 => (m_impl_FlowChanges N x96 x98).bind fun x99 => (m_laws_eqFlow N x99.1 x32.1).bind fun x104 => (bif !x104 then some false
 else (bif x99.2 != x32.2 then some false
 else (m_laws_heldFlow N (Flow.mk x42.1.ver x85.2) 1).bind fun x113 => (bif ltb x113 0 then some false
 else (bif !(eqb x113 x85.1) then some false
 else some true)))))))))))))

set_option maxHeartbeats 4000000 in
theorem c_laws_FnExactFlowChanges (N : Nat) (u0 : Flow) (u1 : List Change) (res : Bool) (h : m_laws_FnExactFlowChanges N u0 u1 = some res) (w : World) {a_u0_steps a_u1 : Option Addr} {c_u0_steps c_u1 : Nat} (h_u0_steps : stepsL.rd w [] [.slice a_u0_steps u0.steps.length c_u0_steps] u0.steps) (h_u1 : changesL.rd w [] [.slice a_u1 u1.length c_u1] u1) : Ret Tryz.prog 4 [.agg #[.int .i64 u0.ver, .slice a_u0_steps u0.steps.length c_u0_steps], .slice a_u1 u1.length c_u1] w [] fun v w' => v = .bool res := by
  have mh_u0_steps := rd_max h_u0_steps
  have mh_u1 := rd_max h_u1
  unfold m_laws_FnExactFlowChanges at h
  refine ret_enter Tryz.func4 rfl Tryz.ntmps4 rfl (Hp.refl w _) ?_
  refine cw_seq ?_
  refine cw_region ?_
  refine wl_u rfl (ow_boxA rfl rfl rfl rfl (fun g2 => kk_wl ?_))
  refine wl_u rfl (ow_y (yh_assign rfl rfl) rfl rfl (kk_wl ?_))
  refine wl_nil ?_
  refine ex_seq ?_
  refine cw_seq ?_
  refine cw_region ?_
  refine wl_u rfl (ow_y (yh_assign rfl rfl) rfl rfl (kk_wl ?_))
  refine wl_nil ?_
  refine ex_seq ?_
  refine cw_seq ?_
  refine cw_region ?_
  refine wl_u rfl (ow_y (yh_loadBA Tb (k := 0) rfl rfl rfl rfl rfl rfl) rfl rfl (kk_wl ?_))
  refine wl_u rfl (ow_y (yh_move rfl rfl) rfl rfl (kk_wl ?_))
  obtain ⟨x19, hx19, h⟩ := bd h
  refine wl_u rfl (ow_cV rfl hb13 rfl (fun w hw => c_laws_szFlow N _ _ _ hx19 w (Lay.at_ h_u0_steps hw)) rfl rfl (kk_wl ?_))
  refine wl_u rfl (ow_y (yh_assign rfl rfl) rfl rfl (kk_wl ?_))
  refine wl_nil ?_
  refine ex_seq ?_
  refine cw_seq ?_
  refine cw_seq ?_
  refine cw_region ?_
  refine wl_u rfl (ow_y (yh_move rfl rfl) rfl rfl (kk_wl ?_))
  refine wl_u rfl (ow_y (yh_cmpI rfl rfl rfl rfl) rfl rfl (kk_wl ?_))
  refine wl_nil ?_
  refine ex_seq ?_
  refine cw_split rfl (fun cc1 => ?_) (fun cc1 => ?_)
  · skip
    replace h := bt cc1 h
    have q1 := ltb_true.1 cc1
    refine cw_seq ?_
    refine cw_region ?_
    refine wl_u rfl (ow_y (yh_assign rfl rfl) rfl rfl (kk_wl ?_))
    refine wl_nil ?_
    refine ex_seq ?_
    refine cw_ret ?_
    refine ex_then_ret ?_
    obtain rfl := Option.some.inj h
    exact ex_r1 Tb rfl (.tmp rfl) (fun wq hq => ⟨_, rfl, hq.ext, rfl⟩)
  · skip
    replace h := bf cc1 h
    have q2 := ltb_false.1 cc1
    refine cw_skip ?_
    refine ex_seq ?_
    refine cw_seq ?_
    refine cw_region ?_
    refine wl_u rfl (ow_y (yh_move rfl rfl) rfl rfl (kk_wl ?_))
    refine wl_u rfl (ow_y (yh_move rfl rfl) rfl rfl (kk_wl ?_))
    obtain ⟨x24, hx24, h⟩ := bd h
    refine wl_u rfl (ow_cV rfl hb14 rfl (fun w hw => c_laws_szChangeS N _ _ _ hx24 w (Lay.at_ h_u1 hw)) rfl rfl (kk_wl ?_))
    refine wl_u rfl (ow_y (yh_assign rfl rfl) rfl rfl (kk_wl ?_))
    refine wl_nil ?_
    refine ex_seq ?_
    refine cw_seq ?_
    refine cw_seq ?_
    refine cw_region ?_
    refine wl_u rfl (ow_y (yh_move rfl rfl) rfl rfl (kk_wl ?_))
    refine wl_u rfl (ow_y (yh_cmpI rfl rfl rfl rfl) rfl rfl (kk_wl ?_))
    refine wl_nil ?_
    refine ex_seq ?_
    refine cw_split rfl (fun cc2 => ?_) (fun cc2 => ?_)
    · skip
      replace h := bt cc2 h
      have q3 := ltb_true.1 cc2
      refine cw_seq ?_
      refine cw_region ?_
      refine wl_u rfl (ow_y (yh_assign rfl rfl) rfl rfl (kk_wl ?_))
      refine wl_nil ?_
      refine ex_seq ?_
      refine cw_ret ?_
      refine ex_then_ret ?_
      obtain rfl := Option.some.inj h
      exact ex_r1 Tb rfl (.tmp rfl) (fun wq hq => ⟨_, rfl, hq.ext, rfl⟩)
    · skip
      replace h := bf cc2 h
      have q4 := ltb_false.1 cc2
      refine cw_skip ?_
      refine ex_seq ?_
      refine cw_seq ?_
      refine cw_region ?_
      refine wl_u rfl (ow_y (yh_loadBA Tb (k := 0) rfl rfl rfl rfl rfl rfl) rfl rfl (kk_wl ?_))
      obtain ⟨x29, hx29, h⟩ := bd h
      refine wl_u rfl (ow_cN1 rfl hb16 rfl (fun w hw => c_laws_toFlow N _ _ hx29 w (Lay.at_ h_u0_steps hw)) rfl rfl (fun a29 c29 F29 => kk_wl ?_))
      refine wl_u rfl (ow_y (yh_move rfl rfl) rfl rfl (kk_wl ?_))
      obtain ⟨x31, hx31, h⟩ := bd h
      refine wl_u rfl (ow_cN1 rfl hb17 rfl (fun w hw => c_laws_toChangeS N _ _ hx31 w (Lay.at_ h_u1 hw)) rfl rfl (fun a31 c31 F31 => kk_wl ?_))
      obtain ⟨x32, hx32, h⟩ := bd h
      refine wl_u rfl (ow_cN1 rfl hb15 rfl (fun w hw => c_spec_FlowChanges N _ _ _ hx32 w (rdo (A := stepsL) 1 rfl hw) (rdo (A := changesL) 0 rfl hw)) rfl rfl (fun a32 c32 F32 => kk_wl ?_))
      refine wl_u rfl (ow_y (yh_move rfl rfl) rfl rfl (kk_wl ?_))
      refine wl_u rfl (ow_y (yh_extract rfl rfl rfl) rfl rfl (kk_wl ?_))
      refine wl_u rfl (ow_y (yh_extract rfl rfl rfl) rfl rfl (kk_wl ?_))
      refine wl_u rfl (ow_allocA Tb rfl rfl rfl rfl (fun g6 => kk_wl ?_))
      refine wl_u rfl (ow_storeA Tb (k := 0) rfl rfl rfl rfl rfl rfl rfl rfl rfl (kk_wl ?_))
      refine wl_u rfl (ow_y (yh_assign rfl rfl) rfl rfl (kk_wl ?_))
      refine wl_nil ?_
      refine ex_seq ?_
      refine cw_seq ?_
      refine cw_region ?_
      refine wl_u rfl (ow_y (yh_loadBA Tb (k := 4) rfl rfl rfl rfl rfl rfl) rfl rfl (kk_wl ?_))
      obtain ⟨x36, hx36, h⟩ := bd h
      refine wl_u rfl (ow_cN1 rfl hb16 rfl (fun w hw => c_laws_toFlow N _ _ hx36 w (Lay.at_ h_u0_steps hw)) rfl rfl (fun a36 c36 F36 => kk_wl ?_))
      refine wl_u rfl (ow_allocA Tb rfl rfl rfl rfl (fun g8 => kk_wl ?_))
      refine wl_u rfl (ow_storeA Tb (k := 0) rfl rfl rfl rfl rfl rfl rfl rfl rfl (kk_wl ?_))
      refine wl_nil ?_
      refine ex_seq ?_
      refine cw_seq ?_
      refine cw_region ?_
      refine wl_u rfl (ow_y (yh_move rfl rfl) rfl rfl (kk_wl ?_))
      obtain ⟨x38, hx38, h⟩ := bd h
      refine wl_u rfl (ow_cN1 rfl hb17 rfl (fun w hw => c_laws_toChangeS N _ _ hx38 w (Lay.at_ h_u1 hw)) rfl rfl (fun a38 c38 F38 => kk_wl ?_))
      refine wl_u rfl (ow_y (yh_assign rfl rfl) rfl rfl (kk_wl ?_))
      refine wl_nil ?_
      refine ex_seq ?_
      refine cw_seq ?_
      refine cw_region ?_
      refine wl_u rfl (ow_y (yh_loadBA Tb (k := 1) rfl rfl rfl rfl rfl rfl) rfl rfl (kk_wl ?_))
      refine wl_u rfl (ow_y (yh_move rfl rfl) rfl rfl (kk_wl ?_))
      obtain ⟨x42, hx42, h⟩ := bd h
      refine wl_u rfl (ow_cN1 rfl hb11 rfl (fun w hw => c_impl_FlowChanges N _ _ _ hx42 w (rdo (A := stepsL) 2 rfl hw) (rdo (A := changesL) 0 rfl hw)) rfl rfl (fun a42 c42 F42 => kk_wl ?_))
      refine wl_u rfl (ow_y (yh_move rfl rfl) rfl rfl (kk_wl ?_))
      refine wl_u rfl (ow_y (yh_extract rfl rfl rfl) rfl rfl (kk_wl ?_))
      refine wl_u rfl (ow_y (yh_extract rfl rfl rfl) rfl rfl (kk_wl ?_))
      refine wl_u rfl (ow_allocA Tb rfl rfl rfl rfl (fun g10 => kk_wl ?_))
      refine wl_u rfl (ow_storeA Tb (k := 0) rfl rfl rfl rfl rfl rfl rfl rfl rfl (kk_wl ?_))
      refine wl_u rfl (ow_y (yh_assign rfl rfl) rfl rfl (kk_wl ?_))
      refine wl_nil ?_
      refine ex_seq ?_
      refine cw_seq ?_
      refine cw_seq ?_
      refine cw_region ?_
      refine wl_u rfl (ow_y (yh_loadBA Tb (k := 0) rfl rfl rfl rfl rfl rfl) rfl rfl (kk_wl ?_))
      refine wl_u rfl (ow_y (yh_loadBA Tb (k := 5) rfl rfl rfl rfl rfl rfl) rfl rfl (kk_wl ?_))
      obtain ⟨x47, hx47, h⟩ := bd h
      refine wl_u rfl (ow_cV rfl hb18 rfl (fun w hw => c_laws_eqFlow N _ _ _ hx47 w (rdo (A := stepsL) 1 rfl hw) (rdo (A := stepsL) 6 rfl hw)) rfl rfl (kk_wl ?_))
      refine wl_u rfl (ow_y (yh_not rfl rfl) rfl rfl (kk_wl ?_))
      refine wl_u rfl (ow_y (yh_move rfl rfl) rfl rfl (kk_wl ?_))
      refine wl_s rfl rfl (fun cc3 => ?_) (fun cc3 => ?_)
      · skip
        replace h := bt cc3 h
        refine wl_n rfl rfl rfl rfl ?_
        refine wl_n rfl rfl rfl rfl ?_
        refine wl_n rfl rfl rfl rfl ?_
        refine wl_u rfl (ow_y (yh_pickT rfl rfl rfl) rfl rfl (kk_wl ?_))
        refine wl_nil ?_
        refine ex_seq ?_
        refine cw_true rfl ?_
        refine cw_seq ?_
        refine cw_region ?_
        refine wl_u rfl (ow_y (yh_assign rfl rfl) rfl rfl (kk_wl ?_))
        refine wl_nil ?_
        refine ex_seq ?_
        refine cw_ret ?_
        refine ex_then_ret ?_
        obtain rfl := Option.some.inj h
        exact ex_r1 Tb rfl (.tmp rfl) (fun wq hq => ⟨_, rfl, hq.ext, rfl⟩)
      · skip
        replace h := bf cc3 h
        refine wl_g rfl rfl (ow_y (yh_move rfl rfl) rfl rfl (kk_wl ?_))
        refine wl_g rfl rfl (ow_y (yh_move rfl rfl) rfl rfl (kk_wl ?_))
        refine wl_g rfl rfl (ow_y (yh_cmpB rfl rfl rfl rfl (by kernel_rfl)) rfl rfl (kk_wl ?_))
        refine wl_u rfl (ow_y (yh_pickF rfl rfl rfl) rfl rfl (kk_wl ?_))
        refine wl_nil ?_
        refine ex_seq ?_
        refine cw_split rfl (fun cc4 => ?_) (fun cc4 => ?_)
        · skip
          replace h := bt cc4 h
          refine cw_seq ?_
          refine cw_region ?_
          refine wl_u rfl (ow_y (yh_assign rfl rfl) rfl rfl (kk_wl ?_))
          refine wl_nil ?_
          refine ex_seq ?_
          refine cw_ret ?_
          refine ex_then_ret ?_
          obtain rfl := Option.some.inj h
          exact ex_r1 Tb rfl (.tmp rfl) (fun wq hq => ⟨_, rfl, hq.ext, rfl⟩)
        · skip
          replace h := bf cc4 h
          refine cw_skip ?_
          refine ex_seq ?_
          obtain ⟨e119, he119, hk119⟩ := bd h
          clear h
          refine cw_cut (σ := Unit × Unit) (fun s => e119 = Ex.brk s.1) (fun s => [(1, .slice a_u1 u1.length c_u1), (2, .pointer (some ⟨g2, 0, none⟩)), (6, .pointer (some ⟨g6, 0, none⟩)), (7, .bool x32.2), (8, .pointer (some ⟨g8, 0, none⟩)), (9, .slice a38 x38.length c38), (10, .pointer (some ⟨g10, 0, none⟩)), (11, .bool x42.2)]) (fun s => [blkC g2 38 [.int .i64 u0.ver, .slice a_u0_steps u0.steps.length c_u0_steps], blkC g6 25 [.int .i64 x32.1.ver, .slice a32 x32.1.steps.length c32], owC stepsL F32 [.slice a32 x32.1.steps.length c32] x32.1.steps, blkC g8 25 [.int .i64 x36.ver, .slice a36 x36.steps.length c36], owC stepsL F36 [.slice a36 x36.steps.length c36] x36.steps, owC changesL F38 [.slice a38 x38.length c38] x38, blkC g10 25 [.int .i64 x42.1.ver, .slice a42 x42.1.steps.length c42], owC stepsL F42 [.slice a42 x42.1.steps.length c42] x42.1.steps]) (fun s hI => ?_) (fun KL hn119 => ?_)
          · skip
            obtain ⟨j119, _⟩ := s
            simp only at hI ⊢
            subst hI
            have h := go_brk hk119
            refine cw_seq ?_
            refine cw_seq ?_
            refine cw_region ?_
            refine wl_u rfl (ow_y (yh_move rfl rfl) rfl rfl (kk_wl ?_))
            refine wl_u rfl (ow_y (yh_move rfl rfl) rfl rfl (kk_wl ?_))
            obtain ⟨x61, hx61, h⟩ := bd h
            refine wl_u rfl (ow_cN1 rfl hb17 rfl (fun w hw => c_laws_toChangeS N _ _ hx61 w (Lay.at_ h_u1 hw)) rfl rfl (fun a61 c61 F61 => kk_wl ?_))
            obtain ⟨x62, hx62, h⟩ := bd h
            refine wl_u rfl (ow_cV rfl hb19 rfl (fun w hw => c_laws_eqChangeS N _ _ _ hx62 w (rdo (A := changesL) 6 rfl hw) (rdo (A := changesL) 0 rfl hw)) rfl rfl (kk_wl ?_))
            refine wl_u rfl (ow_y (yh_not rfl rfl) rfl rfl (kk_wl ?_))
            refine wl_nil ?_
            refine ex_seq ?_
            refine cw_split rfl (fun cc5 => ?_) (fun cc5 => ?_)
            · skip
              replace h := bt cc5 h
              refine cw_seq ?_
              refine cw_region ?_
              refine wl_u rfl (ow_y (yh_assign rfl rfl) rfl rfl (kk_wl ?_))
              refine wl_nil ?_
              refine ex_seq ?_
              refine cw_ret ?_
              refine ex_then_ret ?_
              obtain rfl := Option.some.inj h
              exact ex_r1 Tb rfl (.tmp rfl) (fun wq hq => ⟨_, rfl, hq.ext, rfl⟩)
            · skip
              replace h := bf cc5 h
              refine cw_skip ?_
              refine ex_seq ?_
              refine cw_seq ?_
              refine cw_region ?_
              refine wl_u rfl (ow_y (yh_assign rfl rfl) rfl rfl (kk_wl ?_))
              refine wl_nil ?_
              refine ex_seq ?_
              refine cw_seq ?_
              refine cw_region ?_
              refine wl_u rfl (ow_y (yh_loadBA Tb (k := 4) rfl rfl rfl rfl rfl rfl) rfl rfl (kk_wl ?_))
              refine wl_u rfl (ow_y (yh_move rfl rfl) rfl rfl (kk_wl ?_))
              obtain ⟨x66, hx66, h⟩ := bd h
              refine wl_u rfl (ow_cF1 5 rfl hb20 rfl rfl (fun w hw => c_laws_markFlow N _ _ _ hx66 w (hw.at (i := 5) rfl) (hw.ndAt (i := 5) rfl)) rfl rfl (fun F66 => kk_wl ?_))
              refine wl_u rfl (ow_y (yh_assign rfl rfl) rfl rfl (kk_wl ?_))
              refine wl_nil ?_
              refine ex_seq ?_
              refine cw_seq ?_
              refine cw_region ?_
              refine wl_u rfl (ow_y (yh_move rfl rfl) rfl rfl (kk_wl ?_))
              refine wl_u rfl (ow_y (yh_move rfl rfl) rfl rfl (kk_wl ?_))
              obtain ⟨x69, hx69, h⟩ := bd h
              refine wl_u rfl (ow_cF1 6 rfl hb21 rfl rfl (fun w hw => c_laws_markChangeS N _ _ _ hx69 w (hw.at (i := 6) rfl) (hw.ndAt (i := 6) rfl)) rfl rfl (fun F69 => kk_wl ?_))
              refine wl_u rfl (ow_y (yh_assign rfl rfl) rfl rfl (kk_wl ?_))
              refine wl_nil ?_
              refine ex_seq ?_
              refine cw_seq ?_
              refine cw_seq ?_
              refine cw_region ?_
              refine wl_u rfl (ow_y (yh_move rfl rfl) rfl rfl (kk_wl ?_))
              refine wl_u rfl (ow_y (yh_cmpI rfl rfl rfl rfl) rfl rfl (kk_wl ?_))
              refine wl_u rfl (ow_y (yh_move rfl rfl) rfl rfl (kk_wl ?_))
              refine wl_s rfl rfl (fun cc6 => ?_) (fun cc6 => ?_)
              · skip
                replace h := bt cc6 h
                have q5 := ltb_true.1 cc6
                refine wl_n rfl rfl rfl rfl ?_
                refine wl_n rfl rfl rfl rfl ?_
                refine wl_n rfl rfl rfl rfl ?_
                refine wl_n rfl rfl rfl rfl ?_
                refine wl_u rfl (ow_y (yh_pickT rfl rfl rfl) rfl rfl (kk_wl ?_))
                refine wl_u rfl (ow_y (yh_move rfl rfl) rfl rfl (kk_wl ?_))
                refine wl_s rfl rfl (fun _ => ?_) nofun
                refine wl_n rfl rfl rfl rfl ?_
                refine wl_n rfl rfl rfl rfl ?_
                refine wl_n rfl rfl rfl rfl ?_
                refine wl_u rfl (ow_y (yh_pickT rfl rfl rfl) rfl rfl (kk_wl ?_))
                refine wl_nil ?_
                refine ex_seq ?_
                refine cw_true rfl ?_
                refine cw_seq ?_
                refine cw_region ?_
                refine wl_u rfl (ow_y (yh_assign rfl rfl) rfl rfl (kk_wl ?_))
                refine wl_nil ?_
                refine ex_seq ?_
                refine cw_ret ?_
                refine ex_then_ret ?_
                obtain rfl := Option.some.inj h
                exact ex_r1 Tb rfl (.tmp rfl) (fun wq hq => ⟨_, rfl, hq.ext, rfl⟩)
              · skip
                replace h := bf cc6 h
                have q6 := ltb_false.1 cc6
                refine wl_g rfl rfl (ow_y (yh_loadBA Tb (k := 7) rfl rfl rfl rfl rfl rfl) rfl rfl (kk_wl ?_))
                refine wl_g rfl rfl (ow_y (yh_loadBA Tb (k := 4) rfl rfl rfl rfl rfl rfl) rfl rfl (kk_wl ?_))
                obtain ⟨x75, hx75, h⟩ := bd h
                refine wl_g rfl rfl (ow_cV rfl hb18 rfl (fun w hw => c_laws_eqFlow N _ _ _ hx75 w (rdo (A := stepsL) 8 rfl hw) (rdo (A := stepsL) 5 rfl hw)) rfl rfl (kk_wl ?_))
                refine wl_g rfl rfl (ow_y (yh_not rfl rfl) rfl rfl (kk_wl ?_))
                refine wl_u rfl (ow_y (yh_pickF rfl rfl rfl) rfl rfl (kk_wl ?_))
                refine wl_u rfl (ow_y (yh_move rfl rfl) rfl rfl (kk_wl ?_))
                refine wl_s rfl rfl (fun cc7 => ?_) (fun cc7 => ?_)
                · skip
                  replace h := bt cc7 h
                  refine wl_n rfl rfl rfl rfl ?_
                  refine wl_n rfl rfl rfl rfl ?_
                  refine wl_n rfl rfl rfl rfl ?_
                  refine wl_u rfl (ow_y (yh_pickT rfl rfl rfl) rfl rfl (kk_wl ?_))
                  refine wl_nil ?_
                  refine ex_seq ?_
                  refine cw_true rfl ?_
                  refine cw_seq ?_
                  refine cw_region ?_
                  refine wl_u rfl (ow_y (yh_assign rfl rfl) rfl rfl (kk_wl ?_))
                  refine wl_nil ?_
                  refine ex_seq ?_
                  refine cw_ret ?_
                  refine ex_then_ret ?_
                  obtain rfl := Option.some.inj h
                  exact ex_r1 Tb rfl (.tmp rfl) (fun wq hq => ⟨_, rfl, hq.ext, rfl⟩)
                · skip
                  replace h := bf cc7 h
                  refine wl_g rfl rfl (ow_y (yh_move rfl rfl) rfl rfl (kk_wl ?_))
                  refine wl_g rfl rfl (ow_y (yh_move rfl rfl) rfl rfl (kk_wl ?_))
                  refine wl_g rfl rfl (ow_y (yh_cmpB rfl rfl rfl rfl (by kernel_rfl)) rfl rfl (kk_wl ?_))
                  refine wl_u rfl (ow_y (yh_pickF rfl rfl rfl) rfl rfl (kk_wl ?_))
                  refine wl_nil ?_
                  refine ex_seq ?_
                  refine cw_split rfl (fun hc => Bool.noConfusion (cc4.symm.trans hc)) (fun _ => ?_)
                  refine cw_skip ?_
                  refine ex_seq ?_
                  refine cw_seq ?_
                  refine cw_region ?_
                  refine wl_u rfl (ow_y (yh_assign rfl rfl) rfl rfl (kk_wl ?_))
                  refine wl_nil ?_
                  refine ex_seq ?_
                  refine cw_seq ?_
                  refine cw_region ?_
                  refine wl_u rfl (ow_y (yh_loadBA Tb (k := 7) rfl rfl rfl rfl rfl rfl) rfl rfl (kk_wl ?_))
                  refine wl_u rfl (ow_y (yh_move rfl rfl) rfl rfl (kk_wl ?_))
                  obtain ⟨x85, hx85, h⟩ := bd h
                  refine wl_u rfl (ow_cF1 8 rfl hb20 rfl rfl (fun w hw => c_laws_markFlow N _ _ _ hx85 w (hw.at (i := 8) rfl) (hw.ndAt (i := 8) rfl)) rfl rfl (fun F85 => kk_wl ?_))
                  refine wl_u rfl (ow_y (yh_assign rfl rfl) rfl rfl (kk_wl ?_))
                  refine wl_nil ?_
                  refine ex_seq ?_
                  refine cw_seq ?_
                  refine cw_region ?_
                  refine wl_u rfl (ow_y (yh_assign rfl rfl) rfl rfl (kk_wl ?_))
                  refine wl_nil ?_
                  refine ex_seq ?_
                  refine cw_seq ?_
                  refine cw_region ?_
                  refine wl_u rfl (ow_y (yh_loadBA Tb (k := 8) rfl rfl rfl rfl rfl rfl) rfl rfl (kk_wl ?_))
                  refine wl_u rfl (ow_y (yh_move rfl rfl) rfl rfl (kk_wl ?_))
                  refine wl_know (x42.1.steps.length = x85.2.length) (fun w hw => own_lenK 0 rfl hw) (fun hr2_ => ?_)
                  rw [hr2_]
                  obtain ⟨x88, hx88, h⟩ := bd h
                  refine wl_u rfl (ow_cV rfl hb22 rfl (fun w hw => c_laws_heldFlow N _ _ _ hx88 w (rdo (A := stepsL) 0 rfl hw)) rfl rfl (kk_wl ?_))
                  refine wl_u rfl (ow_y (yh_assign rfl rfl) rfl rfl (kk_wl ?_))
                  refine wl_nil ?_
                  refine ex_seq ?_
                  refine cw_seq ?_
                  refine cw_seq ?_
                  refine cw_region ?_
                  refine wl_u rfl (ow_y (yh_move rfl rfl) rfl rfl (kk_wl ?_))
                  refine wl_u rfl (ow_y (yh_cmpI rfl rfl rfl rfl) rfl rfl (kk_wl ?_))
                  refine wl_nil ?_
                  refine ex_seq ?_
                  refine cw_split rfl (fun cc8 => ?_) (fun cc8 => ?_)
                  · skip
                    replace h := bt cc8 h
                    have q7 := ltb_true.1 cc8
                    refine cw_seq ?_
                    refine cw_region ?_
                    refine wl_u rfl (ow_y (yh_assign rfl rfl) rfl rfl (kk_wl ?_))
                    refine wl_nil ?_
                    refine ex_seq ?_
                    refine cw_ret ?_
                    refine ex_then_ret ?_
                    obtain rfl := Option.some.inj h
                    exact ex_r1 Tb rfl (.tmp rfl) (fun wq hq => ⟨_, rfl, hq.ext, rfl⟩)
                  · skip
                    replace h := bf cc8 h
                    have q8 := ltb_false.1 cc8
                    refine cw_skip ?_
                    refine ex_seq ?_
                    refine cw_seq ?_
                    refine cw_seq ?_
                    refine cw_region ?_
                    refine wl_u rfl (ow_y (yh_move rfl rfl) rfl rfl (kk_wl ?_))
                    refine wl_u rfl (ow_y (yh_move rfl rfl) rfl rfl (kk_wl ?_))
                    refine wl_u rfl (ow_y (yh_cmpI rfl rfl rfl rfl) rfl rfl (kk_wl ?_))
                    refine wl_nil ?_
                    refine ex_seq ?_
                    refine cw_split rfl (fun cc9 => ?_) (fun cc9 => ?_)
                    · skip
                      replace h := bt cc9 h
                      have q9 := eqb_false.1 (nt cc9)
                      refine cw_seq ?_
                      refine cw_region ?_
                      refine wl_u rfl (ow_y (yh_assign rfl rfl) rfl rfl (kk_wl ?_))
                      refine wl_nil ?_
                      refine ex_seq ?_
                      refine cw_ret ?_
                      refine ex_then_ret ?_
                      obtain rfl := Option.some.inj h
                      exact ex_r1 Tb rfl (.tmp rfl) (fun wq hq => ⟨_, rfl, hq.ext, rfl⟩)
                    · skip
                      replace h := bf cc9 h
                      have q10 := eqb_true.1 (nf cc9)
                      refine cw_skip ?_
                      refine ex_seq ?_
                      refine cw_seq ?_
                      refine cw_region ?_
                      refine wl_u rfl (ow_y (yh_loadBA Tb (k := 4) rfl rfl rfl rfl rfl rfl) rfl rfl (kk_wl ?_))
                      obtain ⟨x96, hx96, h⟩ := bd h
                      refine wl_u rfl (ow_cN1 rfl hb16 rfl (fun w hw => c_laws_toFlow N _ _ hx96 w (Lay.at_ h_u0_steps hw)) rfl rfl (fun a96 c96 F96 => kk_wl ?_))
                      refine wl_u rfl (ow_y (yh_move rfl rfl) rfl rfl (kk_wl ?_))
                      obtain ⟨x98, hx98, h⟩ := bd h
                      refine wl_u rfl (ow_cN1 rfl hb17 rfl (fun w hw => c_laws_toChangeS N _ _ hx98 w (Lay.at_ h_u1 hw)) rfl rfl (fun a98 c98 F98 => kk_wl ?_))
                      obtain ⟨x99, hx99, h⟩ := bd h
                      refine wl_u rfl (ow_cN1 rfl hb11 rfl (fun w hw => c_impl_FlowChanges N _ _ _ hx99 w (rdo (A := stepsL) 1 rfl hw) (rdo (A := changesL) 0 rfl hw)) rfl rfl (fun a99 c99 F99 => kk_wl ?_))
                      refine wl_u rfl (ow_y (yh_move rfl rfl) rfl rfl (kk_wl ?_))
                      refine wl_u rfl (ow_y (yh_extract rfl rfl rfl) rfl rfl (kk_wl ?_))
                      refine wl_u rfl (ow_y (yh_extract rfl rfl rfl) rfl rfl (kk_wl ?_))
                      refine wl_u rfl (ow_allocA Tb rfl rfl rfl rfl (fun g15 => kk_wl ?_))
                      refine wl_u rfl (ow_storeA Tb (k := 0) rfl rfl rfl rfl rfl rfl rfl rfl rfl (kk_wl ?_))
                      refine wl_u rfl (ow_y (yh_assign rfl rfl) rfl rfl (kk_wl ?_))
                      refine wl_nil ?_
                      refine ex_seq ?_
                      refine cw_seq ?_
                      refine cw_seq ?_
                      refine cw_region ?_
                      refine wl_u rfl (ow_y (yh_loadBA Tb (k := 0) rfl rfl rfl rfl rfl rfl) rfl rfl (kk_wl ?_))
                      refine wl_u rfl (ow_y (yh_loadBA Tb (k := 9) rfl rfl rfl rfl rfl rfl) rfl rfl (kk_wl ?_))
                      obtain ⟨x104, hx104, h⟩ := bd h
                      refine wl_u rfl (ow_cV rfl hb18 rfl (fun w hw => c_laws_eqFlow N _ _ _ hx104 w (rdo (A := stepsL) 1 rfl hw) (rdo (A := stepsL) 10 rfl hw)) rfl rfl (kk_wl ?_))
                      refine wl_u rfl (ow_y (yh_not rfl rfl) rfl rfl (kk_wl ?_))
                      refine wl_u rfl (ow_y (yh_move rfl rfl) rfl rfl (kk_wl ?_))
                      refine wl_s rfl rfl (fun cc10 => ?_) (fun cc10 => ?_)
                      · skip
                        replace h := bt cc10 h
                        refine wl_n rfl rfl rfl rfl ?_
                        refine wl_n rfl rfl rfl rfl ?_
                        refine wl_n rfl rfl rfl rfl ?_
                        refine wl_u rfl (ow_y (yh_pickT rfl rfl rfl) rfl rfl (kk_wl ?_))
                        refine wl_nil ?_
                        refine ex_seq ?_
                        refine cw_true rfl ?_
                        refine cw_seq ?_
                        refine cw_region ?_
                        refine wl_u rfl (ow_y (yh_assign rfl rfl) rfl rfl (kk_wl ?_))
                        refine wl_nil ?_
                        refine ex_seq ?_
                        refine cw_ret ?_
                        refine ex_then_ret ?_
                        obtain rfl := Option.some.inj h
                        exact ex_r1 Tb rfl (.tmp rfl) (fun wq hq => ⟨_, rfl, hq.ext, rfl⟩)
                      · skip
                        replace h := bf cc10 h
                        refine wl_g rfl rfl (ow_y (yh_move rfl rfl) rfl rfl (kk_wl ?_))
                        refine wl_g rfl rfl (ow_y (yh_move rfl rfl) rfl rfl (kk_wl ?_))
                        refine wl_g rfl rfl (ow_y (yh_cmpB rfl rfl rfl rfl (by kernel_rfl)) rfl rfl (kk_wl ?_))
                        refine wl_u rfl (ow_y (yh_pickF rfl rfl rfl) rfl rfl (kk_wl ?_))
                        refine wl_nil ?_
                        refine ex_seq ?_
                        refine cw_split rfl (fun cc11 => ?_) (fun cc11 => ?_)
                        · skip
                          replace h := bt cc11 h
                          refine cw_seq ?_
                          refine cw_region ?_
                          refine wl_u rfl (ow_y (yh_assign rfl rfl) rfl rfl (kk_wl ?_))
                          refine wl_nil ?_
                          refine ex_seq ?_
                          refine cw_ret ?_
                          refine ex_then_ret ?_
                          obtain rfl := Option.some.inj h
                          exact ex_r1 Tb rfl (.tmp rfl) (fun wq hq => ⟨_, rfl, hq.ext, rfl⟩)
                        · skip
                          replace h := bf cc11 h
                          refine cw_skip ?_
                          refine ex_seq ?_
                          refine cw_seq ?_
                          refine cw_region ?_
                          refine wl_u rfl (ow_y (yh_assign rfl rfl) rfl rfl (kk_wl ?_))
                          refine wl_nil ?_
                          refine ex_seq ?_
                          refine cw_seq ?_
                          refine cw_region ?_
                          refine wl_u rfl (ow_y (yh_loadBA Tb (k := 12) rfl rfl rfl rfl rfl rfl) rfl rfl (kk_wl ?_))
                          refine wl_u rfl (ow_y (yh_move rfl rfl) rfl rfl (kk_wl ?_))
                          obtain ⟨x113, hx113, h⟩ := bd h
                          refine wl_u rfl (ow_cV rfl hb22 rfl (fun w hw => c_laws_heldFlow N _ _ _ hx113 w (rdo (A := stepsL) 4 rfl hw)) rfl rfl (kk_wl ?_))
                          refine wl_u rfl (ow_y (yh_assign rfl rfl) rfl rfl (kk_wl ?_))
                          refine wl_nil ?_
                          refine ex_seq ?_
                          refine cw_seq ?_
                          refine cw_seq ?_
                          refine cw_region ?_
                          refine wl_u rfl (ow_y (yh_move rfl rfl) rfl rfl (kk_wl ?_))
                          refine wl_u rfl (ow_y (yh_cmpI rfl rfl rfl rfl) rfl rfl (kk_wl ?_))
                          refine wl_nil ?_
                          refine ex_seq ?_
                          refine cw_split rfl (fun cc12 => ?_) (fun cc12 => ?_)
                          · skip
                            replace h := bt cc12 h
                            have q11 := ltb_true.1 cc12
                            refine cw_seq ?_
                            refine cw_region ?_
                            refine wl_u rfl (ow_y (yh_assign rfl rfl) rfl rfl (kk_wl ?_))
                            refine wl_nil ?_
                            refine ex_seq ?_
                            refine cw_ret ?_
                            refine ex_then_ret ?_
                            obtain rfl := Option.some.inj h
                            exact ex_r1 Tb rfl (.tmp rfl) (fun wq hq => ⟨_, rfl, hq.ext, rfl⟩)
                          · skip
                            replace h := bf cc12 h
                            have q12 := ltb_false.1 cc12
                            refine cw_skip ?_
                            refine ex_seq ?_
                            refine cw_seq ?_
                            refine cw_seq ?_
                            refine cw_region ?_
                            refine wl_u rfl (ow_y (yh_move rfl rfl) rfl rfl (kk_wl ?_))
                            refine wl_u rfl (ow_y (yh_move rfl rfl) rfl rfl (kk_wl ?_))
                            refine wl_u rfl (ow_y (yh_cmpI rfl rfl rfl rfl) rfl rfl (kk_wl ?_))
                            refine wl_nil ?_
                            refine ex_seq ?_
                            refine cw_split rfl (fun cc13 => ?_) (fun cc13 => ?_)
                            · skip
                              replace h := bt cc13 h
                              have q13 := eqb_false.1 (nt cc13)
                              refine cw_seq ?_
                              refine cw_region ?_
                              refine wl_u rfl (ow_y (yh_assign rfl rfl) rfl rfl (kk_wl ?_))
                              refine wl_nil ?_
                              refine ex_seq ?_
                              refine cw_ret ?_
                              refine ex_then_ret ?_
                              obtain rfl := Option.some.inj h
                              exact ex_r1 Tb rfl (.tmp rfl) (fun wq hq => ⟨_, rfl, hq.ext, rfl⟩)
                            · skip
                              replace h := bf cc13 h
                              have q14 := eqb_true.1 (nf cc13)
                              refine cw_skip ?_
                              refine ex_seq ?_
                              refine cw_seq ?_
                              refine cw_region ?_
                              refine wl_u rfl (ow_y (yh_assign rfl rfl) rfl rfl (kk_wl ?_))
                              refine wl_nil ?_
                              refine ex_seq ?_
                              refine cw_ret ?_
                              obtain rfl := Option.some.inj h
                              exact ex_r1 Tb rfl (.tmp rfl) (fun wq hq => ⟨_, rfl, hq.ext, rfl⟩)
          · skip
            have h := he119
            refine cw_seq ?_
            refine cw_dr [0, 1, 4] [] [blkC g10 25 [.int .i64 x42.1.ver, .slice a42 x42.1.steps.length c42], owC stepsL F42 [.slice a42 x42.1.steps.length c42] x42.1.steps, owC changesL F38 [.slice a38 x38.length c38] x38, blkC g8 25 [.int .i64 x36.ver, .slice a36 x36.steps.length c36], owC stepsL F36 [.slice a36 x36.steps.length c36] x36.steps, blkC g6 25 [.int .i64 x32.1.ver, .slice a32 x32.1.steps.length c32], owC stepsL F32 [.slice a32 x32.1.steps.length c32] x32.1.steps, owC changesL F31 [.slice a31 x31.length c31] x31, owC stepsL F29 [.slice a29 x29.steps.length c29] x29.steps, blkC g2 38 [.int .i64 u0.ver, .slice a_u0_steps u0.steps.length c_u0_steps]] (by kernel_rfl) ?_
            refine wd_take (i := 0) [0, 1, 2, 3, 4, 5, 6, 7, 8, 9] rfl rfl rfl rfl rfl (by kernel_rfl) (by kernel_rfl) (fun _ _ _ _ h => h) (yh_loadBA Tb (k := 3) rfl rfl rfl rfl rfl rfl) ?_
            refine wd_take (i := 1) [0, 1, 2, 3, 4, 5, 6, 7, 8, 9] rfl rfl rfl rfl rfl (by kernel_rfl) (by kernel_rfl) (fun _ _ _ _ h => h) (yh_loadBA Tb (k := 9) rfl rfl rfl rfl rfl rfl) ?_
            obtain ⟨x56, hx56, h⟩ := bd h
            refine wd_one 2 rfl rfl (by kernel_rfl) (ow_cN1 rfl hb16 rfl (fun w hw => c_laws_toFlow N _ _ hx56 w (Lay.at_ h_u0_steps hw)) rfl rfl (fun a56 c56 F56 => kk_wd [1, 2, 3, 4, 5, 6, 7, 8, 9, 10] (by kernel_rfl) ?_))
            obtain ⟨x57, hx57, h⟩ := bd h
            refine wd_one 3 rfl rfl (by kernel_rfl) (ow_cV rfl hb18 rfl (fun w hw => c_laws_eqFlow N _ _ _ hx57 w (rdo (A := stepsL) 5 rfl hw) (rdo (A := stepsL) 0 rfl hw)) rfl rfl (kk_wd [1, 2, 3, 4, 5, 6, 7, 8, 9, 10] (by kernel_rfl) ?_))
            refine wd_take (i := 4) [1, 2, 3, 4, 5, 6, 7, 8, 9, 10] rfl rfl rfl rfl rfl (by kernel_rfl) (by kernel_rfl) (fun _ _ _ _ h => h) (yh_not rfl rfl) ?_
            refine wd_done (by kernel_rfl) ?_
            refine ex_seq ?_
            refine cw_split rfl (fun cc14 => ?_) (fun cc14 => ?_)
            · skip
              replace h := bt cc14 h
              refine cw_seq ?_
              refine cw_region ?_
              refine wl_u rfl (ow_y (yh_assign rfl rfl) rfl rfl (kk_wl ?_))
              refine wl_nil ?_
              refine ex_seq ?_
              refine cw_ret ?_
              refine ex_then_ret ?_
              obtain rfl := Option.some.inj h
              obtain rfl := go_ret hk119
              exact ex_r1 Tb rfl (.tmp rfl) (fun wq hq => ⟨_, rfl, hq.ext, rfl⟩)
            · skip
              replace h := bf cc14 h
              refine cw_skip ?_
              obtain rfl := Option.some.inj h
              exact ex_next [10, 6, 7, 4, 5, 3, 1, 2] (hn119 ((), ()) rfl) ⟨rfl, rfl, rfl, rfl, rfl, rfl, rfl, rfl, trivial⟩ (by kernel_rfl)

end Go.Proofs.YtmnhnldnnniglaaGreat
