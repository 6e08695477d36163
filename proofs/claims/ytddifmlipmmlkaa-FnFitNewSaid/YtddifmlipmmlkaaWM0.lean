/- Mirrors and contracts, printed by a program: what each function computes as a plain term, and that it does. -/
import Derived.Test.YtddifmlipmmlkaaR
import Derived.Test.YtddifmlipmmlkaaC
import Derived.Test.YtddifmlipmmlkaaWA0
import Derived.Test.YtddifmlipmmlkaaWA1
import Derived.Test.YtddifmlipmmlkaaWA2
import Derived.Test.YtddifmlipmmlkaaWA3
set_option linter.all false
set_option maxRecDepth 100000
namespace Go.Proofs.Ytddifmlipmmlkaa
open Go.RowKit

def m_slices_DeleteFunc_string_L8 (N : Nat) (s_ : List Str) (del : Str → Option Bool) : Nat → (List Str) → Int → Int → Option (Ex (List Str × Int × Int) (List Str))
  | 0, _, _, _ => none
  | n + 1, s0, s5, s6 => (bif ltb s6 ((s_.length : Nat) : Int) then (geti s0 s6).bind fun y24 => (del y24).bind fun x28 => (bif !x28 then (geti s0 s5).bind fun y33 => m_slices_DeleteFunc_string_L8 N s_ del n (s0.set s5.toNat y24) (w64 (s5 + 1)) (w64 (s6 + 1))
 else m_slices_DeleteFunc_string_L8 N s_ del n s0 s5 (w64 (s6 + 1)))
 else some (Ex.brk (s0, s5, s6)))

def m_slices_DeleteFunc_string (N : Nat) (s_ : List Str) (del : Str → Option Bool) : Option (List Str) := (m_slices_IndexFunc_string N s_ del).bind fun x10 => (bif eqb x10 (-1) then some s_
 else (m_slices_DeleteFunc_string_L8 N s_ del N s_ x10 (w64 (x10 + 1))).bind fun e8 => e8.go (fun r => r) fun b8 => (slFrom b8.1 b8.2.1).bind fun l38 => (slTo (b8.1.take (b8.2.1).toNat ++ List.replicate l38.length ((⟨#[]⟩ : Str) : Str)) b8.2.1).bind fun l41 => some l41)

set_option maxHeartbeats 4000000 in
theorem c_slices_DeleteFunc_string (N : Nat) (s_ : List Str) (del : Str → Option Bool) (res : List Str) (h : m_slices_DeleteFunc_string N s_ del = some res) (w : World) {a_s_ : Option Addr} {c_s_ : Nat} {F_s_ : List Nat} {k_del : FuncId} {caps_del : List Value} (hr : (owC strsL F_s_ [.slice a_s_ s_.length c_s_] s_).A w) (hnd : F_s_.Nodup) (hb_del : hasBody Try.prog k_del) (hf_del : ∀ x0 b, del x0 = some b → ∀ w', ExtM F_s_ w w' → Ret Try.prog k_del ([.string x0] ++ caps_del) w' [] fun v _ => v = .bool b) : Ret Try.prog 69 [.slice a_s_ s_.length c_s_, .func (.func k_del) #[] caps_del.toArray] w F_s_ fun v w' => ∃ a1 c1 F1, v = .slice a1 res.length c1 ∧ NewM w w' F_s_ [owC strsL F1 [.slice a1 res.length c1] res] := by
  unfold m_slices_DeleteFunc_string at h
  refine ret_enter Try.func69 rfl Try.ntmps69 rfl (hp_one hr hnd) ?_
  refine cw_seq ?_
  refine cw_region ?_
  refine wl_u rfl (ow_y (yh_assign rfl rfl) rfl rfl (kk_wl ?_))
  refine wl_nil ?_
  refine ex_seq ?_
  refine cw_seq ?_
  refine cw_region ?_
  refine wl_u rfl (ow_y (yh_move rfl rfl) rfl rfl (kk_wl ?_))
  refine wl_u rfl (ow_y (yh_move rfl rfl) rfl rfl (kk_wl ?_))
  obtain ⟨x10, hx10, h⟩ := bd h
  refine wl_u rfl (ow_cV rfl hb101 rfl (fun w hw => c_slices_IndexFunc_string N _ _ _ hx10 w (rdo (A := strsL) 0 rfl hw) hb_del (fun x b hb w' hE => hf_del x b hb w' (hw.ext.trans0 hE))) rfl rfl (kk_wl ?_))
  refine wl_u rfl (ow_y (yh_assign rfl rfl) rfl rfl (kk_wl ?_))
  refine wl_nil ?_
  refine ex_seq ?_
  refine cw_seq ?_
  refine cw_seq ?_
  refine cw_region ?_
  refine wl_u rfl (ow_y (yh_move rfl rfl) rfl rfl (kk_wl ?_))
  refine wl_u rfl (ow_y (yh_cmpI rfl rfl rfl rfl) rfl rfl (kk_wl ?_))
  refine wl_nil ?_
  refine ex_seq ?_
  refine cw_split rfl (fun c1 => ?_) (fun c1 => ?_)
  · skip
    replace h := bt c1 h
    have q1 := eqb_true.1 c1
    refine cw_seq ?_
    refine cw_region ?_
    refine wl_u rfl (ow_y (yh_move rfl rfl) rfl rfl (kk_wl ?_))
    refine wl_u rfl (ow_y (yh_assign rfl rfl) rfl rfl (kk_wl ?_))
    refine wl_nil ?_
    refine ex_seq ?_
    refine cw_ret ?_
    refine ex_then_ret ?_
    obtain rfl := Option.some.inj h
    exact ex_r1 Tb rfl (.tmp rfl) (fun wq hq => ⟨_, rfl, hq.ext, ⟨a_s_, c_s_, F_s_, rfl, NewM.sel [0] hq rfl⟩⟩)
  · skip
    replace h := bf c1 h
    have q2 := eqb_false.1 c1
    refine cw_skip ?_
    refine ex_seq ?_
    refine cw_seq ?_
    refine cw_seq ?_
    refine cw_region ?_
    refine wl_u rfl (ow_y (yh_move rfl rfl) rfl rfl (kk_wl ?_))
    refine wl_u rfl (ow_y (yh_arW rfl rfl rfl rfl) rfl rfl (kk_wl ?_))
    refine wl_u rfl (ow_y (yh_assign rfl rfl) rfl rfl (kk_wl ?_))
    refine wl_nil ?_
    refine ex_seq ?_
    refine cw_block ?_
    obtain ⟨e8, he8, hk8⟩ := bd h
    clear h
    refine cw_loopG (σ := Nat × (List Str) × Int × Int × (List Nat)) (fun s => m_slices_DeleteFunc_string_L8 N s_ del s.1 s.2.1 s.2.2.1 s.2.2.2.1 = some e8) (fun s => [(0, .slice a_s_ s_.length c_s_), (1, .func (.func k_del) #[] caps_del.toArray), (5, .int .i64 s.2.2.1), (6, .int .i64 s.2.2.2.1)]) (fun s => [owC strsL s.2.2.2.2 [.slice a_s_ s_.length c_s_] s.2.1]) (fun s => s.1) (N, s_, x10, w64 (x10 + 1), F_s_) [0] he8 ⟨rfl, rfl, rfl, rfl, trivial⟩ rfl (fun KL s he8 hn8 => ?_)
    obtain ⟨n8, s0, s5, s6, Fs0⟩ := s
    simp only at he8 hn8 ⊢
    rcases n8 with _ | n8
    · exact nosome he8
    have h := he8; rw [m_slices_DeleteFunc_string_L8] at h
    refine cw_seq ?_
    refine cw_seq ?_
    refine cw_region ?_
    refine wl_u rfl (ow_y (yh_move rfl rfl) rfl rfl (kk_wl ?_))
    refine wl_u rfl (ow_y (yh_move rfl rfl) rfl rfl (kk_wl ?_))
    refine wl_know (s_.length ≤ 9223372036854775807) (fun w hw => own_max 0 rfl hw) (fun mo18 => ?_)
    refine wl_u rfl (ow_y (yh_lenS Tb rfl rfl rfl rfl) rfl rfl (kk_wl ?_))
    refine wl_u rfl (ow_y (yh_cmpI rfl rfl rfl rfl) rfl rfl (kk_wl ?_))
    refine wl_nil ?_
    refine ex_seq ?_
    refine cw_split rfl (fun c2 => ?_) (fun c2 => ?_)
    · skip
      replace h := bt c2 h
      have q3 := ltb_true.1 c2
      refine cw_skip ?_
      refine ex_seq ?_
      refine cw_seq ?_
      refine cw_block ?_
      refine cw_seq ?_
      refine cw_region ?_
      refine wl_u rfl (ow_y (yh_move rfl rfl) rfl rfl (kk_wl ?_))
      refine wl_u rfl (ow_y (yh_move rfl rfl) rfl rfl (kk_wl ?_))
      obtain ⟨y24, zy24, h⟩ := bd h
      obtain ⟨iy24, hy24⟩ := geti_some zy24
      refine wl_ex (fun g => a_s_ = some ⟨g, 0, none⟩) (fun w hw => own_addrK 0 rfl hy24 hw) (fun g24 hg24 => ?_)
      subst hg24
      refine wl_know (s_.length = s0.length) (fun w hw => own_lenK 0 rfl hw) (fun hn24 => ?_)
      refine wl_u rfl (ow_y (yh_idx Tb (k := s6.toNat) rfl rfl rfl iy24 (Nat.lt_of_lt_of_eq (get_lt hy24) hn24.symm) rfl rfl) rfl rfl (kk_wl ?_))
      refine wl_u rfl (ow_y (yh_loadO0 Tb 0 rfl rfl rfl rfl rfl hy24 rfl) rfl rfl (kk_wl ?_))
      refine wl_u rfl (ow_y (yh_assign rfl rfl) rfl rfl (kk_wl ?_))
      refine wl_nil ?_
      refine ex_seq ?_
      refine cw_seq ?_
      refine cw_region ?_
      refine wl_u rfl (ow_y (yh_move rfl rfl) rfl rfl (kk_wl ?_))
      refine wl_u rfl (ow_y (yh_move rfl rfl) rfl rfl (kk_wl ?_))
      obtain ⟨x28, hx28, h⟩ := bd h
      refine wl_u rfl (ow_callV rfl rfl hb_del rfl rfl (fun w hw => hf_del _ _ hx28 w hw.ext) rfl rfl (kk_wl ?_))
      refine wl_u rfl (ow_y (yh_not rfl rfl) rfl rfl (kk_wl ?_))
      refine wl_nil ?_
      refine ex_seq ?_
      refine cw_split rfl (fun c3 => ?_) (fun c3 => ?_)
      · skip
        replace h := bt c3 h
        refine cw_seq ?_
        refine cw_region ?_
        refine wl_u rfl (ow_y (yh_move rfl rfl) rfl rfl (kk_wl ?_))
        refine wl_u rfl (ow_y (yh_move rfl rfl) rfl rfl (kk_wl ?_))
        refine wl_u rfl (ow_y (yh_move rfl rfl) rfl rfl (kk_wl ?_))
        obtain ⟨y33, zy33, h⟩ := bd h
        obtain ⟨iy33, hy33⟩ := geti_some zy33
        refine wl_know (s_.length = s0.length) (fun w hw => own_lenK 0 rfl hw) (fun hn33 => ?_)
        refine wl_u rfl (ow_y (yh_idx Tb (k := s5.toNat) rfl rfl rfl iy33 (Nat.lt_of_lt_of_eq (get_lt hy33) hn33.symm) rfl rfl) rfl rfl (kk_wl ?_))
        refine wl_u rfl (ow_setP Tb (u := y24) 0 rfl rfl rfl rfl rfl (get_lt hy33) rfl rfl (fun Fs14 => kk_wl ?_))
        refine wl_nil ?_
        refine ex_seq ?_
        refine cw_region ?_
        refine wl_u rfl (ow_y (yh_move rfl rfl) rfl rfl (kk_wl ?_))
        refine wl_u rfl (ow_y (yh_arW rfl rfl rfl rfl) rfl rfl (kk_wl ?_))
        refine wl_u rfl (ow_y (yh_assign rfl rfl) rfl rfl (kk_wl ?_))
        refine wl_nil ?_
        refine ex_block_normal ?_
        refine ex_seq ?_
        refine cw_region ?_
        refine wl_u rfl (ow_y (yh_move rfl rfl) rfl rfl (kk_wl ?_))
        refine wl_u rfl (ow_y (yh_arW rfl rfl rfl rfl) rfl rfl (kk_wl ?_))
        refine wl_u rfl (ow_y (yh_assign rfl rfl) rfl rfl (kk_wl ?_))
        refine wl_nil ?_
        exact ex_next [0] (hn8 (n8, (s0.set s5.toNat y24), w64 (s5 + 1), w64 (s6 + 1), Fs14) (Nat.lt_succ_self _) h) ⟨rfl, rfl, rfl, rfl, trivial⟩ rfl
      · skip
        replace h := bf c3 h
        refine cw_skip ?_
        refine ex_block_normal ?_
        refine ex_seq ?_
        refine cw_region ?_
        refine wl_u rfl (ow_y (yh_move rfl rfl) rfl rfl (kk_wl ?_))
        refine wl_u rfl (ow_y (yh_arW rfl rfl rfl rfl) rfl rfl (kk_wl ?_))
        refine wl_u rfl (ow_y (yh_assign rfl rfl) rfl rfl (kk_wl ?_))
        refine wl_nil ?_
        exact ex_next [0] (hn8 (n8, s0, s5, w64 (s6 + 1), Fs0) (Nat.lt_succ_self _) h) ⟨rfl, rfl, rfl, rfl, trivial⟩ rfl
    · skip
      replace h := bf c2 h
      have q4 := ltb_false.1 c2
      refine cw_exit ?_
      refine ex_then_exit ?_
      refine ex_then_exit ?_
      obtain rfl := Option.some.inj h
      have h := go_brk hk8
      refine ex_block_exit ?_
      refine ex_seq ?_
      refine cw_seq ?_
      refine cw_region ?_
      refine wl_u rfl (ow_y (yh_move rfl rfl) rfl rfl (kk_wl ?_))
      refine wl_u rfl (ow_y (yh_move rfl rfl) rfl rfl (kk_wl ?_))
      obtain ⟨l38, zl38, h⟩ := bd h
      refine wl_know (s_.length = s0.length) (fun w hw => own_lenK 0 rfl hw) (fun hn38 => ?_)
      obtain ⟨a38, e38, va38, ve38, il38⟩ := sl_dropV a_s_ c_s_ 1 zl38
      refine wl_u rfl (ow_y (yh_sliceLN Tb hn38 zl38 va38 ve38 rfl rfl rfl rfl rfl) rfl rfl (kk_wl ?_))
      refine wl_u rfl (ow_clear Tb ((⟨#[]⟩ : Str) : Str) 0 zl38 va38 ve38 rfl rfl rfl rfl rfl rfl rfl rfl (kk_wl ?_))
      refine wl_nil ?_
      refine ex_seq ?_
      refine cw_seq ?_
      refine cw_region ?_
      refine wl_u rfl (ow_y (yh_move rfl rfl) rfl rfl (kk_wl ?_))
      refine wl_u rfl (ow_y (yh_move rfl rfl) rfl rfl (kk_wl ?_))
      obtain ⟨l41, zl41, h⟩ := bd h
      obtain ⟨il41, jl41⟩ := slTo_K zl41
      refine wl_know ((s0.take (s5).toNat ++ List.replicate l38.length ((⟨#[]⟩ : Str) : Str)).length ≤ c_s_) (fun w hw => own_capK 0 rfl hw) (fun hcp41 => ?_)
      refine wl_u rfl (ow_chg (c' := owC strsL Fs0 [.slice a_s_ l41.length c_s_] l41) 0 rfl (fun w hA => own_cut zl41 hA) rfl (ow_y (yh_sliceH Tb (k := l41.length) rfl rfl rfl il41 (Nat.le_trans jl41 hcp41) rfl rfl) rfl rfl (kk_wl ?_)))
      refine wl_u rfl (ow_y (yh_assign rfl rfl) rfl rfl (kk_wl ?_))
      refine wl_nil ?_
      refine ex_seq ?_
      refine cw_ret ?_
      obtain rfl := Option.some.inj h
      exact ex_r1 Tb rfl (.tmp rfl) (fun wq hq => ⟨_, rfl, hq.ext, ⟨a_s_, c_s_, Fs0, rfl, NewM.sel [0] hq rfl⟩⟩)

def m_laws_markStringS_L4 (N : Nat) (a : List Str) : Nat → (List Str) → Int → Nat → Option (Ex (List Str × Int × Nat) ((Int) × (List Str)))
  | 0, _, _, _ => none
  | n + 1, s0, s1, s5 => (bif ltb ((s5 : Nat) : Int) ((a.length : Nat) : Int) then (m_laws_markText N s1).bind fun x15 => (s0[s5]?).bind fun y16 => m_laws_markStringS_L4 N a n (s0.set s5 x15) (w64 (s1 + 1)) (s5 + 1)
 else some (Ex.brk (s0, s1, s5)))

def m_laws_markStringS (N : Nat) (a : List Str) (k : Int) : Option ((Int) × (List Str)) := (m_laws_markStringS_L4 N a N a k 0).bind fun e4 => e4.go (fun r => r) fun b4 => some (b4.2.1, b4.1)

set_option maxHeartbeats 4000000 in
theorem c_laws_markStringS (N : Nat) (a : List Str) (k : Int) (res : (Int) × (List Str)) (h : m_laws_markStringS N a k = some res) (w : World) {a_a : Option Addr} {c_a : Nat} {F_a : List Nat} (hr : (owC strsL F_a [.slice a_a a.length c_a] a).A w) (hnd : F_a.Nodup) : Ret Try.prog 51 [.slice a_a a.length c_a, .int .i64 k] w F_a fun v w' => ∃ F0, v = .int .i64 res.1 ∧ NewM w w' F_a [owC strsL F0 [.slice a_a a.length c_a] res.2] := by
  unfold m_laws_markStringS at h
  refine ret_enter Try.func51 rfl Try.ntmps51 rfl (hp_one hr hnd) ?_
  refine cw_seq ?_
  refine cw_region ?_
  refine wl_u rfl (ow_y (yh_assign rfl rfl) rfl rfl (kk_wl ?_))
  refine wl_nil ?_
  refine ex_seq ?_
  refine cw_seq ?_
  refine cw_seq ?_
  refine cw_region ?_
  refine wl_u rfl (ow_y (yh_assign rfl rfl) rfl rfl (kk_wl ?_))
  refine wl_nil ?_
  refine ex_seq ?_
  refine cw_block ?_
  obtain ⟨e4, he4, hk4⟩ := bd h
  clear h
  refine cw_loopG (σ := Nat × (List Str) × Int × Nat × (List Nat)) (fun s => m_laws_markStringS_L4 N a s.1 s.2.1 s.2.2.1 s.2.2.2.1 = some e4) (fun s => [(0, .slice a_a a.length c_a), (1, .int .i64 s.2.2.1), (5, .int .i64 ((s.2.2.2.1 : Nat) : Int))]) (fun s => [owC strsL s.2.2.2.2 [.slice a_a a.length c_a] s.2.1]) (fun s => s.1) (N, a, k, 0, F_a) [0] he4 ⟨rfl, rfl, rfl, trivial⟩ rfl (fun KL s he4 hn4 => ?_)
  obtain ⟨n4, s0, s1, s5, Fs0⟩ := s
  simp only at he4 hn4 ⊢
  rcases n4 with _ | n4
  · exact nosome he4
  have h := he4; rw [m_laws_markStringS_L4] at h
  refine cw_seq ?_
  refine cw_seq ?_
  refine cw_region ?_
  refine wl_u rfl (ow_y (yh_move rfl rfl) rfl rfl (kk_wl ?_))
  refine wl_u rfl (ow_y (yh_move rfl rfl) rfl rfl (kk_wl ?_))
  refine wl_know (a.length ≤ 9223372036854775807) (fun w hw => own_max 0 rfl hw) (fun mo8 => ?_)
  refine wl_u rfl (ow_y (yh_lenS Tb rfl rfl rfl rfl) rfl rfl (kk_wl ?_))
  refine wl_u rfl (ow_y (yh_cmpI rfl rfl rfl rfl) rfl rfl (kk_wl ?_))
  refine wl_nil ?_
  refine ex_seq ?_
  refine cw_split rfl (fun c1 => ?_) (fun c1 => ?_)
  · skip
    replace h := bt c1 h
    have q1 := ltb_true.1 c1
    refine cw_skip ?_
    refine ex_seq ?_
    refine cw_seq ?_
    refine cw_block ?_
    refine cw_seq ?_
    refine cw_region ?_
    refine wl_u rfl (ow_y (yh_move rfl rfl) rfl rfl (kk_wl ?_))
    refine wl_u rfl (ow_y (yh_move rfl rfl) rfl rfl (kk_wl ?_))
    refine wl_u rfl (ow_y (yh_move rfl rfl) rfl rfl (kk_wl ?_))
    obtain ⟨x15, hx15, h⟩ := bd h
    refine wl_u rfl (ow_cV rfl hb92 rfl (fun w hw => c_laws_markText N _ _ hx15 w) rfl rfl (kk_wl ?_))
    obtain ⟨y16, hy16, h⟩ := bd h
    refine wl_ex (fun g => a_a = some ⟨g, 0, none⟩) (fun w hw => own_addrK 0 rfl hy16 hw) (fun g16 hg16 => ?_)
    subst hg16
    refine wl_know (a.length = s0.length) (fun w hw => own_lenK 0 rfl hw) (fun hn16 => ?_)
    refine wl_u rfl (ow_y (yh_idx Tb (k := s5) rfl rfl rfl rfl (Nat.lt_of_lt_of_eq (get_lt hy16) hn16.symm) rfl rfl) rfl rfl (kk_wl ?_))
    refine wl_u rfl (ow_setP Tb (u := x15) 0 rfl rfl rfl rfl rfl (get_lt hy16) rfl rfl (fun Fs12 => kk_wl ?_))
    refine wl_nil ?_
    refine ex_seq ?_
    refine cw_region ?_
    refine wl_u rfl (ow_y (yh_move rfl rfl) rfl rfl (kk_wl ?_))
    refine wl_u rfl (ow_y (yh_arW rfl rfl rfl rfl) rfl rfl (kk_wl ?_))
    refine wl_u rfl (ow_y (yh_assign rfl rfl) rfl rfl (kk_wl ?_))
    refine wl_nil ?_
    refine ex_block_normal ?_
    refine ex_seq ?_
    refine cw_region ?_
    refine wl_u rfl (ow_y (yh_move rfl rfl) rfl rfl (kk_wl ?_))
    refine wl_u rfl (ow_y (yh_arI rfl rfl rfl rfl (by omega)) rfl rfl (kk_wl ?_))
    refine wl_u rfl (ow_y (yh_assign rfl rfl) rfl rfl (kk_wl ?_))
    refine wl_nil ?_
    exact ex_next [0] (hn4 (n4, (s0.set s5 x15), w64 (s1 + 1), s5 + 1, Fs12) (Nat.lt_succ_self _) h) ⟨rfl, rfl, rfl, trivial⟩ rfl
  · skip
    replace h := bf c1 h
    have q2 := ltb_false.1 c1
    refine cw_exit ?_
    refine ex_then_exit ?_
    refine ex_then_exit ?_
    obtain rfl := Option.some.inj h
    have h := go_brk hk4
    refine ex_block_exit ?_
    refine ex_seq ?_
    refine cw_seq ?_
    refine cw_region ?_
    refine wl_u rfl (ow_y (yh_move rfl rfl) rfl rfl (kk_wl ?_))
    refine wl_u rfl (ow_y (yh_assign rfl rfl) rfl rfl (kk_wl ?_))
    refine wl_nil ?_
    refine ex_seq ?_
    refine cw_ret ?_
    obtain rfl := Option.some.inj h
    exact ex_r1 Tb rfl (.tmp rfl) (fun wq hq => ⟨_, rfl, hq.ext, ⟨Fs0, rfl, NewM.sel [0] hq rfl⟩⟩)

def m_impl_FitNew (N : Nat) (f : Flow) (g : Flow) : Option (List Str) := (m_impl_FlowValid N f).bind fun x6 => (bif !x6 then some ([] : List Str)
 else (m_impl_FlowValid N g).bind fun x10 => (bif !x10 then some ([] : List Str)
 else (m_impl_Flow_names N f).bind fun x14 => (m_slices_DeleteFunc_string N x14 (fun x0 => m_impl_FitNew_f1 N x0 g)).bind fun x16 => some x16))

set_option maxHeartbeats 4000000 in
theorem c_impl_FitNew (N : Nat) (f : Flow) (g : Flow) (res : List Str) (h : m_impl_FitNew N f g = some res) (w : World) {a_f_steps a_g_steps : Option Addr} {c_f_steps c_g_steps : Nat} (h_f_steps : stepsL.rd w [] [.slice a_f_steps f.steps.length c_f_steps] f.steps) (h_g_steps : stepsL.rd w [] [.slice a_g_steps g.steps.length c_g_steps] g.steps) : Ret Try.prog 29 [.agg #[.int .i64 f.ver, .slice a_f_steps f.steps.length c_f_steps], .agg #[.int .i64 g.ver, .slice a_g_steps g.steps.length c_g_steps]] w [] fun v w' => ∃ a1 c1 F1, v = .slice a1 res.length c1 ∧ NewC w w' [owC strsL F1 [.slice a1 res.length c1] res] := by
  have mh_f_steps := rd_max h_f_steps
  have mh_g_steps := rd_max h_g_steps
  unfold m_impl_FitNew at h
  refine ret_enter Try.func29 rfl Try.ntmps29 rfl (Hp.refl w _) ?_
  refine cw_seq ?_
  refine cw_region ?_
  refine wl_u rfl (ow_boxA rfl rfl rfl rfl (fun g2 => kk_wl ?_))
  refine wl_u rfl (ow_boxA rfl rfl rfl rfl (fun g3 => kk_wl ?_))
  refine wl_u rfl (ow_y (yh_assign rfl rfl) rfl rfl (kk_wl ?_))
  refine wl_nil ?_
  refine ex_seq ?_
  refine cw_seq ?_
  refine cw_seq ?_
  refine cw_region ?_
  refine wl_u rfl (ow_y (yh_loadBA Tb (k := 1) rfl rfl rfl rfl rfl rfl) rfl rfl (kk_wl ?_))
  obtain ⟨x6, hx6, h⟩ := bd h
  refine wl_u rfl (ow_cV rfl hb67 rfl (fun w hw => c_impl_FlowValid N _ _ hx6 w (Lay.at_ h_f_steps hw)) rfl rfl (kk_wl ?_))
  refine wl_u rfl (ow_y (yh_not rfl rfl) rfl rfl (kk_wl ?_))
  refine wl_u rfl (ow_y (yh_move rfl rfl) rfl rfl (kk_wl ?_))
  refine wl_s rfl rfl (fun c1 => ?_) (fun c1 => ?_)
  · skip
    replace h := bt c1 h
    refine wl_n rfl rfl rfl rfl ?_
    refine wl_n rfl rfl rfl rfl ?_
    refine wl_n rfl rfl rfl rfl ?_
    refine wl_u rfl (ow_y (yh_pickT rfl rfl rfl) rfl rfl (kk_wl ?_))
    refine wl_nil ?_
    refine ex_seq ?_
    refine cw_true rfl ?_
    refine cw_seq ?_
    refine cw_region ?_
    refine wl_u rfl (ow_y (yh_assign rfl rfl) rfl rfl (kk_wl ?_))
    refine wl_nil ?_
    refine ex_seq ?_
    refine cw_ret ?_
    refine ex_then_ret ?_
    refine ex_nilS strsL rfl ?_
    obtain rfl := Option.some.inj h
    exact ex_r1 Tb rfl (.tmp rfl) (fun wq hq => ⟨_, rfl, hq.ext, ⟨none, 0, [], rfl, NewC.sel [0] hq rfl⟩⟩)
  · skip
    replace h := bf c1 h
    refine wl_g rfl rfl (ow_y (yh_loadBA Tb (k := 0) rfl rfl rfl rfl rfl rfl) rfl rfl (kk_wl ?_))
    obtain ⟨x10, hx10, h⟩ := bd h
    refine wl_g rfl rfl (ow_cV rfl hb67 rfl (fun w hw => c_impl_FlowValid N _ _ hx10 w (Lay.at_ h_g_steps hw)) rfl rfl (kk_wl ?_))
    refine wl_g rfl rfl (ow_y (yh_not rfl rfl) rfl rfl (kk_wl ?_))
    refine wl_u rfl (ow_y (yh_pickF rfl rfl rfl) rfl rfl (kk_wl ?_))
    refine wl_nil ?_
    refine ex_seq ?_
    refine cw_split rfl (fun c2 => ?_) (fun c2 => ?_)
    · skip
      replace h := bt c2 h
      refine cw_seq ?_
      refine cw_region ?_
      refine wl_u rfl (ow_y (yh_assign rfl rfl) rfl rfl (kk_wl ?_))
      refine wl_nil ?_
      refine ex_seq ?_
      refine cw_ret ?_
      refine ex_then_ret ?_
      refine ex_nilS strsL rfl ?_
      obtain rfl := Option.some.inj h
      exact ex_r1 Tb rfl (.tmp rfl) (fun wq hq => ⟨_, rfl, hq.ext, ⟨none, 0, [], rfl, NewC.sel [0] hq rfl⟩⟩)
    · skip
      replace h := bf c2 h
      refine cw_skip ?_
      refine ex_seq ?_
      refine cw_seq ?_
      refine cw_region ?_
      refine wl_u rfl (ow_y (yh_loadBA Tb (k := 1) rfl rfl rfl rfl rfl rfl) rfl rfl (kk_wl ?_))
      obtain ⟨x14, hx14, h⟩ := bd h
      refine wl_u rfl (ow_cN1 rfl hb70 rfl (fun w hw => c_impl_Flow_names N _ _ hx14 w (Lay.at_ h_f_steps hw)) rfl rfl (fun a14 c14 F14 => kk_wl ?_))
      refine wl_u rfl (ow_y (yh_mkfn rfl rfl) rfl rfl (kk_wl ?_))
      obtain ⟨x16, hx16, h⟩ := bd h
      refine wl_u rfl (ow_cM1 0 rfl hb69 rfl rfl (fun w hw => c_slices_DeleteFunc_string N _ _ _ hx16 w (hw.at (i := 0) rfl) (hw.ndAt (i := 0) rfl) hb71 (fun x0 b hb w' hE => c_impl_FitNew_f1 N x0 g b hb w' (Lay.at_ h_g_steps (hw.stepX 0 rfl hE)) (cell_blk ((hw.stepX 0 rfl hE).at (i := 0) rfl)))) rfl rfl (fun a16 c16 F16 => kk_wl ?_))
      refine wl_u rfl (ow_y (yh_assign rfl rfl) rfl rfl (kk_wl ?_))
      refine wl_nil ?_
      refine ex_seq ?_
      refine cw_ret ?_
      obtain rfl := Option.some.inj h
      exact ex_r1 Tb rfl (.tmp rfl) (fun wq hq => ⟨_, rfl, hq.ext, ⟨a16, c16, F16, rfl, NewC.sel [0] hq rfl⟩⟩)

def m_laws_FnFitNew_L18 (N : Nat) (x16 : Flow × Flow) (x21 : List Str) : Nat → Nat → Nat → Option (Ex (Nat × Nat) (Bool))
  | 0, _, _ => none
  | n + 1, s7, s8 => (bif ltb ((s8 : Nat) : Int) ((x16.1.steps.length : Nat) : Int) then (x16.1.steps[s8]?).bind fun y54 => (m_impl_FlowFind N x16.2 y54.name).bind fun x57 => (bif !x57.2 then (bif leb ((x21.length : Nat) : Int) ((s7 : Nat) : Int) then some (Ex.ret false)
 else (x21[s7]?).bind fun y69 => (bif !(seq y69 y54.name) then some (Ex.ret false)
 else m_laws_FnFitNew_L18 N x16 x21 n (s7 + 1) (s8 + 1)))
 else m_laws_FnFitNew_L18 N x16 x21 n s7 (s8 + 1))
 else some (Ex.brk (s7, s8)))

def m_laws_FnFitNew (N : Nat) (u0 : List UInt8) : Option (Bool) := (bif ltb 1048576 ((u0.length : Nat) : Int) then some true
 else (m_spec_DrawFitNew N u0).bind fun x16 => (m_impl_FitNew N x16.1 x16.2).bind fun x21 => (m_spec_FitNew N x16.1 x16.2).bind fun x24 => (m_laws_sameTexts N x21 x24).bind fun x27 => (bif !x27 then (m_laws_sameTexts N x21 x24).bind fun x41 => some x41
 else (m_spec_FlowValid N x16.1).bind fun x31 => (bif !x31 then (m_laws_sameTexts N x21 x24).bind fun x41 => some x41
 else (m_spec_FlowValid N x16.2).bind fun x36 => (bif !x36 then (m_laws_sameTexts N x21 x24).bind fun x41 => some x41
 else (m_laws_FnFitNew_L18 N x16 x21 N 0 0).bind fun e18 => e18.go (fun r => r) fun b18 => (bif eqb ((b18.1 : Nat) : Int) ((x21.length : Nat) : Int) then (m_impl_FitNew N x16.1 x16.1).bind fun x88 => some (eqb ((x88.length : Nat) : Int) 0)
 else some false)))))

set_option maxHeartbeats 4000000 in
theorem c_laws_FnFitNew (N : Nat) (u0 : List UInt8) (res : Bool) (h : m_laws_FnFitNew N u0 = some res) (w : World) {a_u0 : Option Addr} {c_u0 : Nat} (h_u0 : bytesL.rd w [] [.slice a_u0 u0.length c_u0] u0) : Ret Try.prog 8 [.slice a_u0 u0.length c_u0] w [] fun v w' => v = .bool res := by
  have mh_u0 := rd_max h_u0
  unfold m_laws_FnFitNew at h
  refine ret_enter Try.func8 rfl Try.ntmps8 rfl (Hp.refl w _) ?_
  refine cw_seq ?_
  refine cw_region ?_
  refine wl_u rfl (ow_y (yh_assign rfl rfl) rfl rfl (kk_wl ?_))
  refine wl_nil ?_
  refine ex_seq ?_
  refine cw_seq ?_
  refine cw_seq ?_
  refine cw_region ?_
  refine wl_u rfl (ow_y (yh_move rfl rfl) rfl rfl (kk_wl ?_))
  refine wl_u rfl (ow_y (yh_lenS Tb rfl rfl rfl rfl) rfl rfl (kk_wl ?_))
  refine wl_u rfl (ow_y (yh_cmpI rfl rfl rfl rfl) rfl rfl (kk_wl ?_))
  refine wl_nil ?_
  refine ex_seq ?_
  refine cw_split rfl (fun c1 => ?_) (fun c1 => ?_)
  · skip
    replace h := bt c1 h
    have q1 := ltb_true.1 c1
    refine cw_seq ?_
    refine cw_region ?_
    refine wl_u rfl (ow_y (yh_assign rfl rfl) rfl rfl (kk_wl ?_))
    refine wl_nil ?_
    refine ex_seq ?_
    refine cw_ret ?_
    refine ex_then_ret ?_
    obtain rfl := Option.some.inj h
    exact ex_r1 Tb rfl (.tmp rfl) (fun wq hq => ⟨_, rfl, hq.ext, rfl⟩)
  · skip
    replace h := bf c1 h
    have q2 := ltb_false.1 c1
    refine cw_skip ?_
    refine ex_seq ?_
    refine cw_seq ?_
    refine cw_region ?_
    refine wl_u rfl (ow_y (yh_move rfl rfl) rfl rfl (kk_wl ?_))
    obtain ⟨x16, hx16, h⟩ := bd h
    refine wl_u rfl (ow_cN2 rfl hb28 rfl (fun w hw => c_spec_DrawFitNew N _ _ hx16 w (Lay.at_ h_u0 hw)) rfl rfl (fun a16 c16 F16 a16_2 c16_2 F16_2 => kk_wl ?_))
    refine wl_u rfl (ow_y (yh_move rfl rfl) rfl rfl (kk_wl ?_))
    refine wl_u rfl (ow_y (yh_extract rfl rfl rfl) rfl rfl (kk_wl ?_))
    refine wl_u rfl (ow_y (yh_extract rfl rfl rfl) rfl rfl (kk_wl ?_))
    refine wl_u rfl (ow_allocA Tb rfl rfl rfl rfl (fun g3 => kk_wl ?_))
    refine wl_u rfl (ow_allocA Tb rfl rfl rfl rfl (fun g4 => kk_wl ?_))
    refine wl_u rfl (ow_storeA Tb (k := 1) rfl rfl rfl rfl rfl rfl rfl rfl rfl (kk_wl ?_))
    refine wl_u rfl (ow_storeA Tb (k := 1) rfl rfl rfl rfl rfl rfl rfl rfl rfl (kk_wl ?_))
    refine wl_nil ?_
    refine ex_seq ?_
    refine cw_seq ?_
    refine cw_freeze 2 rfl (fun w1 M1 hb1_ hz1 => ?_)
    replace h_u0 := Lay.rb h_u0 hb1_
    have hB1 := hb1_
    have mz1 := rd_max hz1
    refine cw_freeze 2 rfl (fun w2 M2 hb2_ hz2 => ?_)
    replace h_u0 := Lay.rb h_u0 hb2_
    replace hz1 := Lay.rb hz1 hb2_
    have hB2 := hB1.trans hb2_
    have mz2 := rd_max hz2
    refine cw_region ?_
    refine wl_u rfl (ow_y (yh_loadBA Tb (k := 1) rfl rfl rfl rfl rfl rfl) rfl rfl (kk_wl ?_))
    refine wl_u rfl (ow_y (yh_loadBA Tb (k := 0) rfl rfl rfl rfl rfl rfl) rfl rfl (kk_wl ?_))
    obtain ⟨x21, hx21, h⟩ := bd h
    refine wl_u rfl (ow_cN1 rfl hb29 rfl (fun w hw => c_impl_FitNew N _ _ _ hx21 w (Lay.at_ hz1 hw) (Lay.at_ hz2 hw)) rfl rfl (fun a21 c21 F21 => kk_wl ?_))
    refine wl_u rfl (ow_y (yh_assign rfl rfl) rfl rfl (kk_wl ?_))
    refine wl_nil ?_
    refine ex_seq ?_
    refine cw_seq ?_
    refine cw_freeze 0 rfl (fun w3 M3 hb3_ hz3 => ?_)
    replace h_u0 := Lay.rb h_u0 hb3_
    replace hz1 := Lay.rb hz1 hb3_
    replace hz2 := Lay.rb hz2 hb3_
    have hB3 := hB2.trans hb3_
    have mz3 := rd_max hz3
    refine cw_region ?_
    refine wl_u rfl (ow_y (yh_loadBA Tb (k := 1) rfl rfl rfl rfl rfl rfl) rfl rfl (kk_wl ?_))
    refine wl_u rfl (ow_y (yh_loadBA Tb (k := 0) rfl rfl rfl rfl rfl rfl) rfl rfl (kk_wl ?_))
    obtain ⟨x24, hx24, h⟩ := bd h
    refine wl_u rfl (ow_cN1 rfl hb30 rfl (fun w hw => c_spec_FitNew N _ _ _ hx24 w (Lay.at_ hz1 hw) (Lay.at_ hz2 hw)) rfl rfl (fun a24 c24 F24 => kk_wl ?_))
    refine wl_u rfl (ow_y (yh_assign rfl rfl) rfl rfl (kk_wl ?_))
    refine wl_nil ?_
    refine ex_seq ?_
    refine cw_seq ?_
    refine cw_seq ?_
    refine cw_freeze 0 rfl (fun w4 M4 hb4_ hz4 => ?_)
    replace h_u0 := Lay.rb h_u0 hb4_
    replace hz1 := Lay.rb hz1 hb4_
    replace hz2 := Lay.rb hz2 hb4_
    replace hz3 := Lay.rb hz3 hb4_
    have hB4 := hB3.trans hb4_
    have mz4 := rd_max hz4
    refine cw_region ?_
    refine wl_u rfl (ow_y (yh_move rfl rfl) rfl rfl (kk_wl ?_))
    refine wl_u rfl (ow_y (yh_move rfl rfl) rfl rfl (kk_wl ?_))
    obtain ⟨x27, hx27, h⟩ := bd h
    refine wl_u rfl (ow_cV rfl hb23 rfl (fun w hw => c_laws_sameTexts N _ _ _ hx27 w (Lay.at_ hz3 hw) (Lay.at_ hz4 hw)) rfl rfl (kk_wl ?_))
    refine wl_u rfl (ow_y (yh_not rfl rfl) rfl rfl (kk_wl ?_))
    refine wl_u rfl (ow_y (yh_move rfl rfl) rfl rfl (kk_wl ?_))
    refine wl_s rfl rfl (fun c2 => ?_) (fun c2 => ?_)
    · skip
      replace h := bt c2 h
      refine wl_n rfl rfl rfl rfl ?_
      refine wl_n rfl rfl rfl rfl ?_
      refine wl_n rfl rfl rfl rfl ?_
      refine wl_u rfl (ow_y (yh_pickT rfl rfl rfl) rfl rfl (kk_wl ?_))
      refine wl_u rfl (ow_y (yh_move rfl rfl) rfl rfl (kk_wl ?_))
      refine wl_s rfl rfl (fun _ => ?_) nofun
      refine wl_n rfl rfl rfl rfl ?_
      refine wl_n rfl rfl rfl rfl ?_
      refine wl_n rfl rfl rfl rfl ?_
      refine wl_u rfl (ow_y (yh_pickT rfl rfl rfl) rfl rfl (kk_wl ?_))
      refine wl_nil ?_
      refine ex_seq ?_
      refine cw_true rfl ?_
      refine cw_seq ?_
      refine cw_region ?_
      refine wl_u rfl (ow_y (yh_move rfl rfl) rfl rfl (kk_wl ?_))
      refine wl_u rfl (ow_y (yh_move rfl rfl) rfl rfl (kk_wl ?_))
      obtain ⟨x41, hx41, h⟩ := bd h
      refine wl_u rfl (ow_cV rfl hb23 rfl (fun w hw => c_laws_sameTexts N _ _ _ hx41 w (Lay.at_ hz3 hw) (Lay.at_ hz4 hw)) rfl rfl (kk_wl ?_))
      refine wl_u rfl (ow_y (yh_assign rfl rfl) rfl rfl (kk_wl ?_))
      refine wl_nil ?_
      refine ex_seq ?_
      refine cw_ret ?_
      refine ex_then_ret ?_
      obtain rfl := Option.some.inj h
      exact ex_r1 Tb rfl (.tmp rfl) (fun wq hq => ⟨_, rfl, (hB4.back hq).ext, rfl⟩)
    · skip
      replace h := bf c2 h
      refine wl_g rfl rfl (ow_y (yh_loadBA Tb (k := 1) rfl rfl rfl rfl rfl rfl) rfl rfl (kk_wl ?_))
      obtain ⟨x31, hx31, h⟩ := bd h
      refine wl_g rfl rfl (ow_cV rfl hb31 rfl (fun w hw => c_spec_FlowValid N _ _ hx31 w (Lay.at_ hz1 hw)) rfl rfl (kk_wl ?_))
      refine wl_g rfl rfl (ow_y (yh_not rfl rfl) rfl rfl (kk_wl ?_))
      refine wl_u rfl (ow_y (yh_pickF rfl rfl rfl) rfl rfl (kk_wl ?_))
      refine wl_u rfl (ow_y (yh_move rfl rfl) rfl rfl (kk_wl ?_))
      refine wl_s rfl rfl (fun c3 => ?_) (fun c3 => ?_)
      · skip
        replace h := bt c3 h
        refine wl_n rfl rfl rfl rfl ?_
        refine wl_n rfl rfl rfl rfl ?_
        refine wl_n rfl rfl rfl rfl ?_
        refine wl_u rfl (ow_y (yh_pickT rfl rfl rfl) rfl rfl (kk_wl ?_))
        refine wl_nil ?_
        refine ex_seq ?_
        refine cw_true rfl ?_
        refine cw_seq ?_
        refine cw_region ?_
        refine wl_u rfl (ow_y (yh_move rfl rfl) rfl rfl (kk_wl ?_))
        refine wl_u rfl (ow_y (yh_move rfl rfl) rfl rfl (kk_wl ?_))
        obtain ⟨x41, hx41, h⟩ := bd h
        refine wl_u rfl (ow_cV rfl hb23 rfl (fun w hw => c_laws_sameTexts N _ _ _ hx41 w (Lay.at_ hz3 hw) (Lay.at_ hz4 hw)) rfl rfl (kk_wl ?_))
        refine wl_u rfl (ow_y (yh_assign rfl rfl) rfl rfl (kk_wl ?_))
        refine wl_nil ?_
        refine ex_seq ?_
        refine cw_ret ?_
        refine ex_then_ret ?_
        obtain rfl := Option.some.inj h
        exact ex_r1 Tb rfl (.tmp rfl) (fun wq hq => ⟨_, rfl, (hB4.back hq).ext, rfl⟩)
      · skip
        replace h := bf c3 h
        refine wl_g rfl rfl (ow_y (yh_loadBA Tb (k := 0) rfl rfl rfl rfl rfl rfl) rfl rfl (kk_wl ?_))
        obtain ⟨x36, hx36, h⟩ := bd h
        refine wl_g rfl rfl (ow_cV rfl hb31 rfl (fun w hw => c_spec_FlowValid N _ _ hx36 w (Lay.at_ hz2 hw)) rfl rfl (kk_wl ?_))
        refine wl_g rfl rfl (ow_y (yh_not rfl rfl) rfl rfl (kk_wl ?_))
        refine wl_u rfl (ow_y (yh_pickF rfl rfl rfl) rfl rfl (kk_wl ?_))
        refine wl_nil ?_
        refine ex_seq ?_
        refine cw_split rfl (fun c4 => ?_) (fun c4 => ?_)
        · skip
          replace h := bt c4 h
          refine cw_seq ?_
          refine cw_region ?_
          refine wl_u rfl (ow_y (yh_move rfl rfl) rfl rfl (kk_wl ?_))
          refine wl_u rfl (ow_y (yh_move rfl rfl) rfl rfl (kk_wl ?_))
          obtain ⟨x41, hx41, h⟩ := bd h
          refine wl_u rfl (ow_cV rfl hb23 rfl (fun w hw => c_laws_sameTexts N _ _ _ hx41 w (Lay.at_ hz3 hw) (Lay.at_ hz4 hw)) rfl rfl (kk_wl ?_))
          refine wl_u rfl (ow_y (yh_assign rfl rfl) rfl rfl (kk_wl ?_))
          refine wl_nil ?_
          refine ex_seq ?_
          refine cw_ret ?_
          refine ex_then_ret ?_
          obtain rfl := Option.some.inj h
          exact ex_r1 Tb rfl (.tmp rfl) (fun wq hq => ⟨_, rfl, (hB4.back hq).ext, rfl⟩)
        · skip
          replace h := bf c4 h
          refine cw_skip ?_
          refine ex_seq ?_
          refine cw_seq ?_
          refine cw_region ?_
          refine wl_u rfl (ow_y (yh_assign rfl rfl) rfl rfl (kk_wl ?_))
          refine wl_nil ?_
          refine ex_seq ?_
          refine cw_seq ?_
          refine cw_seq ?_
          refine cw_region ?_
          refine wl_u rfl (ow_y (yh_assign rfl rfl) rfl rfl (kk_wl ?_))
          refine wl_nil ?_
          refine ex_seq ?_
          refine cw_block ?_
          obtain ⟨e18, he18, hk18⟩ := bd h
          clear h
          refine cw_loopG (σ := Nat × Nat × Nat) (fun s => m_laws_FnFitNew_L18 N x16 x21 s.1 s.2.1 s.2.2 = some e18) (fun s => [(3, .pointer (some ⟨g3, 0, none⟩)), (4, .pointer (some ⟨g4, 0, none⟩)), (5, .slice a21 x21.length c21), (7, .int .i64 ((s.2.1 : Nat) : Int)), (8, .int .i64 ((s.2.2 : Nat) : Int))]) (fun s => [blkC g3 46 [.int .i64 x16.1.ver, .slice a16 x16.1.steps.length c16], blkC g4 46 [.int .i64 x16.2.ver, .slice a16_2 x16.2.steps.length c16_2]]) (fun s => s.1) (N, 0, 0) [1, 0] he18 ⟨rfl, rfl, rfl, rfl, rfl, trivial⟩ rfl (fun KL s he18 hn18 => ?_)
          obtain ⟨n18, s7, s8⟩ := s
          simp only at he18 hn18 ⊢
          rcases n18 with _ | n18
          · exact nosome he18
          have h := he18; rw [m_laws_FnFitNew_L18] at h
          refine cw_seq ?_
          refine cw_seq ?_
          refine cw_region ?_
          refine wl_u rfl (ow_y (yh_move rfl rfl) rfl rfl (kk_wl ?_))
          refine wl_u rfl (ow_y (yh_field Tb rfl rfl rfl) rfl rfl (kk_wl ?_))
          refine wl_u rfl (ow_y (yh_loadB Tb (k := 0) rfl rfl rfl rfl rfl) rfl rfl (kk_wl ?_))
          refine wl_u rfl (ow_y (yh_lenS Tb rfl rfl rfl rfl) rfl rfl (kk_wl ?_))
          refine wl_u rfl (ow_y (yh_cmpI rfl rfl rfl rfl) rfl rfl (kk_wl ?_))
          refine wl_nil ?_
          refine ex_seq ?_
          refine cw_split rfl (fun c5 => ?_) (fun c5 => ?_)
          · skip
            replace h := bt c5 h
            have q3 := ltb_true.1 c5
            refine cw_skip ?_
            refine ex_seq ?_
            refine cw_seq ?_
            refine cw_block ?_
            refine cw_seq ?_
            refine cw_dr [0, 1, 2, 3, 4, 5, 6, 8, 9, 10, 13] [] [blkC g3 46 [.int .i64 x16.1.ver, .slice a16 x16.1.steps.length c16], blkC g4 46 [.int .i64 x16.2.ver, .slice a16_2 x16.2.steps.length c16_2]] (by kernel_rfl) ?_
            refine wd_take (i := 0) [0, 1] rfl rfl rfl rfl rfl (by kernel_rfl) rfl (fun _ _ _ _ h => h) (yh_loadBA Tb (k := 1) rfl rfl rfl rfl rfl rfl) ?_
            refine wd_take (i := 1) [0, 1] rfl rfl rfl rfl rfl (by kernel_rfl) rfl (fun _ _ _ _ h => h) (yh_field Tb rfl rfl rfl) ?_
            refine wd_take (i := 2) [0, 1] rfl rfl rfl rfl rfl (by kernel_rfl) rfl (fun _ _ _ _ h => h) (yh_loadB Tb (k := 0) rfl rfl rfl rfl rfl) ?_
            refine wd_take (i := 3) [0, 1] rfl rfl rfl rfl rfl (by kernel_rfl) rfl (fun _ _ _ _ h => h) (yh_move rfl rfl) ?_
            obtain ⟨y54, hy54, h⟩ := bd h
            obtain ⟨b54, o54, ha54⟩ := sl_addr hz1 hy54
            subst ha54
            obtain ⟨a54, e54, hc54, hf54⟩ := get_step hz1 hy54
            have mx54 := rd_max hf54
            refine wd_take (i := 4) [0, 1] rfl rfl rfl rfl rfl (by kernel_rfl) rfl (fun _ _ _ _ h => h) (yh_idx Tb (k := s8) rfl rfl rfl rfl (get_lt hy54) rfl rfl) ?_
            refine wd_take (i := 5) [0, 1] rfl rfl rfl rfl rfl (by kernel_rfl) rfl (fun _ _ _ _ h => h) (yh_field Tb rfl rfl rfl) ?_
            refine wd_take (i := 6) [0, 1] rfl rfl rfl rfl rfl (by kernel_rfl) rfl (fun _ _ _ _ h => h) (yh_loadAF Tb (j := 0) rfl rfl rfl hc54 rfl) ?_
            refine wd_all [7, 11] (by kernel_rfl) (by simp) (fun i hi => ?_)
            simp only [List.mem_cons, List.not_mem_nil, or_false] at hi
            rcases hi with rfl | rfl
            · refine ⟨_, rfl, rfl, ?_⟩
              obtain ⟨x57, hx57, h⟩ := bd h
              refine (ow_cN1 rfl hb32 rfl (fun w hw => c_impl_FlowFind N _ _ _ hx57 w (Lay.at_ hz2 hw)) rfl rfl (fun a57 c57 F57 => kk_wd [1, 2] rfl ?_))
              refine wd_take (i := 8) [1, 2] rfl rfl rfl rfl rfl (by kernel_rfl) rfl (fun _ _ _ _ h => h) (yh_move rfl rfl) ?_
              refine wd_take (i := 9) [1, 2] rfl rfl rfl rfl rfl (by kernel_rfl) rfl (fun _ _ _ _ h => h) (yh_extract rfl rfl rfl) ?_
              refine wd_take (i := 10) [1, 2] rfl rfl rfl rfl rfl (by kernel_rfl) rfl (fun _ _ _ _ h => h) (yh_extract rfl rfl rfl) ?_
              refine wd_one 11 rfl rfl (by kernel_rfl) (ow_allocA Tb rfl rfl rfl rfl (fun g9 => kk_wd [2, 3] rfl ?_))
              refine wd_one 12 rfl rfl (by kernel_rfl) (ow_storeA Tb (k := 0) rfl rfl rfl rfl rfl rfl rfl rfl rfl (kk_wd [2, 3] rfl ?_))
              refine wd_take (i := 13) [2, 3] rfl rfl rfl rfl rfl (by kernel_rfl) rfl (fun _ _ _ _ h => h) (yh_assign rfl rfl) ?_
              refine wd_done (by kernel_rfl) ?_
              refine ex_seq ?_
              refine cw_seq ?_
              refine cw_freeze 1 rfl (fun w5 M5 hb5_ hz5 => ?_)
              replace h_u0 := Lay.rb h_u0 hb5_
              replace hz1 := Lay.rb hz1 hb5_
              replace hz2 := Lay.rb hz2 hb5_
              replace hz3 := Lay.rb hz3 hb5_
              replace hz4 := Lay.rb hz4 hb5_
              replace hf54 := Lay.rb hf54 hb5_
              replace hc54 := CellN.rb hc54 (by simp) hb5_
              have hB5 := hB4.trans hb5_
              have mz5 := rd_max hz5
              refine cw_region ?_
              refine wl_u rfl (ow_y (yh_move rfl rfl) rfl rfl (kk_wl ?_))
              refine wl_u rfl (ow_y (yh_not rfl rfl) rfl rfl (kk_wl ?_))
              refine wl_nil ?_
              refine ex_seq ?_
              refine cw_split rfl (fun c6 => ?_) (fun c6 => ?_)
              · skip
                replace h := bt c6 h
                refine cw_seq ?_
                refine cw_seq ?_
                refine cw_dr [0, 1, 2, 3, 4, 5, 6, 7, 8, 9, 10, 11, 12, 13, 14, 15, 16] [] [blkC g9 52 [.string x57.1.name, .slice a57 x57.1.after.length c57, .bool x57.1.undo], blkC g3 46 [.int .i64 x16.1.ver, .slice (some ⟨b54, o54, none⟩) x16.1.steps.length c16], blkC g4 46 [.int .i64 x16.2.ver, .slice a16_2 x16.2.steps.length c16_2]] (by kernel_rfl) ?_
                refine wd_take (i := 0) [0, 1, 2] rfl rfl rfl rfl rfl (by kernel_rfl) rfl (fun _ _ _ _ h => h) (yh_move rfl rfl) ?_
                refine wd_take (i := 1) [0, 1, 2] rfl rfl rfl rfl rfl (by kernel_rfl) rfl (fun _ _ _ _ h => h) (yh_move rfl rfl) ?_
                refine wd_take (i := 2) [0, 1, 2] rfl rfl rfl rfl rfl (by kernel_rfl) rfl (fun _ _ _ _ h => h) (yh_lenS Tb rfl rfl rfl rfl) ?_
                refine wd_take (i := 3) [0, 1, 2] rfl rfl rfl rfl rfl (by kernel_rfl) rfl (fun _ _ _ _ h => h) (yh_cmpI rfl rfl rfl rfl) ?_
                refine wd_take (i := 4) [0, 1, 2] rfl rfl rfl rfl rfl (by kernel_rfl) rfl (fun _ _ _ _ h => h) (yh_move rfl rfl) ?_
                refine wd_split 5 rfl rfl rfl (fun c7 => ?_) (fun c7 => ?_)
                · skip
                  replace h := bt c7 h
                  have q4 := leb_true.1 c7
                  refine wd_skip (i := 5) [0, 1, 2] rfl rfl rfl rfl (by kernel_rfl) rfl (fun _ _ _ h => h) ?_
                  refine wd_skip (i := 6) [0, 1, 2] rfl rfl rfl rfl (by kernel_rfl) rfl (fun _ _ _ h => h) ?_
                  refine wd_skip (i := 7) [0, 1, 2] rfl rfl rfl rfl (by kernel_rfl) rfl (fun _ _ _ h => h) ?_
                  refine wd_skip (i := 8) [0, 1, 2] rfl rfl rfl rfl (by kernel_rfl) rfl (fun _ _ _ h => h) ?_
                  refine wd_skip (i := 9) [0, 1, 2] rfl rfl rfl rfl (by kernel_rfl) rfl (fun _ _ _ h => h) ?_
                  refine wd_skip (i := 10) [0, 1, 2] rfl rfl rfl rfl (by kernel_rfl) rfl (fun _ _ _ h => h) ?_
                  refine wd_skip (i := 11) [0, 1, 2] rfl rfl rfl rfl (by kernel_rfl) rfl (fun _ _ _ h => h) ?_
                  refine wd_skip (i := 12) [0, 1, 2] rfl rfl rfl rfl (by kernel_rfl) rfl (fun _ _ _ h => h) ?_
                  refine wd_skip (i := 13) [0, 1, 2] rfl rfl rfl rfl (by kernel_rfl) rfl (fun _ _ _ h => h) ?_
                  refine wd_skip (i := 14) [0, 1, 2] rfl rfl rfl rfl (by kernel_rfl) rfl (fun _ _ _ h => h) ?_
                  refine wd_skip (i := 15) [0, 1, 2] rfl rfl rfl rfl (by kernel_rfl) rfl (fun _ _ _ h => h) ?_
                  refine wd_take (i := 16) [0, 1, 2] rfl rfl rfl rfl rfl (by kernel_rfl) rfl (fun _ _ _ _ h => h) (yh_pickT rfl rfl rfl) ?_
                  refine wd_done (by kernel_rfl) ?_
                  refine ex_seq ?_
                  refine cw_true rfl ?_
                  refine cw_seq ?_
                  refine cw_region ?_
                  refine wl_u rfl (ow_y (yh_assign rfl rfl) rfl rfl (kk_wl ?_))
                  refine wl_nil ?_
                  refine ex_seq ?_
                  refine cw_ret ?_
                  refine ex_then_ret ?_
                  refine ex_block_ret ?_
                  refine ex_then_ret ?_
                  refine ex_then_ret ?_
                  refine ex_block_ret ?_
                  refine ex_then_ret ?_
                  obtain rfl := Option.some.inj h
                  obtain rfl := go_ret hk18
                  exact ex_r1 Tb rfl (.tmp rfl) (fun wq hq => ⟨_, rfl, (hB5.back hq).ext, rfl⟩)
                · skip
                  replace h := bf c7 h
                  have q5 := leb_false.1 c7
                  refine wd_take (i := 5) [0, 1, 2] rfl rfl rfl rfl rfl (by kernel_rfl) rfl (fun _ _ _ _ h => h) (yh_move rfl rfl) ?_
                  refine wd_take (i := 6) [0, 1, 2] rfl rfl rfl rfl rfl (by kernel_rfl) rfl (fun _ _ _ _ h => h) (yh_move rfl rfl) ?_
                  obtain ⟨y69, hy69, h⟩ := bd h
                  obtain ⟨b69, o69, ha69⟩ := sl_addr hz3 hy69
                  subst ha69
                  have hc69 := get_str hz3 hy69
                  refine wd_take (i := 7) [0, 1, 2] rfl rfl rfl rfl rfl (by kernel_rfl) rfl (fun _ _ _ _ h => h) (yh_idx Tb (k := s7) rfl rfl rfl rfl (get_lt hy69) rfl rfl) ?_
                  refine wd_take (i := 8) [0, 1, 2] rfl rfl rfl rfl rfl (by kernel_rfl) rfl (fun _ _ _ _ h => h) (yh_loadA0 Tb rfl rfl rfl hc69 rfl) ?_
                  refine wd_take (i := 9) [0, 1, 2] rfl rfl rfl rfl rfl (by kernel_rfl) rfl (fun _ _ _ _ h => h) (yh_field Tb rfl rfl rfl) ?_
                  refine wd_take (i := 10) [0, 1, 2] rfl rfl rfl rfl rfl (by kernel_rfl) rfl (fun _ _ _ _ h => h) (yh_loadB Tb (k := 1) rfl rfl rfl rfl rfl) ?_
                  refine wd_take (i := 11) [0, 1, 2] rfl rfl rfl rfl rfl (by kernel_rfl) rfl (fun _ _ _ _ h => h) (yh_move rfl rfl) ?_
                  refine wd_take (i := 12) [0, 1, 2] rfl rfl rfl rfl rfl (by kernel_rfl) rfl (fun _ _ _ _ h => h) (yh_idx Tb (k := s8) rfl rfl rfl rfl (get_lt hy54) rfl rfl) ?_
                  refine wd_take (i := 13) [0, 1, 2] rfl rfl rfl rfl rfl (by kernel_rfl) rfl (fun _ _ _ _ h => h) (yh_field Tb rfl rfl rfl) ?_
                  refine wd_take (i := 14) [0, 1, 2] rfl rfl rfl rfl rfl (by kernel_rfl) rfl (fun _ _ _ _ h => h) (yh_loadAF Tb (j := 0) rfl rfl rfl hc54 rfl) ?_
                  refine wd_take (i := 15) [0, 1, 2] rfl rfl rfl rfl rfl (by kernel_rfl) rfl (fun _ _ _ _ h => h) (yh_cmpS rfl rfl rfl rfl) ?_
                  refine wd_take (i := 16) [0, 1, 2] rfl rfl rfl rfl rfl (by kernel_rfl) rfl (fun _ _ _ _ h => h) (yh_pickF rfl rfl rfl) ?_
                  refine wd_done (by kernel_rfl) ?_
                  refine ex_seq ?_
                  refine cw_split rfl (fun c8 => ?_) (fun c8 => ?_)
                  · skip
                    replace h := bt c8 h
                    refine cw_seq ?_
                    refine cw_region ?_
                    refine wl_u rfl (ow_y (yh_assign rfl rfl) rfl rfl (kk_wl ?_))
                    refine wl_nil ?_
                    refine ex_seq ?_
                    refine cw_ret ?_
                    refine ex_then_ret ?_
                    refine ex_block_ret ?_
                    refine ex_then_ret ?_
                    refine ex_then_ret ?_
                    refine ex_block_ret ?_
                    refine ex_then_ret ?_
                    obtain rfl := Option.some.inj h
                    obtain rfl := go_ret hk18
                    exact ex_r1 Tb rfl (.tmp rfl) (fun wq hq => ⟨_, rfl, (hB5.back hq).ext, rfl⟩)
                  · skip
                    replace h := bf c8 h
                    refine cw_skip ?_
                    refine ex_seq ?_
                    refine cw_region ?_
                    refine wl_u rfl (ow_y (yh_move rfl rfl) rfl rfl (kk_wl ?_))
                    refine wl_u rfl (ow_y (yh_arI rfl rfl rfl rfl (by omega)) rfl rfl (kk_wl ?_))
                    refine wl_u rfl (ow_y (yh_assign rfl rfl) rfl rfl (kk_wl ?_))
                    refine wl_nil ?_
                    refine ex_block_normal ?_
                    refine ex_seq ?_
                    refine cw_region ?_
                    refine wl_u rfl (ow_y (yh_move rfl rfl) rfl rfl (kk_wl ?_))
                    refine wl_u rfl (ow_y (yh_arI rfl rfl rfl rfl (by omega)) rfl rfl (kk_wl ?_))
                    refine wl_u rfl (ow_y (yh_assign rfl rfl) rfl rfl (kk_wl ?_))
                    refine wl_nil ?_
                    exact ex_nextB hb5_ [1, 2] (hn18 (n18, s7 + 1, s8 + 1) (Nat.lt_succ_self _) h) ⟨rfl, rfl, rfl, rfl, rfl, trivial⟩ rfl
              · skip
                replace h := bf c6 h
                refine cw_skip ?_
                refine ex_block_normal ?_
                refine ex_seq ?_
                refine cw_region ?_
                refine wl_u rfl (ow_y (yh_move rfl rfl) rfl rfl (kk_wl ?_))
                refine wl_u rfl (ow_y (yh_arI rfl rfl rfl rfl (by omega)) rfl rfl (kk_wl ?_))
                refine wl_u rfl (ow_y (yh_assign rfl rfl) rfl rfl (kk_wl ?_))
                refine wl_nil ?_
                exact ex_nextB hb5_ [1, 2] (hn18 (n18, s7, s8 + 1) (Nat.lt_succ_self _) h) ⟨rfl, rfl, rfl, rfl, rfl, trivial⟩ rfl
            · refine ⟨_, rfl, rfl, ?_⟩
              refine (ow_allocA Tb rfl rfl rfl rfl (fun g9 => kk_wd [1, 2] rfl ?_))
              obtain ⟨x57, hx57, h⟩ := bd h
              refine wd_one 7 rfl rfl (by kernel_rfl) (ow_cN1 rfl hb32 rfl (fun w hw => c_impl_FlowFind N _ _ _ hx57 w (Lay.at_ hz2 hw)) rfl rfl (fun a57 c57 F57 => kk_wd [2, 3] rfl ?_))
              refine wd_take (i := 8) [2, 3] rfl rfl rfl rfl rfl (by kernel_rfl) rfl (fun _ _ _ _ h => h) (yh_move rfl rfl) ?_
              refine wd_take (i := 9) [2, 3] rfl rfl rfl rfl rfl (by kernel_rfl) rfl (fun _ _ _ _ h => h) (yh_extract rfl rfl rfl) ?_
              refine wd_take (i := 10) [2, 3] rfl rfl rfl rfl rfl (by kernel_rfl) rfl (fun _ _ _ _ h => h) (yh_extract rfl rfl rfl) ?_
              refine wd_one 12 rfl rfl (by kernel_rfl) (ow_storeA Tb (k := 1) rfl rfl rfl rfl rfl rfl rfl rfl rfl (kk_wd [2, 3] rfl ?_))
              refine wd_take (i := 13) [2, 3] rfl rfl rfl rfl rfl (by kernel_rfl) rfl (fun _ _ _ _ h => h) (yh_assign rfl rfl) ?_
              refine wd_done (by kernel_rfl) ?_
              refine ex_seq ?_
              refine cw_seq ?_
              refine cw_freeze 1 rfl (fun w6 M6 hb6_ hz6 => ?_)
              replace h_u0 := Lay.rb h_u0 hb6_
              replace hz1 := Lay.rb hz1 hb6_
              replace hz2 := Lay.rb hz2 hb6_
              replace hz3 := Lay.rb hz3 hb6_
              replace hz4 := Lay.rb hz4 hb6_
              replace hf54 := Lay.rb hf54 hb6_
              replace hc54 := CellN.rb hc54 (by simp) hb6_
              have hB6 := hB4.trans hb6_
              have mz6 := rd_max hz6
              refine cw_region ?_
              refine wl_u rfl (ow_y (yh_move rfl rfl) rfl rfl (kk_wl ?_))
              refine wl_u rfl (ow_y (yh_not rfl rfl) rfl rfl (kk_wl ?_))
              refine wl_nil ?_
              refine ex_seq ?_
              refine cw_split rfl (fun c9 => ?_) (fun c9 => ?_)
              · skip
                replace h := bt c9 h
                refine cw_seq ?_
                refine cw_seq ?_
                refine cw_dr [0, 1, 2, 3, 4, 5, 6, 7, 8, 9, 10, 11, 12, 13, 14, 15, 16] [] [blkC g9 52 [.string x57.1.name, .slice a57 x57.1.after.length c57, .bool x57.1.undo], blkC g3 46 [.int .i64 x16.1.ver, .slice (some ⟨b54, o54, none⟩) x16.1.steps.length c16], blkC g4 46 [.int .i64 x16.2.ver, .slice a16_2 x16.2.steps.length c16_2]] (by kernel_rfl) ?_
                refine wd_take (i := 0) [0, 1, 2] rfl rfl rfl rfl rfl (by kernel_rfl) rfl (fun _ _ _ _ h => h) (yh_move rfl rfl) ?_
                refine wd_take (i := 1) [0, 1, 2] rfl rfl rfl rfl rfl (by kernel_rfl) rfl (fun _ _ _ _ h => h) (yh_move rfl rfl) ?_
                refine wd_take (i := 2) [0, 1, 2] rfl rfl rfl rfl rfl (by kernel_rfl) rfl (fun _ _ _ _ h => h) (yh_lenS Tb rfl rfl rfl rfl) ?_
                refine wd_take (i := 3) [0, 1, 2] rfl rfl rfl rfl rfl (by kernel_rfl) rfl (fun _ _ _ _ h => h) (yh_cmpI rfl rfl rfl rfl) ?_
                refine wd_take (i := 4) [0, 1, 2] rfl rfl rfl rfl rfl (by kernel_rfl) rfl (fun _ _ _ _ h => h) (yh_move rfl rfl) ?_
                refine wd_split 5 rfl rfl rfl (fun c10 => ?_) (fun c10 => ?_)
                · skip
                  replace h := bt c10 h
                  have q6 := leb_true.1 c10
                  refine wd_skip (i := 5) [0, 1, 2] rfl rfl rfl rfl (by kernel_rfl) rfl (fun _ _ _ h => h) ?_
                  refine wd_skip (i := 6) [0, 1, 2] rfl rfl rfl rfl (by kernel_rfl) rfl (fun _ _ _ h => h) ?_
                  refine wd_skip (i := 7) [0, 1, 2] rfl rfl rfl rfl (by kernel_rfl) rfl (fun _ _ _ h => h) ?_
                  refine wd_skip (i := 8) [0, 1, 2] rfl rfl rfl rfl (by kernel_rfl) rfl (fun _ _ _ h => h) ?_
                  refine wd_skip (i := 9) [0, 1, 2] rfl rfl rfl rfl (by kernel_rfl) rfl (fun _ _ _ h => h) ?_
                  refine wd_skip (i := 10) [0, 1, 2] rfl rfl rfl rfl (by kernel_rfl) rfl (fun _ _ _ h => h) ?_
                  refine wd_skip (i := 11) [0, 1, 2] rfl rfl rfl rfl (by kernel_rfl) rfl (fun _ _ _ h => h) ?_
                  refine wd_skip (i := 12) [0, 1, 2] rfl rfl rfl rfl (by kernel_rfl) rfl (fun _ _ _ h => h) ?_
                  refine wd_skip (i := 13) [0, 1, 2] rfl rfl rfl rfl (by kernel_rfl) rfl (fun _ _ _ h => h) ?_
                  refine wd_skip (i := 14) [0, 1, 2] rfl rfl rfl rfl (by kernel_rfl) rfl (fun _ _ _ h => h) ?_
                  refine wd_skip (i := 15) [0, 1, 2] rfl rfl rfl rfl (by kernel_rfl) rfl (fun _ _ _ h => h) ?_
                  refine wd_take (i := 16) [0, 1, 2] rfl rfl rfl rfl rfl (by kernel_rfl) rfl (fun _ _ _ _ h => h) (yh_pickT rfl rfl rfl) ?_
                  refine wd_done (by kernel_rfl) ?_
                  refine ex_seq ?_
                  refine cw_true rfl ?_
                  refine cw_seq ?_
                  refine cw_region ?_
                  refine wl_u rfl (ow_y (yh_assign rfl rfl) rfl rfl (kk_wl ?_))
                  refine wl_nil ?_
                  refine ex_seq ?_
                  refine cw_ret ?_
                  refine ex_then_ret ?_
                  refine ex_block_ret ?_
                  refine ex_then_ret ?_
                  refine ex_then_ret ?_
                  refine ex_block_ret ?_
                  refine ex_then_ret ?_
                  obtain rfl := Option.some.inj h
                  obtain rfl := go_ret hk18
                  exact ex_r1 Tb rfl (.tmp rfl) (fun wq hq => ⟨_, rfl, (hB6.back hq).ext, rfl⟩)
                · skip
                  replace h := bf c10 h
                  have q7 := leb_false.1 c10
                  refine wd_take (i := 5) [0, 1, 2] rfl rfl rfl rfl rfl (by kernel_rfl) rfl (fun _ _ _ _ h => h) (yh_move rfl rfl) ?_
                  refine wd_take (i := 6) [0, 1, 2] rfl rfl rfl rfl rfl (by kernel_rfl) rfl (fun _ _ _ _ h => h) (yh_move rfl rfl) ?_
                  obtain ⟨y69, hy69, h⟩ := bd h
                  obtain ⟨b69, o69, ha69⟩ := sl_addr hz3 hy69
                  subst ha69
                  have hc69 := get_str hz3 hy69
                  refine wd_take (i := 7) [0, 1, 2] rfl rfl rfl rfl rfl (by kernel_rfl) rfl (fun _ _ _ _ h => h) (yh_idx Tb (k := s7) rfl rfl rfl rfl (get_lt hy69) rfl rfl) ?_
                  refine wd_take (i := 8) [0, 1, 2] rfl rfl rfl rfl rfl (by kernel_rfl) rfl (fun _ _ _ _ h => h) (yh_loadA0 Tb rfl rfl rfl hc69 rfl) ?_
                  refine wd_take (i := 9) [0, 1, 2] rfl rfl rfl rfl rfl (by kernel_rfl) rfl (fun _ _ _ _ h => h) (yh_field Tb rfl rfl rfl) ?_
                  refine wd_take (i := 10) [0, 1, 2] rfl rfl rfl rfl rfl (by kernel_rfl) rfl (fun _ _ _ _ h => h) (yh_loadB Tb (k := 1) rfl rfl rfl rfl rfl) ?_
                  refine wd_take (i := 11) [0, 1, 2] rfl rfl rfl rfl rfl (by kernel_rfl) rfl (fun _ _ _ _ h => h) (yh_move rfl rfl) ?_
                  refine wd_take (i := 12) [0, 1, 2] rfl rfl rfl rfl rfl (by kernel_rfl) rfl (fun _ _ _ _ h => h) (yh_idx Tb (k := s8) rfl rfl rfl rfl (get_lt hy54) rfl rfl) ?_
                  refine wd_take (i := 13) [0, 1, 2] rfl rfl rfl rfl rfl (by kernel_rfl) rfl (fun _ _ _ _ h => h) (yh_field Tb rfl rfl rfl) ?_
                  refine wd_take (i := 14) [0, 1, 2] rfl rfl rfl rfl rfl (by kernel_rfl) rfl (fun _ _ _ _ h => h) (yh_loadAF Tb (j := 0) rfl rfl rfl hc54 rfl) ?_
                  refine wd_take (i := 15) [0, 1, 2] rfl rfl rfl rfl rfl (by kernel_rfl) rfl (fun _ _ _ _ h => h) (yh_cmpS rfl rfl rfl rfl) ?_
                  refine wd_take (i := 16) [0, 1, 2] rfl rfl rfl rfl rfl (by kernel_rfl) rfl (fun _ _ _ _ h => h) (yh_pickF rfl rfl rfl) ?_
                  refine wd_done (by kernel_rfl) ?_
                  refine ex_seq ?_
                  refine cw_split rfl (fun c11 => ?_) (fun c11 => ?_)
                  · skip
                    replace h := bt c11 h
                    refine cw_seq ?_
                    refine cw_region ?_
                    refine wl_u rfl (ow_y (yh_assign rfl rfl) rfl rfl (kk_wl ?_))
                    refine wl_nil ?_
                    refine ex_seq ?_
                    refine cw_ret ?_
                    refine ex_then_ret ?_
                    refine ex_block_ret ?_
                    refine ex_then_ret ?_
                    refine ex_then_ret ?_
                    refine ex_block_ret ?_
                    refine ex_then_ret ?_
                    obtain rfl := Option.some.inj h
                    obtain rfl := go_ret hk18
                    exact ex_r1 Tb rfl (.tmp rfl) (fun wq hq => ⟨_, rfl, (hB6.back hq).ext, rfl⟩)
                  · skip
                    replace h := bf c11 h
                    refine cw_skip ?_
                    refine ex_seq ?_
                    refine cw_region ?_
                    refine wl_u rfl (ow_y (yh_move rfl rfl) rfl rfl (kk_wl ?_))
                    refine wl_u rfl (ow_y (yh_arI rfl rfl rfl rfl (by omega)) rfl rfl (kk_wl ?_))
                    refine wl_u rfl (ow_y (yh_assign rfl rfl) rfl rfl (kk_wl ?_))
                    refine wl_nil ?_
                    refine ex_block_normal ?_
                    refine ex_seq ?_
                    refine cw_region ?_
                    refine wl_u rfl (ow_y (yh_move rfl rfl) rfl rfl (kk_wl ?_))
                    refine wl_u rfl (ow_y (yh_arI rfl rfl rfl rfl (by omega)) rfl rfl (kk_wl ?_))
                    refine wl_u rfl (ow_y (yh_assign rfl rfl) rfl rfl (kk_wl ?_))
                    refine wl_nil ?_
                    exact ex_nextB hb6_ [1, 2] (hn18 (n18, s7 + 1, s8 + 1) (Nat.lt_succ_self _) h) ⟨rfl, rfl, rfl, rfl, rfl, trivial⟩ rfl
              · skip
                replace h := bf c9 h
                refine cw_skip ?_
                refine ex_block_normal ?_
                refine ex_seq ?_
                refine cw_region ?_
                refine wl_u rfl (ow_y (yh_move rfl rfl) rfl rfl (kk_wl ?_))
                refine wl_u rfl (ow_y (yh_arI rfl rfl rfl rfl (by omega)) rfl rfl (kk_wl ?_))
                refine wl_u rfl (ow_y (yh_assign rfl rfl) rfl rfl (kk_wl ?_))
                refine wl_nil ?_
                exact ex_nextB hb6_ [1, 2] (hn18 (n18, s7, s8 + 1) (Nat.lt_succ_self _) h) ⟨rfl, rfl, rfl, rfl, rfl, trivial⟩ rfl
          · skip
            replace h := bf c5 h
            have q8 := ltb_false.1 c5
            refine cw_exit ?_
            refine ex_then_exit ?_
            refine ex_then_exit ?_
            obtain rfl := Option.some.inj h
            have h := go_brk hk18
            refine ex_block_exit ?_
            refine ex_seq ?_
            refine cw_seq ?_
            refine cw_region ?_
            refine wl_u rfl (ow_y (yh_move rfl rfl) rfl rfl (kk_wl ?_))
            refine wl_u rfl (ow_y (yh_move rfl rfl) rfl rfl (kk_wl ?_))
            refine wl_u rfl (ow_y (yh_lenS Tb rfl rfl rfl rfl) rfl rfl (kk_wl ?_))
            refine wl_u rfl (ow_y (yh_cmpI rfl rfl rfl rfl) rfl rfl (kk_wl ?_))
            refine wl_u rfl (ow_y (yh_move rfl rfl) rfl rfl (kk_wl ?_))
            refine wl_s rfl rfl (fun c12 => ?_) (fun c12 => ?_)
            · skip
              replace h := bt c12 h
              have q9 := eqb_true.1 c12
              refine wl_g rfl rfl (ow_y (yh_loadBA Tb (k := 0) rfl rfl rfl rfl rfl rfl) rfl rfl (kk_wl ?_))
              refine wl_g rfl rfl (ow_y (yh_loadBA Tb (k := 0) rfl rfl rfl rfl rfl rfl) rfl rfl (kk_wl ?_))
              obtain ⟨x88, hx88, h⟩ := bd h
              refine wl_g rfl rfl (ow_cN1 rfl hb29 rfl (fun w hw => c_impl_FitNew N _ _ _ hx88 w (Lay.at_ hz1 hw) (Lay.at_ hz1 hw)) rfl rfl (fun a88 c88 F88 => kk_wl ?_))
              refine wl_know (x88.length ≤ 9223372036854775807) (fun w hw => own_max 0 rfl hw) (fun mo89 => ?_)
              refine wl_g rfl rfl (ow_y (yh_lenS Tb rfl rfl rfl rfl) rfl rfl (kk_wl ?_))
              refine wl_g rfl rfl (ow_y (yh_cmpI rfl rfl rfl rfl) rfl rfl (kk_wl ?_))
              refine wl_u rfl (ow_y (yh_pickT rfl rfl rfl) rfl rfl (kk_wl ?_))
              refine wl_u rfl (ow_y (yh_assign rfl rfl) rfl rfl (kk_wl ?_))
              refine wl_nil ?_
              refine ex_seq ?_
              refine cw_ret ?_
              obtain rfl := Option.some.inj h
              exact ex_r1 Tb rfl (.tmp rfl) (fun wq hq => ⟨_, rfl, (hB4.back hq).ext, rfl⟩)
            · skip
              replace h := bf c12 h
              have q10 := eqb_false.1 c12
              refine wl_n rfl rfl rfl rfl ?_
              refine wl_n rfl rfl rfl rfl ?_
              refine wl_n rfl rfl rfl rfl ?_
              refine wl_n rfl rfl rfl rfl ?_
              refine wl_n rfl rfl rfl rfl ?_
              refine wl_u rfl (ow_y (yh_pickF rfl rfl rfl) rfl rfl (kk_wl ?_))
              refine wl_u rfl (ow_y (yh_assign rfl rfl) rfl rfl (kk_wl ?_))
              refine wl_nil ?_
              refine ex_seq ?_
              refine cw_ret ?_
              obtain rfl := Option.some.inj h
              exact ex_r1 Tb rfl (.tmp rfl) (fun wq hq => ⟨_, rfl, (hB4.back hq).ext, rfl⟩)

def m_laws_FnFitNewBoth (N : Nat) (code : List UInt8) : Option (Bool) := (bif ltb 1048576 ((code.length : Nat) : Int) then some true
 else (m_spec_DrawFitNew N code).bind fun x12 => (m_impl_FitNew N x12.1 x12.2).bind fun x17 => (m_spec_FitNew N x12.1 x12.2).bind fun x20 => (m_laws_sameTexts N x17 x20).bind fun x23 => (bif !x23 then (m_laws_sameTexts N x17 x20).bind fun x37 => some x37
 else (m_spec_FlowValid N x12.1).bind fun x27 => (bif !x27 then (m_laws_sameTexts N x17 x20).bind fun x37 => some x37
 else (m_spec_FlowValid N x12.2).bind fun x32 => (bif !x32 then (m_laws_sameTexts N x17 x20).bind fun x37 => some x37
 else (m_impl_FitNew N x12.2 x12.1).bind fun x49 => some (eqb (((x12.1.steps.length : Nat) : Int) - ((x17.length : Nat) : Int)) (((x12.2.steps.length : Nat) : Int) - ((x49.length : Nat) : Int)))))))

set_option maxHeartbeats 4000000 in
theorem c_laws_FnFitNewBoth (N : Nat) (code : List UInt8) (res : Bool) (h : m_laws_FnFitNewBoth N code = some res) (w : World) {a_code : Option Addr} {c_code : Nat} (h_code : bytesL.rd w [] [.slice a_code code.length c_code] code) : Ret Try.prog 7 [.slice a_code code.length c_code] w [] fun v w' => v = .bool res := by
  have mh_code := rd_max h_code
  unfold m_laws_FnFitNewBoth at h
  refine ret_enter Try.func7 rfl Try.ntmps7 rfl (Hp.refl w _) ?_
  refine cw_seq ?_
  refine cw_region ?_
  refine wl_u rfl (ow_y (yh_assign rfl rfl) rfl rfl (kk_wl ?_))
  refine wl_nil ?_
  refine ex_seq ?_
  refine cw_seq ?_
  refine cw_seq ?_
  refine cw_region ?_
  refine wl_u rfl (ow_y (yh_move rfl rfl) rfl rfl (kk_wl ?_))
  refine wl_u rfl (ow_y (yh_lenS Tb rfl rfl rfl rfl) rfl rfl (kk_wl ?_))
  refine wl_u rfl (ow_y (yh_cmpI rfl rfl rfl rfl) rfl rfl (kk_wl ?_))
  refine wl_nil ?_
  refine ex_seq ?_
  refine cw_split rfl (fun c1 => ?_) (fun c1 => ?_)
  · skip
    replace h := bt c1 h
    have q1 := ltb_true.1 c1
    refine cw_seq ?_
    refine cw_region ?_
    refine wl_u rfl (ow_y (yh_assign rfl rfl) rfl rfl (kk_wl ?_))
    refine wl_nil ?_
    refine ex_seq ?_
    refine cw_ret ?_
    refine ex_then_ret ?_
    obtain rfl := Option.some.inj h
    exact ex_r1 Tb rfl (.tmp rfl) (fun wq hq => ⟨_, rfl, hq.ext, rfl⟩)
  · skip
    replace h := bf c1 h
    have q2 := ltb_false.1 c1
    refine cw_skip ?_
    refine ex_seq ?_
    refine cw_seq ?_
    refine cw_region ?_
    refine wl_u rfl (ow_y (yh_move rfl rfl) rfl rfl (kk_wl ?_))
    obtain ⟨x12, hx12, h⟩ := bd h
    refine wl_u rfl (ow_cN2 rfl hb28 rfl (fun w hw => c_spec_DrawFitNew N _ _ hx12 w (Lay.at_ h_code hw)) rfl rfl (fun a12 c12 F12 a12_2 c12_2 F12_2 => kk_wl ?_))
    refine wl_u rfl (ow_y (yh_move rfl rfl) rfl rfl (kk_wl ?_))
    refine wl_u rfl (ow_y (yh_extract rfl rfl rfl) rfl rfl (kk_wl ?_))
    refine wl_u rfl (ow_y (yh_extract rfl rfl rfl) rfl rfl (kk_wl ?_))
    refine wl_u rfl (ow_allocA Tb rfl rfl rfl rfl (fun g3 => kk_wl ?_))
    refine wl_u rfl (ow_allocA Tb rfl rfl rfl rfl (fun g4 => kk_wl ?_))
    refine wl_u rfl (ow_storeA Tb (k := 1) rfl rfl rfl rfl rfl rfl rfl rfl rfl (kk_wl ?_))
    refine wl_u rfl (ow_storeA Tb (k := 1) rfl rfl rfl rfl rfl rfl rfl rfl rfl (kk_wl ?_))
    refine wl_nil ?_
    refine ex_seq ?_
    refine cw_seq ?_
    refine cw_freeze 2 rfl (fun w1 M1 hb1_ hz1 => ?_)
    replace h_code := Lay.rb h_code hb1_
    have hB1 := hb1_
    have mz1 := rd_max hz1
    refine cw_freeze 2 rfl (fun w2 M2 hb2_ hz2 => ?_)
    replace h_code := Lay.rb h_code hb2_
    replace hz1 := Lay.rb hz1 hb2_
    have hB2 := hB1.trans hb2_
    have mz2 := rd_max hz2
    refine cw_region ?_
    refine wl_u rfl (ow_y (yh_loadBA Tb (k := 1) rfl rfl rfl rfl rfl rfl) rfl rfl (kk_wl ?_))
    refine wl_u rfl (ow_y (yh_loadBA Tb (k := 0) rfl rfl rfl rfl rfl rfl) rfl rfl (kk_wl ?_))
    obtain ⟨x17, hx17, h⟩ := bd h
    refine wl_u rfl (ow_cN1 rfl hb29 rfl (fun w hw => c_impl_FitNew N _ _ _ hx17 w (Lay.at_ hz1 hw) (Lay.at_ hz2 hw)) rfl rfl (fun a17 c17 F17 => kk_wl ?_))
    refine wl_u rfl (ow_y (yh_assign rfl rfl) rfl rfl (kk_wl ?_))
    refine wl_nil ?_
    refine ex_seq ?_
    refine cw_seq ?_
    refine cw_freeze 0 rfl (fun w3 M3 hb3_ hz3 => ?_)
    replace h_code := Lay.rb h_code hb3_
    replace hz1 := Lay.rb hz1 hb3_
    replace hz2 := Lay.rb hz2 hb3_
    have hB3 := hB2.trans hb3_
    have mz3 := rd_max hz3
    refine cw_region ?_
    refine wl_u rfl (ow_y (yh_loadBA Tb (k := 1) rfl rfl rfl rfl rfl rfl) rfl rfl (kk_wl ?_))
    refine wl_u rfl (ow_y (yh_loadBA Tb (k := 0) rfl rfl rfl rfl rfl rfl) rfl rfl (kk_wl ?_))
    obtain ⟨x20, hx20, h⟩ := bd h
    refine wl_u rfl (ow_cN1 rfl hb30 rfl (fun w hw => c_spec_FitNew N _ _ _ hx20 w (Lay.at_ hz1 hw) (Lay.at_ hz2 hw)) rfl rfl (fun a20 c20 F20 => kk_wl ?_))
    refine wl_u rfl (ow_y (yh_assign rfl rfl) rfl rfl (kk_wl ?_))
    refine wl_nil ?_
    refine ex_seq ?_
    refine cw_seq ?_
    refine cw_seq ?_
    refine cw_freeze 0 rfl (fun w4 M4 hb4_ hz4 => ?_)
    replace h_code := Lay.rb h_code hb4_
    replace hz1 := Lay.rb hz1 hb4_
    replace hz2 := Lay.rb hz2 hb4_
    replace hz3 := Lay.rb hz3 hb4_
    have hB4 := hB3.trans hb4_
    have mz4 := rd_max hz4
    refine cw_region ?_
    refine wl_u rfl (ow_y (yh_move rfl rfl) rfl rfl (kk_wl ?_))
    refine wl_u rfl (ow_y (yh_move rfl rfl) rfl rfl (kk_wl ?_))
    obtain ⟨x23, hx23, h⟩ := bd h
    refine wl_u rfl (ow_cV rfl hb23 rfl (fun w hw => c_laws_sameTexts N _ _ _ hx23 w (Lay.at_ hz3 hw) (Lay.at_ hz4 hw)) rfl rfl (kk_wl ?_))
    refine wl_u rfl (ow_y (yh_not rfl rfl) rfl rfl (kk_wl ?_))
    refine wl_u rfl (ow_y (yh_move rfl rfl) rfl rfl (kk_wl ?_))
    refine wl_s rfl rfl (fun c2 => ?_) (fun c2 => ?_)
    · skip
      replace h := bt c2 h
      refine wl_n rfl rfl rfl rfl ?_
      refine wl_n rfl rfl rfl rfl ?_
      refine wl_n rfl rfl rfl rfl ?_
      refine wl_u rfl (ow_y (yh_pickT rfl rfl rfl) rfl rfl (kk_wl ?_))
      refine wl_u rfl (ow_y (yh_move rfl rfl) rfl rfl (kk_wl ?_))
      refine wl_s rfl rfl (fun _ => ?_) nofun
      refine wl_n rfl rfl rfl rfl ?_
      refine wl_n rfl rfl rfl rfl ?_
      refine wl_n rfl rfl rfl rfl ?_
      refine wl_u rfl (ow_y (yh_pickT rfl rfl rfl) rfl rfl (kk_wl ?_))
      refine wl_nil ?_
      refine ex_seq ?_
      refine cw_true rfl ?_
      refine cw_seq ?_
      refine cw_region ?_
      refine wl_u rfl (ow_y (yh_move rfl rfl) rfl rfl (kk_wl ?_))
      refine wl_u rfl (ow_y (yh_move rfl rfl) rfl rfl (kk_wl ?_))
      obtain ⟨x37, hx37, h⟩ := bd h
      refine wl_u rfl (ow_cV rfl hb23 rfl (fun w hw => c_laws_sameTexts N _ _ _ hx37 w (Lay.at_ hz3 hw) (Lay.at_ hz4 hw)) rfl rfl (kk_wl ?_))
      refine wl_u rfl (ow_y (yh_assign rfl rfl) rfl rfl (kk_wl ?_))
      refine wl_nil ?_
      refine ex_seq ?_
      refine cw_ret ?_
      refine ex_then_ret ?_
      obtain rfl := Option.some.inj h
      exact ex_r1 Tb rfl (.tmp rfl) (fun wq hq => ⟨_, rfl, (hB4.back hq).ext, rfl⟩)
    · skip
      replace h := bf c2 h
      refine wl_g rfl rfl (ow_y (yh_loadBA Tb (k := 1) rfl rfl rfl rfl rfl rfl) rfl rfl (kk_wl ?_))
      obtain ⟨x27, hx27, h⟩ := bd h
      refine wl_g rfl rfl (ow_cV rfl hb31 rfl (fun w hw => c_spec_FlowValid N _ _ hx27 w (Lay.at_ hz1 hw)) rfl rfl (kk_wl ?_))
      refine wl_g rfl rfl (ow_y (yh_not rfl rfl) rfl rfl (kk_wl ?_))
      refine wl_u rfl (ow_y (yh_pickF rfl rfl rfl) rfl rfl (kk_wl ?_))
      refine wl_u rfl (ow_y (yh_move rfl rfl) rfl rfl (kk_wl ?_))
      refine wl_s rfl rfl (fun c3 => ?_) (fun c3 => ?_)
      · skip
        replace h := bt c3 h
        refine wl_n rfl rfl rfl rfl ?_
        refine wl_n rfl rfl rfl rfl ?_
        refine wl_n rfl rfl rfl rfl ?_
        refine wl_u rfl (ow_y (yh_pickT rfl rfl rfl) rfl rfl (kk_wl ?_))
        refine wl_nil ?_
        refine ex_seq ?_
        refine cw_true rfl ?_
        refine cw_seq ?_
        refine cw_region ?_
        refine wl_u rfl (ow_y (yh_move rfl rfl) rfl rfl (kk_wl ?_))
        refine wl_u rfl (ow_y (yh_move rfl rfl) rfl rfl (kk_wl ?_))
        obtain ⟨x37, hx37, h⟩ := bd h
        refine wl_u rfl (ow_cV rfl hb23 rfl (fun w hw => c_laws_sameTexts N _ _ _ hx37 w (Lay.at_ hz3 hw) (Lay.at_ hz4 hw)) rfl rfl (kk_wl ?_))
        refine wl_u rfl (ow_y (yh_assign rfl rfl) rfl rfl (kk_wl ?_))
        refine wl_nil ?_
        refine ex_seq ?_
        refine cw_ret ?_
        refine ex_then_ret ?_
        obtain rfl := Option.some.inj h
        exact ex_r1 Tb rfl (.tmp rfl) (fun wq hq => ⟨_, rfl, (hB4.back hq).ext, rfl⟩)
      · skip
        replace h := bf c3 h
        refine wl_g rfl rfl (ow_y (yh_loadBA Tb (k := 0) rfl rfl rfl rfl rfl rfl) rfl rfl (kk_wl ?_))
        obtain ⟨x32, hx32, h⟩ := bd h
        refine wl_g rfl rfl (ow_cV rfl hb31 rfl (fun w hw => c_spec_FlowValid N _ _ hx32 w (Lay.at_ hz2 hw)) rfl rfl (kk_wl ?_))
        refine wl_g rfl rfl (ow_y (yh_not rfl rfl) rfl rfl (kk_wl ?_))
        refine wl_u rfl (ow_y (yh_pickF rfl rfl rfl) rfl rfl (kk_wl ?_))
        refine wl_nil ?_
        refine ex_seq ?_
        refine cw_split rfl (fun c4 => ?_) (fun c4 => ?_)
        · skip
          replace h := bt c4 h
          refine cw_seq ?_
          refine cw_region ?_
          refine wl_u rfl (ow_y (yh_move rfl rfl) rfl rfl (kk_wl ?_))
          refine wl_u rfl (ow_y (yh_move rfl rfl) rfl rfl (kk_wl ?_))
          obtain ⟨x37, hx37, h⟩ := bd h
          refine wl_u rfl (ow_cV rfl hb23 rfl (fun w hw => c_laws_sameTexts N _ _ _ hx37 w (Lay.at_ hz3 hw) (Lay.at_ hz4 hw)) rfl rfl (kk_wl ?_))
          refine wl_u rfl (ow_y (yh_assign rfl rfl) rfl rfl (kk_wl ?_))
          refine wl_nil ?_
          refine ex_seq ?_
          refine cw_ret ?_
          refine ex_then_ret ?_
          obtain rfl := Option.some.inj h
          exact ex_r1 Tb rfl (.tmp rfl) (fun wq hq => ⟨_, rfl, (hB4.back hq).ext, rfl⟩)
        · skip
          replace h := bf c4 h
          refine cw_skip ?_
          refine ex_seq ?_
          refine cw_seq ?_
          refine cw_dr [0, 1, 2, 3, 4, 5, 6, 7, 8, 9, 10, 12, 13, 14, 15] [] [blkC g4 46 [.int .i64 x12.2.ver, .slice a12_2 x12.2.steps.length c12_2], blkC g3 46 [.int .i64 x12.1.ver, .slice a12 x12.1.steps.length c12]] (by kernel_rfl) ?_
          refine wd_take (i := 0) [0, 1] rfl rfl rfl rfl rfl (by kernel_rfl) rfl (fun _ _ _ _ h => h) (yh_field Tb rfl rfl rfl) ?_
          refine wd_take (i := 1) [0, 1] rfl rfl rfl rfl rfl (by kernel_rfl) rfl (fun _ _ _ _ h => h) (yh_loadB Tb (k := 1) rfl rfl rfl rfl rfl) ?_
          refine wd_take (i := 2) [0, 1] rfl rfl rfl rfl rfl (by kernel_rfl) rfl (fun _ _ _ _ h => h) (yh_lenS Tb rfl rfl rfl rfl) ?_
          refine wd_take (i := 3) [0, 1] rfl rfl rfl rfl rfl (by kernel_rfl) rfl (fun _ _ _ _ h => h) (yh_move rfl rfl) ?_
          refine wd_take (i := 4) [0, 1] rfl rfl rfl rfl rfl (by kernel_rfl) rfl (fun _ _ _ _ h => h) (yh_lenS Tb rfl rfl rfl rfl) ?_
          refine wd_take (i := 5) [0, 1] rfl rfl rfl rfl rfl (by kernel_rfl) rfl (fun _ _ _ _ h => h) (yh_arI rfl rfl rfl rfl (by omega)) ?_
          refine wd_take (i := 6) [0, 1] rfl rfl rfl rfl rfl (by kernel_rfl) rfl (fun _ _ _ _ h => h) (yh_field Tb rfl rfl rfl) ?_
          refine wd_take (i := 7) [0, 1] rfl rfl rfl rfl rfl (by kernel_rfl) rfl (fun _ _ _ _ h => h) (yh_loadB Tb (k := 0) rfl rfl rfl rfl rfl) ?_
          refine wd_take (i := 8) [0, 1] rfl rfl rfl rfl rfl (by kernel_rfl) rfl (fun _ _ _ _ h => h) (yh_lenS Tb rfl rfl rfl rfl) ?_
          refine wd_take (i := 9) [0, 1] rfl rfl rfl rfl rfl (by kernel_rfl) rfl (fun _ _ _ _ h => h) (yh_loadBA Tb (k := 0) rfl rfl rfl rfl rfl rfl) ?_
          refine wd_take (i := 10) [0, 1] rfl rfl rfl rfl rfl (by kernel_rfl) rfl (fun _ _ _ _ h => h) (yh_loadBA Tb (k := 1) rfl rfl rfl rfl rfl rfl) ?_
          obtain ⟨x49, hx49, h⟩ := bd h
          refine wd_one 11 rfl rfl (by kernel_rfl) (ow_cN1 rfl hb29 rfl (fun w hw => c_impl_FitNew N _ _ _ hx49 w (Lay.at_ hz2 hw) (Lay.at_ hz1 hw)) rfl rfl (fun a49 c49 F49 => kk_wd [1, 2] rfl ?_))
          refine wd_know (x49.length ≤ 9223372036854775807) (fun w hw => own_max 0 rfl hw) (fun mo50 => ?_)
          refine wd_take (i := 12) [1, 2] rfl rfl rfl rfl rfl (by kernel_rfl) rfl (fun _ _ _ _ h => h) (yh_lenS Tb rfl rfl rfl rfl) ?_
          refine wd_take (i := 13) [1, 2] rfl rfl rfl rfl rfl (by kernel_rfl) rfl (fun _ _ _ _ h => h) (yh_arI rfl rfl rfl rfl (by omega)) ?_
          refine wd_take (i := 14) [1, 2] rfl rfl rfl rfl rfl (by kernel_rfl) rfl (fun _ _ _ _ h => h) (yh_cmpI rfl rfl rfl rfl) ?_
          refine wd_take (i := 15) [1, 2] rfl rfl rfl rfl rfl (by kernel_rfl) rfl (fun _ _ _ _ h => h) (yh_assign rfl rfl) ?_
          refine wd_done (by kernel_rfl) ?_
          refine ex_seq ?_
          refine cw_ret ?_
          obtain rfl := Option.some.inj h
          exact ex_r1 Tb rfl (.tmp rfl) (fun wq hq => ⟨_, rfl, (hB4.back hq).ext, rfl⟩)

end Go.Proofs.Ytddifmlipmmlkaa
