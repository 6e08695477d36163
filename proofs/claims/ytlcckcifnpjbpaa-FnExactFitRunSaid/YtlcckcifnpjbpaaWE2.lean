/- Mirrors and contracts, printed by a program: what each function computes as a plain term, and that it does. -/
import Derived.Test.YtlcckcifnpjbpaaR
import Derived.Test.YtlcckcifnpjbpaaD
import Derived.Test.YtlcckcifnpjbpaaWE0
import Derived.Test.YtlcckcifnpjbpaaWE1
set_option linter.all false
set_option maxRecDepth 100000
namespace Go.Proofs.Ytlcckcifnpjbpaa
open Go.RowKit

def m_laws_FnExactMoveBoth (N : Nat) (u0 : Flow) (u1 : Flow) (u2 : Flow) (u3 : Run) : Option (Bool) := (m_laws_szFlow N u0 1048576).bind fun x25 => (bif ltb x25 0 then some true
 else (m_laws_szFlow N u1 x25).bind fun x30 => (bif ltb x30 0 then some true
 else (m_laws_szFlow N u2 x30).bind fun x35 => (bif ltb x35 0 then some true
 else (m_laws_szRun N u3 x35).bind fun x40 => (bif ltb x40 0 then some true
 else ((m_laws_toFlow N u0).bind fun x45 => (m_laws_toFlow N u1).bind fun x47 => (m_laws_toFlow N u2).bind fun x49 => (m_laws_toRun N u3).bind fun x51 => (m_spec_MoveBoth N x45 x47 x49 x51).bind fun x52 => some (x52.1.state, x52.1.done, x52.2) : Option (Int × (List Str) × Bool)).bind fun j119 => (m_laws_toFlow N u0).bind fun x56 => (m_laws_toFlow N u1).bind fun x58 => (m_laws_toFlow N u2).bind fun x60 => (m_laws_toRun N u3).bind fun x62 => (m_impl_MoveBoth N x56 x58 x60 x62).bind fun x68 => (m_laws_eqRun N x68.1 (Run.mk j119.1 j119.2.1)).bind fun x73 => (bif !x73 then some false
 else (bif x68.2 != j119.2.2 then some false
 else ((m_laws_toFlow N u0).bind fun x82 => (m_laws_eqFlow N x56 x82).bind fun x83 => (bif !x83 then some (Ex.ret false)
 else some (Ex.brk ())) : Option (Ex (Unit) (Bool))).bind fun e130 => e130.go (fun r => r) fun j130 => ((m_laws_toFlow N u1).bind fun x87 => (m_laws_eqFlow N x58 x87).bind fun x88 => (bif !x88 then some (Ex.ret false)
 else some (Ex.brk ())) : Option (Ex (Unit) (Bool))).bind fun e134 => e134.go (fun r => r) fun j134 => ((m_laws_toFlow N u2).bind fun x92 => (m_laws_eqFlow N x60 x92).bind fun x93 => (bif !x93 then some (Ex.ret false)
 else some (Ex.brk ())) : Option (Ex (Unit) (Bool))).bind fun e138 => e138.go (fun r => r) fun j138 => ((m_laws_toRun N u3).bind fun x97 => (m_laws_eqRun N x62 x97).bind fun x98 => (bif !x98 then some (Ex.ret false)
 else some (Ex.brk ())) : Option (Ex (Unit) (Bool))).bind fun e142 => e142.go (fun r => r) fun j142 => (m_laws_markFlow N x56 1).bind fun x102 => (m_laws_markFlow N x58 x102.1).bind fun x105 => (m_laws_markFlow N x60 x105.1).bind fun x108 => (m_laws_markRun N x62 x108.1).bind fun x111 => (bif ltb x111.1 0 then some false
 else (m_laws_eqRun N x68.1 (Run.mk j119.1 j119.2.1)).bind fun x117 => (bif !x117 then some false
 else (m_laws_markRun N x68.1 1).bind fun x127 => (m_laws_heldRun N (Run.mk x68.1.state x127.2) 1).bind fun x130 => (bif ltb x130 0 then some false
 else (bif !(eqb x130 x127.1) then some false
 else ((m_laws_toFlow N u0).bind fun x138 => (m_laws_toFlow N u1).bind fun x140 => (m_laws_toFlow N u2).bind fun x142 => (m_laws_toRun N u3).bind fun x144 => (m_impl_MoveBoth N x138 x140 x142 x144).bind fun x145 => some (x145.1.state, x145.1.done, x145.2) : Option (Int × (List Str) × Bool)).bind fun j165 => (m_laws_eqRun N (Run.mk j165.1 j165.2.1) (Run.mk j119.1 j119.2.1)).bind fun x150 => (bif !x150 then some false
 else (bif j165.2.2 != j119.2.2 then some false
 else (m_laws_heldRun N (Run.mk x68.1.state x127.2) 1).bind fun x159 => (bif ltb x159 0 then some false
 else (bif !(eqb x159 x127.1) then some false
 else some true))))))))))))))

set_option maxHeartbeats 4000000 in
theorem c_laws_FnExactMoveBoth (N : Nat) (u0 : Flow) (u1 : Flow) (u2 : Flow) (u3 : Run) (res : Bool) (h : m_laws_FnExactMoveBoth N u0 u1 u2 u3 = some res) (w : World) {a_u0_steps a_u1_steps a_u2_steps a_u3_done : Option Addr} {c_u0_steps c_u1_steps c_u2_steps c_u3_done : Nat} (h_u0_steps : stepsL.rd w [] [.slice a_u0_steps u0.steps.length c_u0_steps] u0.steps) (h_u1_steps : stepsL.rd w [] [.slice a_u1_steps u1.steps.length c_u1_steps] u1.steps) (h_u2_steps : stepsL.rd w [] [.slice a_u2_steps u2.steps.length c_u2_steps] u2.steps) (h_u3_done : strsL.rd w [] [.slice a_u3_done u3.done.length c_u3_done] u3.done) : Ret Try.prog 11 [.agg #[.int .i64 u0.ver, .slice a_u0_steps u0.steps.length c_u0_steps], .agg #[.int .i64 u1.ver, .slice a_u1_steps u1.steps.length c_u1_steps], .agg #[.int .i64 u2.ver, .slice a_u2_steps u2.steps.length c_u2_steps], .agg #[.int .i64 u3.state, .slice a_u3_done u3.done.length c_u3_done]] w [] fun v w' => v = .bool res := by
  have mh_u0_steps := rd_max h_u0_steps
  have mh_u1_steps := rd_max h_u1_steps
  have mh_u2_steps := rd_max h_u2_steps
  have mh_u3_done := rd_max h_u3_done
  unfold m_laws_FnExactMoveBoth at h
  refine ret_enter Try.func11 rfl Try.ntmps11 rfl (Hp.refl w _) ?_
  refine cw_seq ?_
  refine cw_region ?_
  refine wl_u rfl (ow_boxA rfl rfl rfl rfl (fun g4 => kk_wl ?_))
  refine wl_u rfl (ow_boxA rfl rfl rfl rfl (fun g5 => kk_wl ?_))
  refine wl_u rfl (ow_boxA rfl rfl rfl rfl (fun g6 => kk_wl ?_))
  refine wl_u rfl (ow_boxA rfl rfl rfl rfl (fun g7 => kk_wl ?_))
  refine wl_u rfl (ow_y (yh_assign rfl rfl) rfl rfl (kk_wl ?_))
  refine wl_nil ?_
  refine ex_seq ?_
  refine cw_seq ?_
  refine cw_region ?_
  refine wl_u rfl (ow_y (yh_assign rfl rfl) rfl rfl (kk_wl ?_))
  refine wl_nil ?_
  refine ex_seq ?_
  refine cw_seq ?_
  refine cw_region ?_
  refine wl_u rfl (ow_y (yh_loadBA Tb (k := 3) rfl rfl rfl rfl rfl rfl) rfl rfl (kk_wl ?_))
  refine wl_u rfl (ow_y (yh_move rfl rfl) rfl rfl (kk_wl ?_))
  obtain ⟨x25, hx25, h⟩ := bd h
  refine wl_u rfl (ow_cV rfl hb37 rfl (fun w hw => c_laws_szFlow N _ _ _ hx25 w (Lay.at_ h_u0_steps hw)) rfl rfl (kk_wl ?_))
  refine wl_u rfl (ow_y (yh_assign rfl rfl) rfl rfl (kk_wl ?_))
  refine wl_nil ?_
  refine ex_seq ?_
  refine cw_seq ?_
  refine cw_seq ?_
  refine cw_region ?_
  refine wl_u rfl (ow_y (yh_move rfl rfl) rfl rfl (kk_wl ?_))
  refine wl_u rfl (ow_y (yh_cmpI rfl rfl rfl rfl) rfl rfl (kk_wl ?_))
  refine wl_nil ?_
  refine ex_seq ?_
  refine cw_split rfl (fun c1 => ?_) (fun c1 => ?_)
  · skip
    replace h := bt c1 h
    have q1 := ltb_true.1 c1
    refine cw_seq ?_
    refine cw_region ?_
    refine wl_u rfl (ow_y (yh_assign rfl rfl) rfl rfl (kk_wl ?_))
    refine wl_nil ?_
    refine ex_seq ?_
    refine cw_ret ?_
    refine ex_then_ret ?_
    obtain rfl := Option.some.inj h
    exact ex_r1 Tb rfl (.tmp rfl) (fun wq hq => ⟨_, rfl, hq.ext, rfl⟩)
  · skip
    replace h := bf c1 h
    have q2 := ltb_false.1 c1
    refine cw_skip ?_
    refine ex_seq ?_
    refine cw_seq ?_
    refine cw_region ?_
    refine wl_u rfl (ow_y (yh_loadBA Tb (k := 2) rfl rfl rfl rfl rfl rfl) rfl rfl (kk_wl ?_))
    refine wl_u rfl (ow_y (yh_move rfl rfl) rfl rfl (kk_wl ?_))
    obtain ⟨x30, hx30, h⟩ := bd h
    refine wl_u rfl (ow_cV rfl hb37 rfl (fun w hw => c_laws_szFlow N _ _ _ hx30 w (Lay.at_ h_u1_steps hw)) rfl rfl (kk_wl ?_))
    refine wl_u rfl (ow_y (yh_assign rfl rfl) rfl rfl (kk_wl ?_))
    refine wl_nil ?_
    refine ex_seq ?_
    refine cw_seq ?_
    refine cw_seq ?_
    refine cw_region ?_
    refine wl_u rfl (ow_y (yh_move rfl rfl) rfl rfl (kk_wl ?_))
    refine wl_u rfl (ow_y (yh_cmpI rfl rfl rfl rfl) rfl rfl (kk_wl ?_))
    refine wl_nil ?_
    refine ex_seq ?_
    refine cw_split rfl (fun c2 => ?_) (fun c2 => ?_)
    · skip
      replace h := bt c2 h
      have q3 := ltb_true.1 c2
      refine cw_seq ?_
      refine cw_region ?_
      refine wl_u rfl (ow_y (yh_assign rfl rfl) rfl rfl (kk_wl ?_))
      refine wl_nil ?_
      refine ex_seq ?_
      refine cw_ret ?_
      refine ex_then_ret ?_
      obtain rfl := Option.some.inj h
      exact ex_r1 Tb rfl (.tmp rfl) (fun wq hq => ⟨_, rfl, hq.ext, rfl⟩)
    · skip
      replace h := bf c2 h
      have q4 := ltb_false.1 c2
      refine cw_skip ?_
      refine ex_seq ?_
      refine cw_seq ?_
      refine cw_region ?_
      refine wl_u rfl (ow_y (yh_loadBA Tb (k := 1) rfl rfl rfl rfl rfl rfl) rfl rfl (kk_wl ?_))
      refine wl_u rfl (ow_y (yh_move rfl rfl) rfl rfl (kk_wl ?_))
      obtain ⟨x35, hx35, h⟩ := bd h
      refine wl_u rfl (ow_cV rfl hb37 rfl (fun w hw => c_laws_szFlow N _ _ _ hx35 w (Lay.at_ h_u2_steps hw)) rfl rfl (kk_wl ?_))
      refine wl_u rfl (ow_y (yh_assign rfl rfl) rfl rfl (kk_wl ?_))
      refine wl_nil ?_
      refine ex_seq ?_
      refine cw_seq ?_
      refine cw_seq ?_
      refine cw_region ?_
      refine wl_u rfl (ow_y (yh_move rfl rfl) rfl rfl (kk_wl ?_))
      refine wl_u rfl (ow_y (yh_cmpI rfl rfl rfl rfl) rfl rfl (kk_wl ?_))
      refine wl_nil ?_
      refine ex_seq ?_
      refine cw_split rfl (fun c3 => ?_) (fun c3 => ?_)
      · skip
        replace h := bt c3 h
        have q5 := ltb_true.1 c3
        refine cw_seq ?_
        refine cw_region ?_
        refine wl_u rfl (ow_y (yh_assign rfl rfl) rfl rfl (kk_wl ?_))
        refine wl_nil ?_
        refine ex_seq ?_
        refine cw_ret ?_
        refine ex_then_ret ?_
        obtain rfl := Option.some.inj h
        exact ex_r1 Tb rfl (.tmp rfl) (fun wq hq => ⟨_, rfl, hq.ext, rfl⟩)
      · skip
        replace h := bf c3 h
        have q6 := ltb_false.1 c3
        refine cw_skip ?_
        refine ex_seq ?_
        refine cw_seq ?_
        refine cw_region ?_
        refine wl_u rfl (ow_y (yh_loadBA Tb (k := 0) rfl rfl rfl rfl rfl rfl) rfl rfl (kk_wl ?_))
        refine wl_u rfl (ow_y (yh_move rfl rfl) rfl rfl (kk_wl ?_))
        obtain ⟨x40, hx40, h⟩ := bd h
        refine wl_u rfl (ow_cV rfl hb40 rfl (fun w hw => c_laws_szRun N _ _ _ hx40 w (Lay.at_ h_u3_done hw)) rfl rfl (kk_wl ?_))
        refine wl_u rfl (ow_y (yh_assign rfl rfl) rfl rfl (kk_wl ?_))
        refine wl_nil ?_
        refine ex_seq ?_
        refine cw_seq ?_
        refine cw_seq ?_
        refine cw_region ?_
        refine wl_u rfl (ow_y (yh_move rfl rfl) rfl rfl (kk_wl ?_))
        refine wl_u rfl (ow_y (yh_cmpI rfl rfl rfl rfl) rfl rfl (kk_wl ?_))
        refine wl_nil ?_
        refine ex_seq ?_
        refine cw_split rfl (fun c4 => ?_) (fun c4 => ?_)
        · skip
          replace h := bt c4 h
          have q7 := ltb_true.1 c4
          refine cw_seq ?_
          refine cw_region ?_
          refine wl_u rfl (ow_y (yh_assign rfl rfl) rfl rfl (kk_wl ?_))
          refine wl_nil ?_
          refine ex_seq ?_
          refine cw_ret ?_
          refine ex_then_ret ?_
          obtain rfl := Option.some.inj h
          exact ex_r1 Tb rfl (.tmp rfl) (fun wq hq => ⟨_, rfl, hq.ext, rfl⟩)
        · skip
          replace h := bf c4 h
          have q8 := ltb_false.1 c4
          refine cw_skip ?_
          refine ex_seq ?_
          obtain ⟨j119, he119, hk119⟩ := bd h
          clear h
          refine cw_cut (σ := Nat × (Option Addr) × Nat × (List Nat)) (fun s => True) (fun s => [(4, .pointer (some ⟨g4, 0, none⟩)), (5, .pointer (some ⟨g5, 0, none⟩)), (6, .pointer (some ⟨g6, 0, none⟩)), (7, .pointer (some ⟨g7, 0, none⟩)), (10, .pointer (some ⟨s.1, 0, none⟩)), (11, .bool j119.2.2)]) (fun s => [blkC g4 52 [.int .i64 u0.ver, .slice a_u0_steps u0.steps.length c_u0_steps], blkC g5 52 [.int .i64 u1.ver, .slice a_u1_steps u1.steps.length c_u1_steps], blkC g6 52 [.int .i64 u2.ver, .slice a_u2_steps u2.steps.length c_u2_steps], blkC g7 58 [.int .i64 u3.state, .slice a_u3_done u3.done.length c_u3_done], blkC s.1 60 [.int .i64 j119.1, .slice s.2.1 j119.2.1.length s.2.2.1], owC strsL s.2.2.2 [.slice s.2.1 j119.2.1.length s.2.2.1] j119.2.1]) (fun s hI => ?_) (fun KL hn119 => ?_)
          · skip
            obtain ⟨g10, ak119_10_c_1, ck119_10_c_1, Fk119_10_c_1⟩ := s
            simp only at ⊢
            have h := hk119
            refine cw_seq ?_
            refine cw_region ?_
            refine wl_u rfl (ow_y (yh_loadBA Tb (k := 0) rfl rfl rfl rfl rfl rfl) rfl rfl (kk_wl ?_))
            obtain ⟨x56, hx56, h⟩ := bd h
            refine wl_u rfl (ow_cN1 rfl hb38 rfl (fun w hw => c_laws_toFlow N _ _ hx56 w (Lay.at_ h_u0_steps hw)) rfl rfl (fun a56 c56 F56 => kk_wl ?_))
            refine wl_u rfl (ow_allocA Tb rfl rfl rfl rfl (fun g12 => kk_wl ?_))
            refine wl_u rfl (ow_storeA Tb (k := 0) rfl rfl rfl rfl rfl rfl rfl rfl rfl (kk_wl ?_))
            refine wl_nil ?_
            refine ex_seq ?_
            refine cw_seq ?_
            refine cw_region ?_
            refine wl_u rfl (ow_y (yh_loadBA Tb (k := 3) rfl rfl rfl rfl rfl rfl) rfl rfl (kk_wl ?_))
            obtain ⟨x58, hx58, h⟩ := bd h
            refine wl_u rfl (ow_cN1 rfl hb38 rfl (fun w hw => c_laws_toFlow N _ _ hx58 w (Lay.at_ h_u1_steps hw)) rfl rfl (fun a58 c58 F58 => kk_wl ?_))
            refine wl_u rfl (ow_allocA Tb rfl rfl rfl rfl (fun g13 => kk_wl ?_))
            refine wl_u rfl (ow_storeA Tb (k := 0) rfl rfl rfl rfl rfl rfl rfl rfl rfl (kk_wl ?_))
            refine wl_nil ?_
            refine ex_seq ?_
            refine cw_seq ?_
            refine cw_region ?_
            refine wl_u rfl (ow_y (yh_loadBA Tb (k := 6) rfl rfl rfl rfl rfl rfl) rfl rfl (kk_wl ?_))
            obtain ⟨x60, hx60, h⟩ := bd h
            refine wl_u rfl (ow_cN1 rfl hb38 rfl (fun w hw => c_laws_toFlow N _ _ hx60 w (Lay.at_ h_u2_steps hw)) rfl rfl (fun a60 c60 F60 => kk_wl ?_))
            refine wl_u rfl (ow_allocA Tb rfl rfl rfl rfl (fun g14 => kk_wl ?_))
            refine wl_u rfl (ow_storeA Tb (k := 0) rfl rfl rfl rfl rfl rfl rfl rfl rfl (kk_wl ?_))
            refine wl_nil ?_
            refine ex_seq ?_
            refine cw_seq ?_
            refine cw_region ?_
            refine wl_u rfl (ow_y (yh_loadBA Tb (k := 9) rfl rfl rfl rfl rfl rfl) rfl rfl (kk_wl ?_))
            obtain ⟨x62, hx62, h⟩ := bd h
            refine wl_u rfl (ow_cN1 rfl hb42 rfl (fun w hw => c_laws_toRun N _ _ hx62 w (Lay.at_ h_u3_done hw)) rfl rfl (fun a62 c62 F62 => kk_wl ?_))
            refine wl_u rfl (ow_allocA Tb rfl rfl rfl rfl (fun g15 => kk_wl ?_))
            refine wl_u rfl (ow_storeA Tb (k := 0) rfl rfl rfl rfl rfl rfl rfl rfl rfl (kk_wl ?_))
            refine wl_nil ?_
            refine ex_seq ?_
            refine cw_seq ?_
            refine cw_region ?_
            refine wl_u rfl (ow_y (yh_loadBA Tb (k := 6) rfl rfl rfl rfl rfl rfl) rfl rfl (kk_wl ?_))
            refine wl_u rfl (ow_y (yh_loadBA Tb (k := 4) rfl rfl rfl rfl rfl rfl) rfl rfl (kk_wl ?_))
            refine wl_u rfl (ow_y (yh_loadBA Tb (k := 2) rfl rfl rfl rfl rfl rfl) rfl rfl (kk_wl ?_))
            refine wl_u rfl (ow_y (yh_loadBA Tb (k := 0) rfl rfl rfl rfl rfl rfl) rfl rfl (kk_wl ?_))
            obtain ⟨x68, hx68, h⟩ := bd h
            refine wl_u rfl (ow_cN1 rfl hb48 rfl (fun w hw => c_impl_MoveBoth N _ _ _ _ _ hx68 w (rdo (A := stepsL) 7 rfl hw) (rdo (A := stepsL) 5 rfl hw) (rdo (A := stepsL) 3 rfl hw) (rdo (A := strsL) 1 rfl hw)) rfl rfl (fun a68 c68 F68 => kk_wl ?_))
            refine wl_u rfl (ow_y (yh_move rfl rfl) rfl rfl (kk_wl ?_))
            refine wl_u rfl (ow_y (yh_extract rfl rfl rfl) rfl rfl (kk_wl ?_))
            refine wl_u rfl (ow_y (yh_extract rfl rfl rfl) rfl rfl (kk_wl ?_))
            refine wl_u rfl (ow_allocA Tb rfl rfl rfl rfl (fun g16 => kk_wl ?_))
            refine wl_u rfl (ow_storeA Tb (k := 0) rfl rfl rfl rfl rfl rfl rfl rfl rfl (kk_wl ?_))
            refine wl_u rfl (ow_y (yh_assign rfl rfl) rfl rfl (kk_wl ?_))
            refine wl_nil ?_
            refine ex_seq ?_
            refine cw_seq ?_
            refine cw_seq ?_
            refine cw_region ?_
            refine wl_u rfl (ow_y (yh_loadBA Tb (k := 0) rfl rfl rfl rfl rfl rfl) rfl rfl (kk_wl ?_))
            refine wl_u rfl (ow_y (yh_loadBA Tb (k := 14) rfl rfl rfl rfl rfl rfl) rfl rfl (kk_wl ?_))
            obtain ⟨x73, hx73, h⟩ := bd h
            refine wl_u rfl (ow_cV rfl hb44 rfl (fun w hw => c_laws_eqRun N _ _ _ hx73 w (rdo (A := strsL) 1 rfl hw) (rdo (A := strsL) 15 rfl hw)) rfl rfl (kk_wl ?_))
            refine wl_u rfl (ow_y (yh_not rfl rfl) rfl rfl (kk_wl ?_))
            refine wl_u rfl (ow_y (yh_move rfl rfl) rfl rfl (kk_wl ?_))
            refine wl_s rfl rfl (fun c5 => ?_) (fun c5 => ?_)
            · skip
              replace h := bt c5 h
              refine wl_n rfl rfl rfl rfl ?_
              refine wl_n rfl rfl rfl rfl ?_
              refine wl_n rfl rfl rfl rfl ?_
              refine wl_u rfl (ow_y (yh_pickT rfl rfl rfl) rfl rfl (kk_wl ?_))
              refine wl_nil ?_
              refine ex_seq ?_
              refine cw_true rfl ?_
              refine cw_seq ?_
              refine cw_region ?_
              refine wl_u rfl (ow_y (yh_assign rfl rfl) rfl rfl (kk_wl ?_))
              refine wl_nil ?_
              refine ex_seq ?_
              refine cw_ret ?_
              refine ex_then_ret ?_
              obtain rfl := Option.some.inj h
              exact ex_r1 Tb rfl (.tmp rfl) (fun wq hq => ⟨_, rfl, hq.ext, rfl⟩)
            · skip
              replace h := bf c5 h
              refine wl_g rfl rfl (ow_y (yh_move rfl rfl) rfl rfl (kk_wl ?_))
              refine wl_g rfl rfl (ow_y (yh_move rfl rfl) rfl rfl (kk_wl ?_))
              refine wl_g rfl rfl (ow_y (yh_cmpB rfl rfl rfl rfl (by kernel_rfl)) rfl rfl (kk_wl ?_))
              refine wl_u rfl (ow_y (yh_pickF rfl rfl rfl) rfl rfl (kk_wl ?_))
              refine wl_nil ?_
              refine ex_seq ?_
              refine cw_split rfl (fun c6 => ?_) (fun c6 => ?_)
              · skip
                replace h := bt c6 h
                refine cw_seq ?_
                refine cw_region ?_
                refine wl_u rfl (ow_y (yh_assign rfl rfl) rfl rfl (kk_wl ?_))
                refine wl_nil ?_
                refine ex_seq ?_
                refine cw_ret ?_
                refine ex_then_ret ?_
                obtain rfl := Option.some.inj h
                exact ex_r1 Tb rfl (.tmp rfl) (fun wq hq => ⟨_, rfl, hq.ext, rfl⟩)
              · skip
                replace h := bf c6 h
                refine cw_skip ?_
                refine ex_seq ?_
                obtain ⟨e130, he130, hk130⟩ := bd h
                clear h
                refine cw_cut (σ := Unit × Unit) (fun s => e130 = Ex.brk s.1) (fun s => [(4, .pointer (some ⟨g4, 0, none⟩)), (5, .pointer (some ⟨g5, 0, none⟩)), (6, .pointer (some ⟨g6, 0, none⟩)), (7, .pointer (some ⟨g7, 0, none⟩)), (10, .pointer (some ⟨g10, 0, none⟩)), (11, .bool j119.2.2), (12, .pointer (some ⟨g12, 0, none⟩)), (13, .pointer (some ⟨g13, 0, none⟩)), (14, .pointer (some ⟨g14, 0, none⟩)), (15, .pointer (some ⟨g15, 0, none⟩)), (16, .pointer (some ⟨g16, 0, none⟩)), (17, .bool x68.2)]) (fun s => [blkC g4 52 [.int .i64 u0.ver, .slice a_u0_steps u0.steps.length c_u0_steps], blkC g5 52 [.int .i64 u1.ver, .slice a_u1_steps u1.steps.length c_u1_steps], blkC g6 52 [.int .i64 u2.ver, .slice a_u2_steps u2.steps.length c_u2_steps], blkC g7 58 [.int .i64 u3.state, .slice a_u3_done u3.done.length c_u3_done], blkC g10 60 [.int .i64 j119.1, .slice ak119_10_c_1 j119.2.1.length ck119_10_c_1], owC strsL Fk119_10_c_1 [.slice ak119_10_c_1 j119.2.1.length ck119_10_c_1] j119.2.1, blkC g12 26 [.int .i64 x56.ver, .slice a56 x56.steps.length c56], owC stepsL F56 [.slice a56 x56.steps.length c56] x56.steps, blkC g13 26 [.int .i64 x58.ver, .slice a58 x58.steps.length c58], owC stepsL F58 [.slice a58 x58.steps.length c58] x58.steps, blkC g14 26 [.int .i64 x60.ver, .slice a60 x60.steps.length c60], owC stepsL F60 [.slice a60 x60.steps.length c60] x60.steps, blkC g15 60 [.int .i64 x62.state, .slice a62 x62.done.length c62], owC strsL F62 [.slice a62 x62.done.length c62] x62.done, blkC g16 60 [.int .i64 x68.1.state, .slice a68 x68.1.done.length c68], owC strsL F68 [.slice a68 x68.1.done.length c68] x68.1.done]) (fun s hI => ?_) (fun KL hn130 => ?_)
                · skip
                  obtain ⟨j130, _⟩ := s
                  simp only at hI ⊢
                  subst hI
                  have h := go_brk hk130
                  obtain ⟨e134, he134, hk134⟩ := bd h
                  clear h
                  refine cw_cut (σ := Unit × Unit) (fun s => e134 = Ex.brk s.1) (fun s => [(4, .pointer (some ⟨g4, 0, none⟩)), (5, .pointer (some ⟨g5, 0, none⟩)), (6, .pointer (some ⟨g6, 0, none⟩)), (7, .pointer (some ⟨g7, 0, none⟩)), (10, .pointer (some ⟨g10, 0, none⟩)), (11, .bool j119.2.2), (12, .pointer (some ⟨g12, 0, none⟩)), (13, .pointer (some ⟨g13, 0, none⟩)), (14, .pointer (some ⟨g14, 0, none⟩)), (15, .pointer (some ⟨g15, 0, none⟩)), (16, .pointer (some ⟨g16, 0, none⟩)), (17, .bool x68.2)]) (fun s => [blkC g4 52 [.int .i64 u0.ver, .slice a_u0_steps u0.steps.length c_u0_steps], blkC g5 52 [.int .i64 u1.ver, .slice a_u1_steps u1.steps.length c_u1_steps], blkC g6 52 [.int .i64 u2.ver, .slice a_u2_steps u2.steps.length c_u2_steps], blkC g7 58 [.int .i64 u3.state, .slice a_u3_done u3.done.length c_u3_done], blkC g10 60 [.int .i64 j119.1, .slice ak119_10_c_1 j119.2.1.length ck119_10_c_1], owC strsL Fk119_10_c_1 [.slice ak119_10_c_1 j119.2.1.length ck119_10_c_1] j119.2.1, blkC g12 26 [.int .i64 x56.ver, .slice a56 x56.steps.length c56], owC stepsL F56 [.slice a56 x56.steps.length c56] x56.steps, blkC g13 26 [.int .i64 x58.ver, .slice a58 x58.steps.length c58], owC stepsL F58 [.slice a58 x58.steps.length c58] x58.steps, blkC g14 26 [.int .i64 x60.ver, .slice a60 x60.steps.length c60], owC stepsL F60 [.slice a60 x60.steps.length c60] x60.steps, blkC g15 60 [.int .i64 x62.state, .slice a62 x62.done.length c62], owC strsL F62 [.slice a62 x62.done.length c62] x62.done, blkC g16 60 [.int .i64 x68.1.state, .slice a68 x68.1.done.length c68], owC strsL F68 [.slice a68 x68.1.done.length c68] x68.1.done]) (fun s hI => ?_) (fun KL hn134 => ?_)
                  · skip
                    obtain ⟨j134, _⟩ := s
                    simp only at hI ⊢
                    subst hI
                    have h := go_brk hk134
                    obtain ⟨e138, he138, hk138⟩ := bd h
                    clear h
                    refine cw_cut (σ := Unit × Unit) (fun s => e138 = Ex.brk s.1) (fun s => [(4, .pointer (some ⟨g4, 0, none⟩)), (5, .pointer (some ⟨g5, 0, none⟩)), (6, .pointer (some ⟨g6, 0, none⟩)), (7, .pointer (some ⟨g7, 0, none⟩)), (10, .pointer (some ⟨g10, 0, none⟩)), (11, .bool j119.2.2), (12, .pointer (some ⟨g12, 0, none⟩)), (13, .pointer (some ⟨g13, 0, none⟩)), (14, .pointer (some ⟨g14, 0, none⟩)), (15, .pointer (some ⟨g15, 0, none⟩)), (16, .pointer (some ⟨g16, 0, none⟩)), (17, .bool x68.2)]) (fun s => [blkC g4 52 [.int .i64 u0.ver, .slice a_u0_steps u0.steps.length c_u0_steps], blkC g5 52 [.int .i64 u1.ver, .slice a_u1_steps u1.steps.length c_u1_steps], blkC g6 52 [.int .i64 u2.ver, .slice a_u2_steps u2.steps.length c_u2_steps], blkC g7 58 [.int .i64 u3.state, .slice a_u3_done u3.done.length c_u3_done], blkC g10 60 [.int .i64 j119.1, .slice ak119_10_c_1 j119.2.1.length ck119_10_c_1], owC strsL Fk119_10_c_1 [.slice ak119_10_c_1 j119.2.1.length ck119_10_c_1] j119.2.1, blkC g12 26 [.int .i64 x56.ver, .slice a56 x56.steps.length c56], owC stepsL F56 [.slice a56 x56.steps.length c56] x56.steps, blkC g13 26 [.int .i64 x58.ver, .slice a58 x58.steps.length c58], owC stepsL F58 [.slice a58 x58.steps.length c58] x58.steps, blkC g14 26 [.int .i64 x60.ver, .slice a60 x60.steps.length c60], owC stepsL F60 [.slice a60 x60.steps.length c60] x60.steps, blkC g15 60 [.int .i64 x62.state, .slice a62 x62.done.length c62], owC strsL F62 [.slice a62 x62.done.length c62] x62.done, blkC g16 60 [.int .i64 x68.1.state, .slice a68 x68.1.done.length c68], owC strsL F68 [.slice a68 x68.1.done.length c68] x68.1.done]) (fun s hI => ?_) (fun KL hn138 => ?_)
                    · skip
                      obtain ⟨j138, _⟩ := s
                      simp only at hI ⊢
                      subst hI
                      have h := go_brk hk138
                      obtain ⟨e142, he142, hk142⟩ := bd h
                      clear h
                      refine cw_cut (σ := Unit × Unit) (fun s => e142 = Ex.brk s.1) (fun s => [(4, .pointer (some ⟨g4, 0, none⟩)), (5, .pointer (some ⟨g5, 0, none⟩)), (6, .pointer (some ⟨g6, 0, none⟩)), (7, .pointer (some ⟨g7, 0, none⟩)), (10, .pointer (some ⟨g10, 0, none⟩)), (11, .bool j119.2.2), (12, .pointer (some ⟨g12, 0, none⟩)), (13, .pointer (some ⟨g13, 0, none⟩)), (14, .pointer (some ⟨g14, 0, none⟩)), (15, .pointer (some ⟨g15, 0, none⟩)), (16, .pointer (some ⟨g16, 0, none⟩)), (17, .bool x68.2)]) (fun s => [blkC g4 52 [.int .i64 u0.ver, .slice a_u0_steps u0.steps.length c_u0_steps], blkC g5 52 [.int .i64 u1.ver, .slice a_u1_steps u1.steps.length c_u1_steps], blkC g6 52 [.int .i64 u2.ver, .slice a_u2_steps u2.steps.length c_u2_steps], blkC g7 58 [.int .i64 u3.state, .slice a_u3_done u3.done.length c_u3_done], blkC g10 60 [.int .i64 j119.1, .slice ak119_10_c_1 j119.2.1.length ck119_10_c_1], owC strsL Fk119_10_c_1 [.slice ak119_10_c_1 j119.2.1.length ck119_10_c_1] j119.2.1, blkC g12 26 [.int .i64 x56.ver, .slice a56 x56.steps.length c56], owC stepsL F56 [.slice a56 x56.steps.length c56] x56.steps, blkC g13 26 [.int .i64 x58.ver, .slice a58 x58.steps.length c58], owC stepsL F58 [.slice a58 x58.steps.length c58] x58.steps, blkC g14 26 [.int .i64 x60.ver, .slice a60 x60.steps.length c60], owC stepsL F60 [.slice a60 x60.steps.length c60] x60.steps, blkC g15 60 [.int .i64 x62.state, .slice a62 x62.done.length c62], owC strsL F62 [.slice a62 x62.done.length c62] x62.done, blkC g16 60 [.int .i64 x68.1.state, .slice a68 x68.1.done.length c68], owC strsL F68 [.slice a68 x68.1.done.length c68] x68.1.done]) (fun s hI => ?_) (fun KL hn142 => ?_)
                      · skip
                        obtain ⟨j142, _⟩ := s
                        simp only at hI ⊢
                        subst hI
                        have h := go_brk hk142
                        refine cw_seq ?_
                        refine cw_region ?_
                        refine wl_u rfl (ow_y (yh_assign rfl rfl) rfl rfl (kk_wl ?_))
                        refine wl_nil ?_
                        refine ex_seq ?_
                        refine cw_seq ?_
                        refine cw_region ?_
                        refine wl_u rfl (ow_y (yh_loadBA Tb (k := 6) rfl rfl rfl rfl rfl rfl) rfl rfl (kk_wl ?_))
                        refine wl_u rfl (ow_y (yh_move rfl rfl) rfl rfl (kk_wl ?_))
                        obtain ⟨x102, hx102, h⟩ := bd h
                        refine wl_u rfl (ow_cF1 7 rfl hb35 rfl rfl (fun w hw => c_laws_markFlow N _ _ _ hx102 w (hw.at (i := 7) rfl) (hw.ndAt (i := 7) rfl)) rfl rfl (fun F102 => kk_wl ?_))
                        refine wl_u rfl (ow_y (yh_assign rfl rfl) rfl rfl (kk_wl ?_))
                        refine wl_nil ?_
                        refine ex_seq ?_
                        refine cw_seq ?_
                        refine cw_region ?_
                        refine wl_u rfl (ow_y (yh_loadBA Tb (k := 8) rfl rfl rfl rfl rfl rfl) rfl rfl (kk_wl ?_))
                        refine wl_u rfl (ow_y (yh_move rfl rfl) rfl rfl (kk_wl ?_))
                        obtain ⟨x105, hx105, h⟩ := bd h
                        refine wl_u rfl (ow_cF1 9 rfl hb35 rfl rfl (fun w hw => c_laws_markFlow N _ _ _ hx105 w (hw.at (i := 9) rfl) (hw.ndAt (i := 9) rfl)) rfl rfl (fun F105 => kk_wl ?_))
                        refine wl_u rfl (ow_y (yh_assign rfl rfl) rfl rfl (kk_wl ?_))
                        refine wl_nil ?_
                        refine ex_seq ?_
                        refine cw_seq ?_
                        refine cw_region ?_
                        refine wl_u rfl (ow_y (yh_loadBA Tb (k := 10) rfl rfl rfl rfl rfl rfl) rfl rfl (kk_wl ?_))
                        refine wl_u rfl (ow_y (yh_move rfl rfl) rfl rfl (kk_wl ?_))
                        obtain ⟨x108, hx108, h⟩ := bd h
                        refine wl_u rfl (ow_cF1 11 rfl hb35 rfl rfl (fun w hw => c_laws_markFlow N _ _ _ hx108 w (hw.at (i := 11) rfl) (hw.ndAt (i := 11) rfl)) rfl rfl (fun F108 => kk_wl ?_))
                        refine wl_u rfl (ow_y (yh_assign rfl rfl) rfl rfl (kk_wl ?_))
                        refine wl_nil ?_
                        refine ex_seq ?_
                        refine cw_seq ?_
                        refine cw_region ?_
                        refine wl_u rfl (ow_y (yh_loadBA Tb (k := 12) rfl rfl rfl rfl rfl rfl) rfl rfl (kk_wl ?_))
                        refine wl_u rfl (ow_y (yh_move rfl rfl) rfl rfl (kk_wl ?_))
                        obtain ⟨x111, hx111, h⟩ := bd h
                        refine wl_u rfl (ow_cF1 13 rfl hb45 rfl rfl (fun w hw => c_laws_markRun N _ _ _ hx111 w (hw.at (i := 13) rfl) (hw.ndAt (i := 13) rfl)) rfl rfl (fun F111 => kk_wl ?_))
                        refine wl_u rfl (ow_y (yh_assign rfl rfl) rfl rfl (kk_wl ?_))
                        refine wl_nil ?_
                        refine ex_seq ?_
                        refine cw_seq ?_
                        refine cw_seq ?_
                        refine cw_region ?_
                        refine wl_u rfl (ow_y (yh_move rfl rfl) rfl rfl (kk_wl ?_))
                        refine wl_u rfl (ow_y (yh_cmpI rfl rfl rfl rfl) rfl rfl (kk_wl ?_))
                        refine wl_u rfl (ow_y (yh_move rfl rfl) rfl rfl (kk_wl ?_))
                        refine wl_s rfl rfl (fun c7 => ?_) (fun c7 => ?_)
                        · skip
                          replace h := bt c7 h
                          have q9 := ltb_true.1 c7
                          refine wl_n rfl rfl rfl rfl ?_
                          refine wl_n rfl rfl rfl rfl ?_
                          refine wl_n rfl rfl rfl rfl ?_
                          refine wl_n rfl rfl rfl rfl ?_
                          refine wl_u rfl (ow_y (yh_pickT rfl rfl rfl) rfl rfl (kk_wl ?_))
                          refine wl_u rfl (ow_y (yh_move rfl rfl) rfl rfl (kk_wl ?_))
                          refine wl_s rfl rfl (fun _ => ?_) nofun
                          refine wl_n rfl rfl rfl rfl ?_
                          refine wl_n rfl rfl rfl rfl ?_
                          refine wl_n rfl rfl rfl rfl ?_
                          refine wl_u rfl (ow_y (yh_pickT rfl rfl rfl) rfl rfl (kk_wl ?_))
                          refine wl_nil ?_
                          refine ex_seq ?_
                          refine cw_true rfl ?_
                          refine cw_seq ?_
                          refine cw_region ?_
                          refine wl_u rfl (ow_y (yh_assign rfl rfl) rfl rfl (kk_wl ?_))
                          refine wl_nil ?_
                          refine ex_seq ?_
                          refine cw_ret ?_
                          refine ex_then_ret ?_
                          obtain rfl := Option.some.inj h
                          exact ex_r1 Tb rfl (.tmp rfl) (fun wq hq => ⟨_, rfl, hq.ext, rfl⟩)
                        · skip
                          replace h := bf c7 h
                          have q10 := ltb_false.1 c7
                          refine wl_g rfl rfl (ow_y (yh_loadBA Tb (k := 14) rfl rfl rfl rfl rfl rfl) rfl rfl (kk_wl ?_))
                          refine wl_g rfl rfl (ow_y (yh_loadBA Tb (k := 8) rfl rfl rfl rfl rfl rfl) rfl rfl (kk_wl ?_))
                          obtain ⟨x117, hx117, h⟩ := bd h
                          refine wl_g rfl rfl (ow_cV rfl hb44 rfl (fun w hw => c_laws_eqRun N _ _ _ hx117 w (rdo (A := strsL) 15 rfl hw) (rdo (A := strsL) 9 rfl hw)) rfl rfl (kk_wl ?_))
                          refine wl_g rfl rfl (ow_y (yh_not rfl rfl) rfl rfl (kk_wl ?_))
                          refine wl_u rfl (ow_y (yh_pickF rfl rfl rfl) rfl rfl (kk_wl ?_))
                          refine wl_u rfl (ow_y (yh_move rfl rfl) rfl rfl (kk_wl ?_))
                          refine wl_s rfl rfl (fun c8 => ?_) (fun c8 => ?_)
                          · skip
                            replace h := bt c8 h
                            refine wl_n rfl rfl rfl rfl ?_
                            refine wl_n rfl rfl rfl rfl ?_
                            refine wl_n rfl rfl rfl rfl ?_
                            refine wl_u rfl (ow_y (yh_pickT rfl rfl rfl) rfl rfl (kk_wl ?_))
                            refine wl_nil ?_
                            refine ex_seq ?_
                            refine cw_true rfl ?_
                            refine cw_seq ?_
                            refine cw_region ?_
                            refine wl_u rfl (ow_y (yh_assign rfl rfl) rfl rfl (kk_wl ?_))
                            refine wl_nil ?_
                            refine ex_seq ?_
                            refine cw_ret ?_
                            refine ex_then_ret ?_
                            obtain rfl := Option.some.inj h
                            exact ex_r1 Tb rfl (.tmp rfl) (fun wq hq => ⟨_, rfl, hq.ext, rfl⟩)
                          · skip
                            replace h := bf c8 h
                            refine wl_g rfl rfl (ow_y (yh_move rfl rfl) rfl rfl (kk_wl ?_))
                            refine wl_g rfl rfl (ow_y (yh_move rfl rfl) rfl rfl (kk_wl ?_))
                            refine wl_g rfl rfl (ow_y (yh_cmpB rfl rfl rfl rfl (by kernel_rfl)) rfl rfl (kk_wl ?_))
                            refine wl_u rfl (ow_y (yh_pickF rfl rfl rfl) rfl rfl (kk_wl ?_))
                            refine wl_nil ?_
                            refine ex_seq ?_
                            refine cw_split rfl (fun hc => Bool.noConfusion (c6.symm.trans hc)) (fun _ => ?_)
                            refine cw_skip ?_
                            refine ex_seq ?_
                            refine cw_seq ?_
                            refine cw_region ?_
                            refine wl_u rfl (ow_y (yh_assign rfl rfl) rfl rfl (kk_wl ?_))
                            refine wl_nil ?_
                            refine ex_seq ?_
                            refine cw_seq ?_
                            refine cw_region ?_
                            refine wl_u rfl (ow_y (yh_loadBA Tb (k := 14) rfl rfl rfl rfl rfl rfl) rfl rfl (kk_wl ?_))
                            refine wl_u rfl (ow_y (yh_move rfl rfl) rfl rfl (kk_wl ?_))
                            obtain ⟨x127, hx127, h⟩ := bd h
                            refine wl_u rfl (ow_cF1 15 rfl hb45 rfl rfl (fun w hw => c_laws_markRun N _ _ _ hx127 w (hw.at (i := 15) rfl) (hw.ndAt (i := 15) rfl)) rfl rfl (fun F127 => kk_wl ?_))
                            refine wl_u rfl (ow_y (yh_assign rfl rfl) rfl rfl (kk_wl ?_))
                            refine wl_nil ?_
                            refine ex_seq ?_
                            refine cw_seq ?_
                            refine cw_region ?_
                            refine wl_u rfl (ow_y (yh_assign rfl rfl) rfl rfl (kk_wl ?_))
                            refine wl_nil ?_
                            refine ex_seq ?_
                            refine cw_seq ?_
                            refine cw_region ?_
                            refine wl_u rfl (ow_y (yh_loadBA Tb (k := 15) rfl rfl rfl rfl rfl rfl) rfl rfl (kk_wl ?_))
                            refine wl_u rfl (ow_y (yh_move rfl rfl) rfl rfl (kk_wl ?_))
                            refine wl_know (x68.1.done.length = x127.2.length) (fun w hw => own_lenK 0 rfl hw) (fun hr2_ => ?_)
                            rw [hr2_]
                            obtain ⟨x130, hx130, h⟩ := bd h
                            refine wl_u rfl (ow_cV rfl hb46 rfl (fun w hw => c_laws_heldRun N _ _ _ hx130 w (rdo (A := strsL) 0 rfl hw)) rfl rfl (kk_wl ?_))
                            refine wl_u rfl (ow_y (yh_assign rfl rfl) rfl rfl (kk_wl ?_))
                            refine wl_nil ?_
                            refine ex_seq ?_
                            refine cw_seq ?_
                            refine cw_seq ?_
                            refine cw_region ?_
                            refine wl_u rfl (ow_y (yh_move rfl rfl) rfl rfl (kk_wl ?_))
                            refine wl_u rfl (ow_y (yh_cmpI rfl rfl rfl rfl) rfl rfl (kk_wl ?_))
                            refine wl_nil ?_
                            refine ex_seq ?_
                            refine cw_split rfl (fun c9 => ?_) (fun c9 => ?_)
                            · skip
                              replace h := bt c9 h
                              have q11 := ltb_true.1 c9
                              refine cw_seq ?_
                              refine cw_region ?_
                              refine wl_u rfl (ow_y (yh_assign rfl rfl) rfl rfl (kk_wl ?_))
                              refine wl_nil ?_
                              refine ex_seq ?_
                              refine cw_ret ?_
                              refine ex_then_ret ?_
                              obtain rfl := Option.some.inj h
                              exact ex_r1 Tb rfl (.tmp rfl) (fun wq hq => ⟨_, rfl, hq.ext, rfl⟩)
                            · skip
                              replace h := bf c9 h
                              have q12 := ltb_false.1 c9
                              refine cw_skip ?_
                              refine ex_seq ?_
                              refine cw_seq ?_
                              refine cw_seq ?_
                              refine cw_region ?_
                              refine wl_u rfl (ow_y (yh_move rfl rfl) rfl rfl (kk_wl ?_))
                              refine wl_u rfl (ow_y (yh_move rfl rfl) rfl rfl (kk_wl ?_))
                              refine wl_u rfl (ow_y (yh_cmpI rfl rfl rfl rfl) rfl rfl (kk_wl ?_))
                              refine wl_nil ?_
                              refine ex_seq ?_
                              refine cw_split rfl (fun c10 => ?_) (fun c10 => ?_)
                              · skip
                                replace h := bt c10 h
                                have q13 := eqb_false.1 (nt c10)
                                refine cw_seq ?_
                                refine cw_region ?_
                                refine wl_u rfl (ow_y (yh_assign rfl rfl) rfl rfl (kk_wl ?_))
                                refine wl_nil ?_
                                refine ex_seq ?_
                                refine cw_ret ?_
                                refine ex_then_ret ?_
                                obtain rfl := Option.some.inj h
                                exact ex_r1 Tb rfl (.tmp rfl) (fun wq hq => ⟨_, rfl, hq.ext, rfl⟩)
                              · skip
                                replace h := bf c10 h
                                have q14 := eqb_true.1 (nf c10)
                                refine cw_skip ?_
                                refine ex_seq ?_
                                obtain ⟨j165, he165, hk165⟩ := bd h
                                clear h
                                refine cw_cut (σ := Nat × (Option Addr) × Nat × (List Nat)) (fun s => True) (fun s => [(10, .pointer (some ⟨g10, 0, none⟩)), (11, .bool j119.2.2), (16, .pointer (some ⟨g16, 0, none⟩)), (19, .int .i64 x127.1), (21, .pointer (some ⟨s.1, 0, none⟩)), (22, .bool j165.2.2)]) (fun s => [blkC g10 60 [.int .i64 j119.1, .slice ak119_10_c_1 j119.2.1.length ck119_10_c_1], owC strsL Fk119_10_c_1 [.slice ak119_10_c_1 j119.2.1.length ck119_10_c_1] j119.2.1, blkC g16 60 [.int .i64 x68.1.state, .slice a68 x127.2.length c68], owC strsL F127 [.slice a68 x127.2.length c68] x127.2, blkC s.1 60 [.int .i64 j165.1, .slice s.2.1 j165.2.1.length s.2.2.1], owC strsL s.2.2.2 [.slice s.2.1 j165.2.1.length s.2.2.1] j165.2.1]) (fun s hI => ?_) (fun KL hn165 => ?_)
                                · skip
                                  obtain ⟨g21, ak165_21_c_1, ck165_21_c_1, Fk165_21_c_1⟩ := s
                                  simp only at ⊢
                                  have h := hk165
                                  refine cw_seq ?_
                                  refine cw_seq ?_
                                  refine cw_region ?_
                                  refine wl_u rfl (ow_y (yh_loadBA Tb (k := 4) rfl rfl rfl rfl rfl rfl) rfl rfl (kk_wl ?_))
                                  refine wl_u rfl (ow_y (yh_loadBA Tb (k := 0) rfl rfl rfl rfl rfl rfl) rfl rfl (kk_wl ?_))
                                  obtain ⟨x150, hx150, h⟩ := bd h
                                  refine wl_u rfl (ow_cV rfl hb44 rfl (fun w hw => c_laws_eqRun N _ _ _ hx150 w (rdo (A := strsL) 5 rfl hw) (rdo (A := strsL) 1 rfl hw)) rfl rfl (kk_wl ?_))
                                  refine wl_u rfl (ow_y (yh_not rfl rfl) rfl rfl (kk_wl ?_))
                                  refine wl_u rfl (ow_y (yh_move rfl rfl) rfl rfl (kk_wl ?_))
                                  refine wl_s rfl rfl (fun c11 => ?_) (fun c11 => ?_)
                                  · skip
                                    replace h := bt c11 h
                                    refine wl_n rfl rfl rfl rfl ?_
                                    refine wl_n rfl rfl rfl rfl ?_
                                    refine wl_n rfl rfl rfl rfl ?_
                                    refine wl_u rfl (ow_y (yh_pickT rfl rfl rfl) rfl rfl (kk_wl ?_))
                                    refine wl_nil ?_
                                    refine ex_seq ?_
                                    refine cw_true rfl ?_
                                    refine cw_seq ?_
                                    refine cw_region ?_
                                    refine wl_u rfl (ow_y (yh_assign rfl rfl) rfl rfl (kk_wl ?_))
                                    refine wl_nil ?_
                                    refine ex_seq ?_
                                    refine cw_ret ?_
                                    refine ex_then_ret ?_
                                    obtain rfl := Option.some.inj h
                                    exact ex_r1 Tb rfl (.tmp rfl) (fun wq hq => ⟨_, rfl, hq.ext, rfl⟩)
                                  · skip
                                    replace h := bf c11 h
                                    refine wl_g rfl rfl (ow_y (yh_move rfl rfl) rfl rfl (kk_wl ?_))
                                    refine wl_g rfl rfl (ow_y (yh_move rfl rfl) rfl rfl (kk_wl ?_))
                                    refine wl_g rfl rfl (ow_y (yh_cmpB rfl rfl rfl rfl (by kernel_rfl)) rfl rfl (kk_wl ?_))
                                    refine wl_u rfl (ow_y (yh_pickF rfl rfl rfl) rfl rfl (kk_wl ?_))
                                    refine wl_nil ?_
                                    refine ex_seq ?_
                                    refine cw_split rfl (fun c12 => ?_) (fun c12 => ?_)
                                    · skip
                                      replace h := bt c12 h
                                      refine cw_seq ?_
                                      refine cw_region ?_
                                      refine wl_u rfl (ow_y (yh_assign rfl rfl) rfl rfl (kk_wl ?_))
                                      refine wl_nil ?_
                                      refine ex_seq ?_
                                      refine cw_ret ?_
                                      refine ex_then_ret ?_
                                      obtain rfl := Option.some.inj h
                                      exact ex_r1 Tb rfl (.tmp rfl) (fun wq hq => ⟨_, rfl, hq.ext, rfl⟩)
                                    · skip
                                      replace h := bf c12 h
                                      refine cw_skip ?_
                                      refine ex_seq ?_
                                      refine cw_seq ?_
                                      refine cw_region ?_
                                      refine wl_u rfl (ow_y (yh_assign rfl rfl) rfl rfl (kk_wl ?_))
                                      refine wl_nil ?_
                                      refine ex_seq ?_
                                      refine cw_seq ?_
                                      refine cw_region ?_
                                      refine wl_u rfl (ow_y (yh_loadBA Tb (k := 2) rfl rfl rfl rfl rfl rfl) rfl rfl (kk_wl ?_))
                                      refine wl_u rfl (ow_y (yh_move rfl rfl) rfl rfl (kk_wl ?_))
                                      obtain ⟨x159, hx159, h⟩ := bd h
                                      refine wl_u rfl (ow_cV rfl hb46 rfl (fun w hw => c_laws_heldRun N _ _ _ hx159 w (rdo (A := strsL) 3 rfl hw)) rfl rfl (kk_wl ?_))
                                      refine wl_u rfl (ow_y (yh_assign rfl rfl) rfl rfl (kk_wl ?_))
                                      refine wl_nil ?_
                                      refine ex_seq ?_
                                      refine cw_seq ?_
                                      refine cw_seq ?_
                                      refine cw_region ?_
                                      refine wl_u rfl (ow_y (yh_move rfl rfl) rfl rfl (kk_wl ?_))
                                      refine wl_u rfl (ow_y (yh_cmpI rfl rfl rfl rfl) rfl rfl (kk_wl ?_))
                                      refine wl_nil ?_
                                      refine ex_seq ?_
                                      refine cw_split rfl (fun c13 => ?_) (fun c13 => ?_)
                                      · skip
                                        replace h := bt c13 h
                                        have q15 := ltb_true.1 c13
                                        refine cw_seq ?_
                                        refine cw_region ?_
                                        refine wl_u rfl (ow_y (yh_assign rfl rfl) rfl rfl (kk_wl ?_))
                                        refine wl_nil ?_
                                        refine ex_seq ?_
                                        refine cw_ret ?_
                                        refine ex_then_ret ?_
                                        obtain rfl := Option.some.inj h
                                        exact ex_r1 Tb rfl (.tmp rfl) (fun wq hq => ⟨_, rfl, hq.ext, rfl⟩)
                                      · skip
                                        replace h := bf c13 h
                                        have q16 := ltb_false.1 c13
                                        refine cw_skip ?_
                                        refine ex_seq ?_
                                        refine cw_seq ?_
                                        refine cw_seq ?_
                                        refine cw_region ?_
                                        refine wl_u rfl (ow_y (yh_move rfl rfl) rfl rfl (kk_wl ?_))
                                        refine wl_u rfl (ow_y (yh_move rfl rfl) rfl rfl (kk_wl ?_))
                                        refine wl_u rfl (ow_y (yh_cmpI rfl rfl rfl rfl) rfl rfl (kk_wl ?_))
                                        refine wl_nil ?_
                                        refine ex_seq ?_
                                        refine cw_split rfl (fun c14 => ?_) (fun c14 => ?_)
                                        · skip
                                          replace h := bt c14 h
                                          have q17 := eqb_false.1 (nt c14)
                                          refine cw_seq ?_
                                          refine cw_region ?_
                                          refine wl_u rfl (ow_y (yh_assign rfl rfl) rfl rfl (kk_wl ?_))
                                          refine wl_nil ?_
                                          refine ex_seq ?_
                                          refine cw_ret ?_
                                          refine ex_then_ret ?_
                                          obtain rfl := Option.some.inj h
                                          exact ex_r1 Tb rfl (.tmp rfl) (fun wq hq => ⟨_, rfl, hq.ext, rfl⟩)
                                        · skip
                                          replace h := bf c14 h
                                          have q18 := eqb_true.1 (nf c14)
                                          refine cw_skip ?_
                                          refine ex_seq ?_
                                          refine cw_seq ?_
                                          refine cw_region ?_
                                          refine wl_u rfl (ow_y (yh_assign rfl rfl) rfl rfl (kk_wl ?_))
                                          refine wl_nil ?_
                                          refine ex_seq ?_
                                          refine cw_ret ?_
                                          obtain rfl := Option.some.inj h
                                          exact ex_r1 Tb rfl (.tmp rfl) (fun wq hq => ⟨_, rfl, hq.ext, rfl⟩)
                                · skip
                                  have h := he165
                                  refine cw_dr [0, 2, 4, 6, 9, 10, 11, 14] [] [owC strsL F127 [.slice a68 x127.2.length c68] x127.2, owC strsL F111 [.slice a62 x62.done.length c62] x111.2, owC stepsL F108 [.slice a60 x60.steps.length c60] x108.2, owC stepsL F105 [.slice a58 x58.steps.length c58] x105.2, owC stepsL F102 [.slice a56 x56.steps.length c56] x102.2, blkC g4 52 [.int .i64 u0.ver, .slice a_u0_steps u0.steps.length c_u0_steps], blkC g5 52 [.int .i64 u1.ver, .slice a_u1_steps u1.steps.length c_u1_steps], blkC g6 52 [.int .i64 u2.ver, .slice a_u2_steps u2.steps.length c_u2_steps], blkC g7 58 [.int .i64 u3.state, .slice a_u3_done u3.done.length c_u3_done], blkC g10 60 [.int .i64 j119.1, .slice ak119_10_c_1 j119.2.1.length ck119_10_c_1], owC strsL Fk119_10_c_1 [.slice ak119_10_c_1 j119.2.1.length ck119_10_c_1] j119.2.1, blkC g12 26 [.int .i64 x56.ver, .slice a56 x56.steps.length c56], blkC g13 26 [.int .i64 x58.ver, .slice a58 x58.steps.length c58], blkC g14 26 [.int .i64 x60.ver, .slice a60 x60.steps.length c60], blkC g15 60 [.int .i64 x62.state, .slice a62 x62.done.length c62], blkC g16 60 [.int .i64 x68.1.state, .slice a68 x127.2.length c68]] (by kernel_rfl) ?_
                                  refine wd_take (i := 0) [0, 1, 2, 3, 4, 5, 6, 7, 8, 9, 10, 11, 12, 13, 14, 15] rfl rfl rfl rfl rfl (by kernel_rfl) (by kernel_rfl) (fun _ _ _ _ h => h) (yh_loadBA Tb (k := 5) rfl rfl rfl rfl rfl rfl) ?_
                                  refine wd_take (i := 2) [0, 1, 2, 3, 4, 5, 6, 7, 8, 9, 10, 11, 12, 13, 14, 15] rfl rfl rfl rfl rfl (by kernel_rfl) (by kernel_rfl) (fun _ _ _ _ h => h) (yh_loadBA Tb (k := 6) rfl rfl rfl rfl rfl rfl) ?_
                                  refine wd_take (i := 4) [0, 1, 2, 3, 4, 5, 6, 7, 8, 9, 10, 11, 12, 13, 14, 15] rfl rfl rfl rfl rfl (by kernel_rfl) (by kernel_rfl) (fun _ _ _ _ h => h) (yh_loadBA Tb (k := 7) rfl rfl rfl rfl rfl rfl) ?_
                                  refine wd_take (i := 6) [0, 1, 2, 3, 4, 5, 6, 7, 8, 9, 10, 11, 12, 13, 14, 15] rfl rfl rfl rfl rfl (by kernel_rfl) (by kernel_rfl) (fun _ _ _ _ h => h) (yh_loadBA Tb (k := 8) rfl rfl rfl rfl rfl rfl) ?_
                                  refine wd_all [1, 12] (by kernel_rfl) (by simp) (fun i hi => ?_)
                                  simp only [List.mem_cons, List.not_mem_nil, or_false] at hi
                                  rcases hi with rfl | rfl
                                  · refine ⟨_, rfl, rfl, ?_⟩
                                    obtain ⟨x138, hx138, h⟩ := bd h
                                    refine (ow_cN1 rfl hb38 rfl (fun w hw => c_laws_toFlow N _ _ hx138 w (Lay.at_ h_u0_steps hw)) rfl rfl (fun a138 c138 F138 => kk_wd [1, 2, 3, 4, 5, 6, 7, 8, 9, 10, 11, 12, 13, 14, 15, 16] (by kernel_rfl) ?_))
                                    refine wd_all [3, 12] (by kernel_rfl) (by simp) (fun i hi => ?_)
                                    simp only [List.mem_cons, List.not_mem_nil, or_false] at hi
                                    rcases hi with rfl | rfl
                                    · refine ⟨_, rfl, rfl, ?_⟩
                                      obtain ⟨x140, hx140, h⟩ := bd h
                                      refine (ow_cN1 rfl hb38 rfl (fun w hw => c_laws_toFlow N _ _ hx140 w (Lay.at_ h_u1_steps hw)) rfl rfl (fun a140 c140 F140 => kk_wd [2, 3, 4, 5, 6, 7, 8, 9, 10, 11, 12, 13, 14, 15, 16, 17] (by kernel_rfl) ?_))
                                      refine wd_all [5, 12] (by kernel_rfl) (by simp) (fun i hi => ?_)
                                      simp only [List.mem_cons, List.not_mem_nil, or_false] at hi
                                      rcases hi with rfl | rfl
                                      · refine ⟨_, rfl, rfl, ?_⟩
                                        obtain ⟨x142, hx142, h⟩ := bd h
                                        refine (ow_cN1 rfl hb38 rfl (fun w hw => c_laws_toFlow N _ _ hx142 w (Lay.at_ h_u2_steps hw)) rfl rfl (fun a142 c142 F142 => kk_wd [3, 4, 5, 6, 7, 8, 9, 10, 11, 12, 13, 14, 15, 16, 17, 18] (by kernel_rfl) ?_))
                                        refine wd_all [7, 12] (by kernel_rfl) (by simp) (fun i hi => ?_)
                                        simp only [List.mem_cons, List.not_mem_nil, or_false] at hi
                                        rcases hi with rfl | rfl
                                        · refine ⟨_, rfl, rfl, ?_⟩
                                          obtain ⟨x144, hx144, h⟩ := bd h
                                          refine (ow_cN1 rfl hb42 rfl (fun w hw => c_laws_toRun N _ _ hx144 w (Lay.at_ h_u3_done hw)) rfl rfl (fun a144 c144 F144 => kk_wd [4, 5, 6, 7, 8, 9, 10, 11, 12, 13, 14, 15, 16, 17, 18, 19] (by kernel_rfl) ?_))
                                          refine wd_all [8, 12] (by kernel_rfl) (by simp) (fun i hi => ?_)
                                          simp only [List.mem_cons, List.not_mem_nil, or_false] at hi
                                          rcases hi with rfl | rfl
                                          · refine ⟨_, rfl, rfl, ?_⟩
                                            obtain ⟨x145, hx145, h⟩ := bd h
                                            refine (ow_cN1 rfl hb48 rfl (fun w hw => c_impl_MoveBoth N _ _ _ _ _ hx145 w (rdo (A := stepsL) 3 rfl hw) (rdo (A := stepsL) 2 rfl hw) (rdo (A := stepsL) 1 rfl hw) (rdo (A := strsL) 0 rfl hw)) rfl rfl (fun a145 c145 F145 => kk_wd [5, 6, 7, 8, 9, 10, 11, 12, 13, 14, 15, 16, 17, 18, 19, 20] (by kernel_rfl) ?_))
                                            refine wd_take (i := 9) [5, 6, 7, 8, 9, 10, 11, 12, 13, 14, 15, 16, 17, 18, 19, 20] rfl rfl rfl rfl rfl (by kernel_rfl) (by kernel_rfl) (fun _ _ _ _ h => h) (yh_move rfl rfl) ?_
                                            refine wd_take (i := 10) [5, 6, 7, 8, 9, 10, 11, 12, 13, 14, 15, 16, 17, 18, 19, 20] rfl rfl rfl rfl rfl (by kernel_rfl) (by kernel_rfl) (fun _ _ _ _ h => h) (yh_extract rfl rfl rfl) ?_
                                            refine wd_take (i := 11) [5, 6, 7, 8, 9, 10, 11, 12, 13, 14, 15, 16, 17, 18, 19, 20] rfl rfl rfl rfl rfl (by kernel_rfl) (by kernel_rfl) (fun _ _ _ _ h => h) (yh_extract rfl rfl rfl) ?_
                                            refine wd_one 12 rfl rfl (by kernel_rfl) (ow_allocA Tb rfl rfl rfl rfl (fun g21 => kk_wd [6, 7, 8, 9, 10, 11, 12, 13, 14, 15, 16, 17, 18, 19, 20, 21] (by kernel_rfl) ?_))
                                            refine wd_one 13 rfl rfl (by kernel_rfl) (ow_storeA Tb (k := 0) rfl rfl rfl rfl rfl rfl rfl rfl rfl (kk_wd [6, 7, 8, 9, 10, 11, 12, 13, 14, 15, 16, 17, 18, 19, 20, 21] (by kernel_rfl) ?_))
                                            refine wd_take (i := 14) [6, 7, 8, 9, 10, 11, 12, 13, 14, 15, 16, 17, 18, 19, 20, 21] rfl rfl rfl rfl rfl (by kernel_rfl) (by kernel_rfl) (fun _ _ _ _ h => h) (yh_assign rfl rfl) ?_
                                            refine wd_done (by kernel_rfl) ?_
                                            obtain rfl := Option.some.inj h
                                            exact ex_next [15, 16, 21, 6, 0, 1] (hn165 (g21, a145, c145, F145) trivial) ⟨rfl, rfl, rfl, rfl, rfl, rfl, trivial⟩ (by kernel_rfl)
                                          · refine ⟨_, rfl, rfl, ?_⟩
                                            refine (ow_allocA Tb rfl rfl rfl rfl (fun g21 => kk_wd [5, 6, 7, 8, 9, 10, 11, 12, 13, 14, 15, 16, 17, 18, 19, 20] (by kernel_rfl) ?_))
                                            obtain ⟨x145, hx145, h⟩ := bd h
                                            refine wd_one 8 rfl rfl (by kernel_rfl) (ow_cN1 rfl hb48 rfl (fun w hw => c_impl_MoveBoth N _ _ _ _ _ hx145 w (rdo (A := stepsL) 4 rfl hw) (rdo (A := stepsL) 3 rfl hw) (rdo (A := stepsL) 2 rfl hw) (rdo (A := strsL) 1 rfl hw)) rfl rfl (fun a145 c145 F145 => kk_wd [6, 7, 8, 9, 10, 11, 12, 13, 14, 15, 16, 17, 18, 19, 20, 21] (by kernel_rfl) ?_))
                                            refine wd_take (i := 9) [6, 7, 8, 9, 10, 11, 12, 13, 14, 15, 16, 17, 18, 19, 20, 21] rfl rfl rfl rfl rfl (by kernel_rfl) (by kernel_rfl) (fun _ _ _ _ h => h) (yh_move rfl rfl) ?_
                                            refine wd_take (i := 10) [6, 7, 8, 9, 10, 11, 12, 13, 14, 15, 16, 17, 18, 19, 20, 21] rfl rfl rfl rfl rfl (by kernel_rfl) (by kernel_rfl) (fun _ _ _ _ h => h) (yh_extract rfl rfl rfl) ?_
                                            refine wd_take (i := 11) [6, 7, 8, 9, 10, 11, 12, 13, 14, 15, 16, 17, 18, 19, 20, 21] rfl rfl rfl rfl rfl (by kernel_rfl) (by kernel_rfl) (fun _ _ _ _ h => h) (yh_extract rfl rfl rfl) ?_
                                            refine wd_one 13 rfl rfl (by kernel_rfl) (ow_storeA Tb (k := 1) rfl rfl rfl rfl rfl rfl rfl rfl rfl (kk_wd [6, 7, 8, 9, 10, 11, 12, 13, 14, 15, 16, 17, 18, 19, 20, 21] (by kernel_rfl) ?_))
                                            refine wd_take (i := 14) [6, 7, 8, 9, 10, 11, 12, 13, 14, 15, 16, 17, 18, 19, 20, 21] rfl rfl rfl rfl rfl (by kernel_rfl) (by kernel_rfl) (fun _ _ _ _ h => h) (yh_assign rfl rfl) ?_
                                            refine wd_done (by kernel_rfl) ?_
                                            obtain rfl := Option.some.inj h
                                            exact ex_next [15, 16, 21, 6, 0, 1] (hn165 (g21, a145, c145, F145) trivial) ⟨rfl, rfl, rfl, rfl, rfl, rfl, trivial⟩ (by kernel_rfl)
                                        · refine ⟨_, rfl, rfl, ?_⟩
                                          refine (ow_allocA Tb rfl rfl rfl rfl (fun g21 => kk_wd [4, 5, 6, 7, 8, 9, 10, 11, 12, 13, 14, 15, 16, 17, 18, 19] (by kernel_rfl) ?_))
                                          obtain ⟨x144, hx144, h⟩ := bd h
                                          refine wd_one 7 rfl rfl (by kernel_rfl) (ow_cN1 rfl hb42 rfl (fun w hw => c_laws_toRun N _ _ hx144 w (Lay.at_ h_u3_done hw)) rfl rfl (fun a144 c144 F144 => kk_wd [5, 6, 7, 8, 9, 10, 11, 12, 13, 14, 15, 16, 17, 18, 19, 20] (by kernel_rfl) ?_))
                                          obtain ⟨x145, hx145, h⟩ := bd h
                                          refine wd_one 8 rfl rfl (by kernel_rfl) (ow_cN1 rfl hb48 rfl (fun w hw => c_impl_MoveBoth N _ _ _ _ _ hx145 w (rdo (A := stepsL) 4 rfl hw) (rdo (A := stepsL) 3 rfl hw) (rdo (A := stepsL) 2 rfl hw) (rdo (A := strsL) 0 rfl hw)) rfl rfl (fun a145 c145 F145 => kk_wd [6, 7, 8, 9, 10, 11, 12, 13, 14, 15, 16, 17, 18, 19, 20, 21] (by kernel_rfl) ?_))
                                          refine wd_take (i := 9) [6, 7, 8, 9, 10, 11, 12, 13, 14, 15, 16, 17, 18, 19, 20, 21] rfl rfl rfl rfl rfl (by kernel_rfl) (by kernel_rfl) (fun _ _ _ _ h => h) (yh_move rfl rfl) ?_
                                          refine wd_take (i := 10) [6, 7, 8, 9, 10, 11, 12, 13, 14, 15, 16, 17, 18, 19, 20, 21] rfl rfl rfl rfl rfl (by kernel_rfl) (by kernel_rfl) (fun _ _ _ _ h => h) (yh_extract rfl rfl rfl) ?_
                                          refine wd_take (i := 11) [6, 7, 8, 9, 10, 11, 12, 13, 14, 15, 16, 17, 18, 19, 20, 21] rfl rfl rfl rfl rfl (by kernel_rfl) (by kernel_rfl) (fun _ _ _ _ h => h) (yh_extract rfl rfl rfl) ?_
                                          refine wd_one 13 rfl rfl (by kernel_rfl) (ow_storeA Tb (k := 2) rfl rfl rfl rfl rfl rfl rfl rfl rfl (kk_wd [6, 7, 8, 9, 10, 11, 12, 13, 14, 15, 16, 17, 18, 19, 20, 21] (by kernel_rfl) ?_))
                                          refine wd_take (i := 14) [6, 7, 8, 9, 10, 11, 12, 13, 14, 15, 16, 17, 18, 19, 20, 21] rfl rfl rfl rfl rfl (by kernel_rfl) (by kernel_rfl) (fun _ _ _ _ h => h) (yh_assign rfl rfl) ?_
                                          refine wd_done (by kernel_rfl) ?_
                                          obtain rfl := Option.some.inj h
                                          exact ex_next [15, 16, 21, 6, 0, 1] (hn165 (g21, a145, c145, F145) trivial) ⟨rfl, rfl, rfl, rfl, rfl, rfl, trivial⟩ (by kernel_rfl)
                                      · refine ⟨_, rfl, rfl, ?_⟩
                                        refine (ow_allocA Tb rfl rfl rfl rfl (fun g21 => kk_wd [3, 4, 5, 6, 7, 8, 9, 10, 11, 12, 13, 14, 15, 16, 17, 18] (by kernel_rfl) ?_))
                                        obtain ⟨x142, hx142, h⟩ := bd h
                                        refine wd_one 5 rfl rfl (by kernel_rfl) (ow_cN1 rfl hb38 rfl (fun w hw => c_laws_toFlow N _ _ hx142 w (Lay.at_ h_u2_steps hw)) rfl rfl (fun a142 c142 F142 => kk_wd [4, 5, 6, 7, 8, 9, 10, 11, 12, 13, 14, 15, 16, 17, 18, 19] (by kernel_rfl) ?_))
                                        obtain ⟨x144, hx144, h⟩ := bd h
                                        refine wd_one 7 rfl rfl (by kernel_rfl) (ow_cN1 rfl hb42 rfl (fun w hw => c_laws_toRun N _ _ hx144 w (Lay.at_ h_u3_done hw)) rfl rfl (fun a144 c144 F144 => kk_wd [5, 6, 7, 8, 9, 10, 11, 12, 13, 14, 15, 16, 17, 18, 19, 20] (by kernel_rfl) ?_))
                                        obtain ⟨x145, hx145, h⟩ := bd h
                                        refine wd_one 8 rfl rfl (by kernel_rfl) (ow_cN1 rfl hb48 rfl (fun w hw => c_impl_MoveBoth N _ _ _ _ _ hx145 w (rdo (A := stepsL) 4 rfl hw) (rdo (A := stepsL) 3 rfl hw) (rdo (A := stepsL) 1 rfl hw) (rdo (A := strsL) 0 rfl hw)) rfl rfl (fun a145 c145 F145 => kk_wd [6, 7, 8, 9, 10, 11, 12, 13, 14, 15, 16, 17, 18, 19, 20, 21] (by kernel_rfl) ?_))
                                        refine wd_take (i := 9) [6, 7, 8, 9, 10, 11, 12, 13, 14, 15, 16, 17, 18, 19, 20, 21] rfl rfl rfl rfl rfl (by kernel_rfl) (by kernel_rfl) (fun _ _ _ _ h => h) (yh_move rfl rfl) ?_
                                        refine wd_take (i := 10) [6, 7, 8, 9, 10, 11, 12, 13, 14, 15, 16, 17, 18, 19, 20, 21] rfl rfl rfl rfl rfl (by kernel_rfl) (by kernel_rfl) (fun _ _ _ _ h => h) (yh_extract rfl rfl rfl) ?_
                                        refine wd_take (i := 11) [6, 7, 8, 9, 10, 11, 12, 13, 14, 15, 16, 17, 18, 19, 20, 21] rfl rfl rfl rfl rfl (by kernel_rfl) (by kernel_rfl) (fun _ _ _ _ h => h) (yh_extract rfl rfl rfl) ?_
                                        refine wd_one 13 rfl rfl (by kernel_rfl) (ow_storeA Tb (k := 3) rfl rfl rfl rfl rfl rfl rfl rfl rfl (kk_wd [6, 7, 8, 9, 10, 11, 12, 13, 14, 15, 16, 17, 18, 19, 20, 21] (by kernel_rfl) ?_))
                                        refine wd_take (i := 14) [6, 7, 8, 9, 10, 11, 12, 13, 14, 15, 16, 17, 18, 19, 20, 21] rfl rfl rfl rfl rfl (by kernel_rfl) (by kernel_rfl) (fun _ _ _ _ h => h) (yh_assign rfl rfl) ?_
                                        refine wd_done (by kernel_rfl) ?_
                                        obtain rfl := Option.some.inj h
                                        exact ex_next [15, 16, 21, 6, 0, 1] (hn165 (g21, a145, c145, F145) trivial) ⟨rfl, rfl, rfl, rfl, rfl, rfl, trivial⟩ (by kernel_rfl)
                                    · refine ⟨_, rfl, rfl, ?_⟩
                                      refine (ow_allocA Tb rfl rfl rfl rfl (fun g21 => kk_wd [2, 3, 4, 5, 6, 7, 8, 9, 10, 11, 12, 13, 14, 15, 16, 17] (by kernel_rfl) ?_))
                                      obtain ⟨x140, hx140, h⟩ := bd h
                                      refine wd_one 3 rfl rfl (by kernel_rfl) (ow_cN1 rfl hb38 rfl (fun w hw => c_laws_toFlow N _ _ hx140 w (Lay.at_ h_u1_steps hw)) rfl rfl (fun a140 c140 F140 => kk_wd [3, 4, 5, 6, 7, 8, 9, 10, 11, 12, 13, 14, 15, 16, 17, 18] (by kernel_rfl) ?_))
                                      obtain ⟨x142, hx142, h⟩ := bd h
                                      refine wd_one 5 rfl rfl (by kernel_rfl) (ow_cN1 rfl hb38 rfl (fun w hw => c_laws_toFlow N _ _ hx142 w (Lay.at_ h_u2_steps hw)) rfl rfl (fun a142 c142 F142 => kk_wd [4, 5, 6, 7, 8, 9, 10, 11, 12, 13, 14, 15, 16, 17, 18, 19] (by kernel_rfl) ?_))
                                      obtain ⟨x144, hx144, h⟩ := bd h
                                      refine wd_one 7 rfl rfl (by kernel_rfl) (ow_cN1 rfl hb42 rfl (fun w hw => c_laws_toRun N _ _ hx144 w (Lay.at_ h_u3_done hw)) rfl rfl (fun a144 c144 F144 => kk_wd [5, 6, 7, 8, 9, 10, 11, 12, 13, 14, 15, 16, 17, 18, 19, 20] (by kernel_rfl) ?_))
                                      obtain ⟨x145, hx145, h⟩ := bd h
                                      refine wd_one 8 rfl rfl (by kernel_rfl) (ow_cN1 rfl hb48 rfl (fun w hw => c_impl_MoveBoth N _ _ _ _ _ hx145 w (rdo (A := stepsL) 4 rfl hw) (rdo (A := stepsL) 2 rfl hw) (rdo (A := stepsL) 1 rfl hw) (rdo (A := strsL) 0 rfl hw)) rfl rfl (fun a145 c145 F145 => kk_wd [6, 7, 8, 9, 10, 11, 12, 13, 14, 15, 16, 17, 18, 19, 20, 21] (by kernel_rfl) ?_))
                                      refine wd_take (i := 9) [6, 7, 8, 9, 10, 11, 12, 13, 14, 15, 16, 17, 18, 19, 20, 21] rfl rfl rfl rfl rfl (by kernel_rfl) (by kernel_rfl) (fun _ _ _ _ h => h) (yh_move rfl rfl) ?_
                                      refine wd_take (i := 10) [6, 7, 8, 9, 10, 11, 12, 13, 14, 15, 16, 17, 18, 19, 20, 21] rfl rfl rfl rfl rfl (by kernel_rfl) (by kernel_rfl) (fun _ _ _ _ h => h) (yh_extract rfl rfl rfl) ?_
                                      refine wd_take (i := 11) [6, 7, 8, 9, 10, 11, 12, 13, 14, 15, 16, 17, 18, 19, 20, 21] rfl rfl rfl rfl rfl (by kernel_rfl) (by kernel_rfl) (fun _ _ _ _ h => h) (yh_extract rfl rfl rfl) ?_
                                      refine wd_one 13 rfl rfl (by kernel_rfl) (ow_storeA Tb (k := 4) rfl rfl rfl rfl rfl rfl rfl rfl rfl (kk_wd [6, 7, 8, 9, 10, 11, 12, 13, 14, 15, 16, 17, 18, 19, 20, 21] (by kernel_rfl) ?_))
                                      refine wd_take (i := 14) [6, 7, 8, 9, 10, 11, 12, 13, 14, 15, 16, 17, 18, 19, 20, 21] rfl rfl rfl rfl rfl (by kernel_rfl) (by kernel_rfl) (fun _ _ _ _ h => h) (yh_assign rfl rfl) ?_
                                      refine wd_done (by kernel_rfl) ?_
                                      obtain rfl := Option.some.inj h
                                      exact ex_next [15, 16, 21, 6, 0, 1] (hn165 (g21, a145, c145, F145) trivial) ⟨rfl, rfl, rfl, rfl, rfl, rfl, trivial⟩ (by kernel_rfl)
                                  · refine ⟨_, rfl, rfl, ?_⟩
                                    refine (ow_allocA Tb rfl rfl rfl rfl (fun g21 => kk_wd [1, 2, 3, 4, 5, 6, 7, 8, 9, 10, 11, 12, 13, 14, 15, 16] (by kernel_rfl) ?_))
                                    obtain ⟨x138, hx138, h⟩ := bd h
                                    refine wd_one 1 rfl rfl (by kernel_rfl) (ow_cN1 rfl hb38 rfl (fun w hw => c_laws_toFlow N _ _ hx138 w (Lay.at_ h_u0_steps hw)) rfl rfl (fun a138 c138 F138 => kk_wd [2, 3, 4, 5, 6, 7, 8, 9, 10, 11, 12, 13, 14, 15, 16, 17] (by kernel_rfl) ?_))
                                    obtain ⟨x140, hx140, h⟩ := bd h
                                    refine wd_one 3 rfl rfl (by kernel_rfl) (ow_cN1 rfl hb38 rfl (fun w hw => c_laws_toFlow N _ _ hx140 w (Lay.at_ h_u1_steps hw)) rfl rfl (fun a140 c140 F140 => kk_wd [3, 4, 5, 6, 7, 8, 9, 10, 11, 12, 13, 14, 15, 16, 17, 18] (by kernel_rfl) ?_))
                                    obtain ⟨x142, hx142, h⟩ := bd h
                                    refine wd_one 5 rfl rfl (by kernel_rfl) (ow_cN1 rfl hb38 rfl (fun w hw => c_laws_toFlow N _ _ hx142 w (Lay.at_ h_u2_steps hw)) rfl rfl (fun a142 c142 F142 => kk_wd [4, 5, 6, 7, 8, 9, 10, 11, 12, 13, 14, 15, 16, 17, 18, 19] (by kernel_rfl) ?_))
                                    obtain ⟨x144, hx144, h⟩ := bd h
                                    refine wd_one 7 rfl rfl (by kernel_rfl) (ow_cN1 rfl hb42 rfl (fun w hw => c_laws_toRun N _ _ hx144 w (Lay.at_ h_u3_done hw)) rfl rfl (fun a144 c144 F144 => kk_wd [5, 6, 7, 8, 9, 10, 11, 12, 13, 14, 15, 16, 17, 18, 19, 20] (by kernel_rfl) ?_))
                                    obtain ⟨x145, hx145, h⟩ := bd h
                                    refine wd_one 8 rfl rfl (by kernel_rfl) (ow_cN1 rfl hb48 rfl (fun w hw => c_impl_MoveBoth N _ _ _ _ _ hx145 w (rdo (A := stepsL) 3 rfl hw) (rdo (A := stepsL) 2 rfl hw) (rdo (A := stepsL) 1 rfl hw) (rdo (A := strsL) 0 rfl hw)) rfl rfl (fun a145 c145 F145 => kk_wd [6, 7, 8, 9, 10, 11, 12, 13, 14, 15, 16, 17, 18, 19, 20, 21] (by kernel_rfl) ?_))
                                    refine wd_take (i := 9) [6, 7, 8, 9, 10, 11, 12, 13, 14, 15, 16, 17, 18, 19, 20, 21] rfl rfl rfl rfl rfl (by kernel_rfl) (by kernel_rfl) (fun _ _ _ _ h => h) (yh_move rfl rfl) ?_
                                    refine wd_take (i := 10) [6, 7, 8, 9, 10, 11, 12, 13, 14, 15, 16, 17, 18, 19, 20, 21] rfl rfl rfl rfl rfl (by kernel_rfl) (by kernel_rfl) (fun _ _ _ _ h => h) (yh_extract rfl rfl rfl) ?_
                                    refine wd_take (i := 11) [6, 7, 8, 9, 10, 11, 12, 13, 14, 15, 16, 17, 18, 19, 20, 21] rfl rfl rfl rfl rfl (by kernel_rfl) (by kernel_rfl) (fun _ _ _ _ h => h) (yh_extract rfl rfl rfl) ?_
                                    refine wd_one 13 rfl rfl (by kernel_rfl) (ow_storeA Tb (k := 5) rfl rfl rfl rfl rfl rfl rfl rfl rfl (kk_wd [6, 7, 8, 9, 10, 11, 12, 13, 14, 15, 16, 17, 18, 19, 20, 21] (by kernel_rfl) ?_))
                                    refine wd_take (i := 14) [6, 7, 8, 9, 10, 11, 12, 13, 14, 15, 16, 17, 18, 19, 20, 21] rfl rfl rfl rfl rfl (by kernel_rfl) (by kernel_rfl) (fun _ _ _ _ h => h) (yh_assign rfl rfl) ?_
                                    refine wd_done (by kernel_rfl) ?_
                                    obtain rfl := Option.some.inj h
                                    exact ex_next [15, 16, 21, 6, 0, 1] (hn165 (g21, a145, c145, F145) trivial) ⟨rfl, rfl, rfl, rfl, rfl, rfl, trivial⟩ (by kernel_rfl)
                      · skip
                        have h := he142
                        refine cw_seq ?_
                        refine cw_dr [0, 1, 4] [] [blkC g4 52 [.int .i64 u0.ver, .slice a_u0_steps u0.steps.length c_u0_steps], blkC g5 52 [.int .i64 u1.ver, .slice a_u1_steps u1.steps.length c_u1_steps], blkC g6 52 [.int .i64 u2.ver, .slice a_u2_steps u2.steps.length c_u2_steps], blkC g7 58 [.int .i64 u3.state, .slice a_u3_done u3.done.length c_u3_done], blkC g10 60 [.int .i64 j119.1, .slice ak119_10_c_1 j119.2.1.length ck119_10_c_1], owC strsL Fk119_10_c_1 [.slice ak119_10_c_1 j119.2.1.length ck119_10_c_1] j119.2.1, blkC g12 26 [.int .i64 x56.ver, .slice a56 x56.steps.length c56], owC stepsL F56 [.slice a56 x56.steps.length c56] x56.steps, blkC g13 26 [.int .i64 x58.ver, .slice a58 x58.steps.length c58], owC stepsL F58 [.slice a58 x58.steps.length c58] x58.steps, blkC g14 26 [.int .i64 x60.ver, .slice a60 x60.steps.length c60], owC stepsL F60 [.slice a60 x60.steps.length c60] x60.steps, blkC g15 60 [.int .i64 x62.state, .slice a62 x62.done.length c62], owC strsL F62 [.slice a62 x62.done.length c62] x62.done, blkC g16 60 [.int .i64 x68.1.state, .slice a68 x68.1.done.length c68], owC strsL F68 [.slice a68 x68.1.done.length c68] x68.1.done] (by kernel_rfl) ?_
                        refine wd_take (i := 0) [0, 1, 2, 3, 4, 5, 6, 7, 8, 9, 10, 11, 12, 13, 14, 15] rfl rfl rfl rfl rfl (by kernel_rfl) (by kernel_rfl) (fun _ _ _ _ h => h) (yh_loadBA Tb (k := 12) rfl rfl rfl rfl rfl rfl) ?_
                        refine wd_take (i := 1) [0, 1, 2, 3, 4, 5, 6, 7, 8, 9, 10, 11, 12, 13, 14, 15] rfl rfl rfl rfl rfl (by kernel_rfl) (by kernel_rfl) (fun _ _ _ _ h => h) (yh_loadBA Tb (k := 3) rfl rfl rfl rfl rfl rfl) ?_
                        obtain ⟨x97, hx97, h⟩ := bd h
                        refine wd_one 2 rfl rfl (by kernel_rfl) (ow_cN1 rfl hb42 rfl (fun w hw => c_laws_toRun N _ _ hx97 w (Lay.at_ h_u3_done hw)) rfl rfl (fun a97 c97 F97 => kk_wd [1, 2, 3, 4, 5, 6, 7, 8, 9, 10, 11, 12, 13, 14, 15, 16] (by kernel_rfl) ?_))
                        obtain ⟨x98, hx98, h⟩ := bd h
                        refine wd_one 3 rfl rfl (by kernel_rfl) (ow_cV rfl hb44 rfl (fun w hw => c_laws_eqRun N _ _ _ hx98 w (rdo (A := strsL) 14 rfl hw) (rdo (A := strsL) 0 rfl hw)) rfl rfl (kk_wd [1, 2, 3, 4, 5, 6, 7, 8, 9, 10, 11, 12, 13, 14, 15, 16] (by kernel_rfl) ?_))
                        refine wd_take (i := 4) [1, 2, 3, 4, 5, 6, 7, 8, 9, 10, 11, 12, 13, 14, 15, 16] rfl rfl rfl rfl rfl (by kernel_rfl) (by kernel_rfl) (fun _ _ _ _ h => h) (yh_not rfl rfl) ?_
                        refine wd_done (by kernel_rfl) ?_
                        refine ex_seq ?_
                        refine cw_split rfl (fun c15 => ?_) (fun c15 => ?_)
                        · skip
                          replace h := bt c15 h
                          refine cw_seq ?_
                          refine cw_region ?_
                          refine wl_u rfl (ow_y (yh_assign rfl rfl) rfl rfl (kk_wl ?_))
                          refine wl_nil ?_
                          refine ex_seq ?_
                          refine cw_ret ?_
                          refine ex_then_ret ?_
                          obtain rfl := Option.some.inj h
                          obtain rfl := go_ret hk142
                          exact ex_r1 Tb rfl (.tmp rfl) (fun wq hq => ⟨_, rfl, hq.ext, rfl⟩)
                        · skip
                          replace h := bf c15 h
                          refine cw_skip ?_
                          obtain rfl := Option.some.inj h
                          exact ex_next [1, 2, 3, 4, 5, 6, 7, 8, 9, 10, 11, 12, 13, 14, 15, 16] (hn142 ((), ()) rfl) ⟨rfl, rfl, rfl, rfl, rfl, rfl, rfl, rfl, rfl, rfl, rfl, rfl, trivial⟩ (by kernel_rfl)
                    · skip
                      have h := he138
                      refine cw_seq ?_
                      refine cw_dr [0, 1, 4] [] [blkC g4 52 [.int .i64 u0.ver, .slice a_u0_steps u0.steps.length c_u0_steps], blkC g5 52 [.int .i64 u1.ver, .slice a_u1_steps u1.steps.length c_u1_steps], blkC g6 52 [.int .i64 u2.ver, .slice a_u2_steps u2.steps.length c_u2_steps], blkC g7 58 [.int .i64 u3.state, .slice a_u3_done u3.done.length c_u3_done], blkC g10 60 [.int .i64 j119.1, .slice ak119_10_c_1 j119.2.1.length ck119_10_c_1], owC strsL Fk119_10_c_1 [.slice ak119_10_c_1 j119.2.1.length ck119_10_c_1] j119.2.1, blkC g12 26 [.int .i64 x56.ver, .slice a56 x56.steps.length c56], owC stepsL F56 [.slice a56 x56.steps.length c56] x56.steps, blkC g13 26 [.int .i64 x58.ver, .slice a58 x58.steps.length c58], owC stepsL F58 [.slice a58 x58.steps.length c58] x58.steps, blkC g14 26 [.int .i64 x60.ver, .slice a60 x60.steps.length c60], owC stepsL F60 [.slice a60 x60.steps.length c60] x60.steps, blkC g15 60 [.int .i64 x62.state, .slice a62 x62.done.length c62], owC strsL F62 [.slice a62 x62.done.length c62] x62.done, blkC g16 60 [.int .i64 x68.1.state, .slice a68 x68.1.done.length c68], owC strsL F68 [.slice a68 x68.1.done.length c68] x68.1.done] (by kernel_rfl) ?_
                      refine wd_take (i := 0) [0, 1, 2, 3, 4, 5, 6, 7, 8, 9, 10, 11, 12, 13, 14, 15] rfl rfl rfl rfl rfl (by kernel_rfl) (by kernel_rfl) (fun _ _ _ _ h => h) (yh_loadBA Tb (k := 10) rfl rfl rfl rfl rfl rfl) ?_
                      refine wd_take (i := 1) [0, 1, 2, 3, 4, 5, 6, 7, 8, 9, 10, 11, 12, 13, 14, 15] rfl rfl rfl rfl rfl (by kernel_rfl) (by kernel_rfl) (fun _ _ _ _ h => h) (yh_loadBA Tb (k := 2) rfl rfl rfl rfl rfl rfl) ?_
                      obtain ⟨x92, hx92, h⟩ := bd h
                      refine wd_one 2 rfl rfl (by kernel_rfl) (ow_cN1 rfl hb38 rfl (fun w hw => c_laws_toFlow N _ _ hx92 w (Lay.at_ h_u2_steps hw)) rfl rfl (fun a92 c92 F92 => kk_wd [1, 2, 3, 4, 5, 6, 7, 8, 9, 10, 11, 12, 13, 14, 15, 16] (by kernel_rfl) ?_))
                      obtain ⟨x93, hx93, h⟩ := bd h
                      refine wd_one 3 rfl rfl (by kernel_rfl) (ow_cV rfl hb32 rfl (fun w hw => c_laws_eqFlow N _ _ _ hx93 w (rdo (A := stepsL) 12 rfl hw) (rdo (A := stepsL) 0 rfl hw)) rfl rfl (kk_wd [1, 2, 3, 4, 5, 6, 7, 8, 9, 10, 11, 12, 13, 14, 15, 16] (by kernel_rfl) ?_))
                      refine wd_take (i := 4) [1, 2, 3, 4, 5, 6, 7, 8, 9, 10, 11, 12, 13, 14, 15, 16] rfl rfl rfl rfl rfl (by kernel_rfl) (by kernel_rfl) (fun _ _ _ _ h => h) (yh_not rfl rfl) ?_
                      refine wd_done (by kernel_rfl) ?_
                      refine ex_seq ?_
                      refine cw_split rfl (fun c16 => ?_) (fun c16 => ?_)
                      · skip
                        replace h := bt c16 h
                        refine cw_seq ?_
                        refine cw_region ?_
                        refine wl_u rfl (ow_y (yh_assign rfl rfl) rfl rfl (kk_wl ?_))
                        refine wl_nil ?_
                        refine ex_seq ?_
                        refine cw_ret ?_
                        refine ex_then_ret ?_
                        obtain rfl := Option.some.inj h
                        obtain rfl := go_ret hk138
                        exact ex_r1 Tb rfl (.tmp rfl) (fun wq hq => ⟨_, rfl, hq.ext, rfl⟩)
                      · skip
                        replace h := bf c16 h
                        refine cw_skip ?_
                        obtain rfl := Option.some.inj h
                        exact ex_next [1, 2, 3, 4, 5, 6, 7, 8, 9, 10, 11, 12, 13, 14, 15, 16] (hn138 ((), ()) rfl) ⟨rfl, rfl, rfl, rfl, rfl, rfl, rfl, rfl, rfl, rfl, rfl, rfl, trivial⟩ (by kernel_rfl)
                  · skip
                    have h := he134
                    refine cw_seq ?_
                    refine cw_dr [0, 1, 4] [] [blkC g4 52 [.int .i64 u0.ver, .slice a_u0_steps u0.steps.length c_u0_steps], blkC g5 52 [.int .i64 u1.ver, .slice a_u1_steps u1.steps.length c_u1_steps], blkC g6 52 [.int .i64 u2.ver, .slice a_u2_steps u2.steps.length c_u2_steps], blkC g7 58 [.int .i64 u3.state, .slice a_u3_done u3.done.length c_u3_done], blkC g10 60 [.int .i64 j119.1, .slice ak119_10_c_1 j119.2.1.length ck119_10_c_1], owC strsL Fk119_10_c_1 [.slice ak119_10_c_1 j119.2.1.length ck119_10_c_1] j119.2.1, blkC g12 26 [.int .i64 x56.ver, .slice a56 x56.steps.length c56], owC stepsL F56 [.slice a56 x56.steps.length c56] x56.steps, blkC g13 26 [.int .i64 x58.ver, .slice a58 x58.steps.length c58], owC stepsL F58 [.slice a58 x58.steps.length c58] x58.steps, blkC g14 26 [.int .i64 x60.ver, .slice a60 x60.steps.length c60], owC stepsL F60 [.slice a60 x60.steps.length c60] x60.steps, blkC g15 60 [.int .i64 x62.state, .slice a62 x62.done.length c62], owC strsL F62 [.slice a62 x62.done.length c62] x62.done, blkC g16 60 [.int .i64 x68.1.state, .slice a68 x68.1.done.length c68], owC strsL F68 [.slice a68 x68.1.done.length c68] x68.1.done] (by kernel_rfl) ?_
                    refine wd_take (i := 0) [0, 1, 2, 3, 4, 5, 6, 7, 8, 9, 10, 11, 12, 13, 14, 15] rfl rfl rfl rfl rfl (by kernel_rfl) (by kernel_rfl) (fun _ _ _ _ h => h) (yh_loadBA Tb (k := 8) rfl rfl rfl rfl rfl rfl) ?_
                    refine wd_take (i := 1) [0, 1, 2, 3, 4, 5, 6, 7, 8, 9, 10, 11, 12, 13, 14, 15] rfl rfl rfl rfl rfl (by kernel_rfl) (by kernel_rfl) (fun _ _ _ _ h => h) (yh_loadBA Tb (k := 1) rfl rfl rfl rfl rfl rfl) ?_
                    obtain ⟨x87, hx87, h⟩ := bd h
                    refine wd_one 2 rfl rfl (by kernel_rfl) (ow_cN1 rfl hb38 rfl (fun w hw => c_laws_toFlow N _ _ hx87 w (Lay.at_ h_u1_steps hw)) rfl rfl (fun a87 c87 F87 => kk_wd [1, 2, 3, 4, 5, 6, 7, 8, 9, 10, 11, 12, 13, 14, 15, 16] (by kernel_rfl) ?_))
                    obtain ⟨x88, hx88, h⟩ := bd h
                    refine wd_one 3 rfl rfl (by kernel_rfl) (ow_cV rfl hb32 rfl (fun w hw => c_laws_eqFlow N _ _ _ hx88 w (rdo (A := stepsL) 10 rfl hw) (rdo (A := stepsL) 0 rfl hw)) rfl rfl (kk_wd [1, 2, 3, 4, 5, 6, 7, 8, 9, 10, 11, 12, 13, 14, 15, 16] (by kernel_rfl) ?_))
                    refine wd_take (i := 4) [1, 2, 3, 4, 5, 6, 7, 8, 9, 10, 11, 12, 13, 14, 15, 16] rfl rfl rfl rfl rfl (by kernel_rfl) (by kernel_rfl) (fun _ _ _ _ h => h) (yh_not rfl rfl) ?_
                    refine wd_done (by kernel_rfl) ?_
                    refine ex_seq ?_
                    refine cw_split rfl (fun c17 => ?_) (fun c17 => ?_)
                    · skip
                      replace h := bt c17 h
                      refine cw_seq ?_
                      refine cw_region ?_
                      refine wl_u rfl (ow_y (yh_assign rfl rfl) rfl rfl (kk_wl ?_))
                      refine wl_nil ?_
                      refine ex_seq ?_
                      refine cw_ret ?_
                      refine ex_then_ret ?_
                      obtain rfl := Option.some.inj h
                      obtain rfl := go_ret hk134
                      exact ex_r1 Tb rfl (.tmp rfl) (fun wq hq => ⟨_, rfl, hq.ext, rfl⟩)
                    · skip
                      replace h := bf c17 h
                      refine cw_skip ?_
                      obtain rfl := Option.some.inj h
                      exact ex_next [1, 2, 3, 4, 5, 6, 7, 8, 9, 10, 11, 12, 13, 14, 15, 16] (hn134 ((), ()) rfl) ⟨rfl, rfl, rfl, rfl, rfl, rfl, rfl, rfl, rfl, rfl, rfl, rfl, trivial⟩ (by kernel_rfl)
                · skip
                  have h := he130
                  refine cw_seq ?_
                  refine cw_dr [0, 1, 4] [] [blkC g16 60 [.int .i64 x68.1.state, .slice a68 x68.1.done.length c68], owC strsL F68 [.slice a68 x68.1.done.length c68] x68.1.done, blkC g15 60 [.int .i64 x62.state, .slice a62 x62.done.length c62], owC strsL F62 [.slice a62 x62.done.length c62] x62.done, blkC g14 26 [.int .i64 x60.ver, .slice a60 x60.steps.length c60], owC stepsL F60 [.slice a60 x60.steps.length c60] x60.steps, blkC g13 26 [.int .i64 x58.ver, .slice a58 x58.steps.length c58], owC stepsL F58 [.slice a58 x58.steps.length c58] x58.steps, blkC g12 26 [.int .i64 x56.ver, .slice a56 x56.steps.length c56], owC stepsL F56 [.slice a56 x56.steps.length c56] x56.steps, blkC g4 52 [.int .i64 u0.ver, .slice a_u0_steps u0.steps.length c_u0_steps], blkC g5 52 [.int .i64 u1.ver, .slice a_u1_steps u1.steps.length c_u1_steps], blkC g6 52 [.int .i64 u2.ver, .slice a_u2_steps u2.steps.length c_u2_steps], blkC g7 58 [.int .i64 u3.state, .slice a_u3_done u3.done.length c_u3_done], blkC g10 60 [.int .i64 j119.1, .slice ak119_10_c_1 j119.2.1.length ck119_10_c_1], owC strsL Fk119_10_c_1 [.slice ak119_10_c_1 j119.2.1.length ck119_10_c_1] j119.2.1] (by kernel_rfl) ?_
                  refine wd_take (i := 0) [0, 1, 2, 3, 4, 5, 6, 7, 8, 9, 10, 11, 12, 13, 14, 15] rfl rfl rfl rfl rfl (by kernel_rfl) (by kernel_rfl) (fun _ _ _ _ h => h) (yh_loadBA Tb (k := 8) rfl rfl rfl rfl rfl rfl) ?_
                  refine wd_take (i := 1) [0, 1, 2, 3, 4, 5, 6, 7, 8, 9, 10, 11, 12, 13, 14, 15] rfl rfl rfl rfl rfl (by kernel_rfl) (by kernel_rfl) (fun _ _ _ _ h => h) (yh_loadBA Tb (k := 10) rfl rfl rfl rfl rfl rfl) ?_
                  obtain ⟨x82, hx82, h⟩ := bd h
                  refine wd_one 2 rfl rfl (by kernel_rfl) (ow_cN1 rfl hb38 rfl (fun w hw => c_laws_toFlow N _ _ hx82 w (Lay.at_ h_u0_steps hw)) rfl rfl (fun a82 c82 F82 => kk_wd [1, 2, 3, 4, 5, 6, 7, 8, 9, 10, 11, 12, 13, 14, 15, 16] (by kernel_rfl) ?_))
                  obtain ⟨x83, hx83, h⟩ := bd h
                  refine wd_one 3 rfl rfl (by kernel_rfl) (ow_cV rfl hb32 rfl (fun w hw => c_laws_eqFlow N _ _ _ hx83 w (rdo (A := stepsL) 10 rfl hw) (rdo (A := stepsL) 0 rfl hw)) rfl rfl (kk_wd [1, 2, 3, 4, 5, 6, 7, 8, 9, 10, 11, 12, 13, 14, 15, 16] (by kernel_rfl) ?_))
                  refine wd_take (i := 4) [1, 2, 3, 4, 5, 6, 7, 8, 9, 10, 11, 12, 13, 14, 15, 16] rfl rfl rfl rfl rfl (by kernel_rfl) (by kernel_rfl) (fun _ _ _ _ h => h) (yh_not rfl rfl) ?_
                  refine wd_done (by kernel_rfl) ?_
                  refine ex_seq ?_
                  refine cw_split rfl (fun c18 => ?_) (fun c18 => ?_)
                  · skip
                    replace h := bt c18 h
                    refine cw_seq ?_
                    refine cw_region ?_
                    refine wl_u rfl (ow_y (yh_assign rfl rfl) rfl rfl (kk_wl ?_))
                    refine wl_nil ?_
                    refine ex_seq ?_
                    refine cw_ret ?_
                    refine ex_then_ret ?_
                    obtain rfl := Option.some.inj h
                    obtain rfl := go_ret hk130
                    exact ex_r1 Tb rfl (.tmp rfl) (fun wq hq => ⟨_, rfl, hq.ext, rfl⟩)
                  · skip
                    replace h := bf c18 h
                    refine cw_skip ?_
                    obtain rfl := Option.some.inj h
                    exact ex_next [11, 12, 13, 14, 15, 16, 9, 10, 7, 8, 5, 6, 3, 4, 1, 2] (hn130 ((), ()) rfl) ⟨rfl, rfl, rfl, rfl, rfl, rfl, rfl, rfl, rfl, rfl, rfl, rfl, trivial⟩ (by kernel_rfl)
          · skip
            have h := he119
            refine cw_dr [0, 2, 4, 6, 9, 10, 11, 14] [] [blkC g7 58 [.int .i64 u3.state, .slice a_u3_done u3.done.length c_u3_done], blkC g6 52 [.int .i64 u2.ver, .slice a_u2_steps u2.steps.length c_u2_steps], blkC g5 52 [.int .i64 u1.ver, .slice a_u1_steps u1.steps.length c_u1_steps], blkC g4 52 [.int .i64 u0.ver, .slice a_u0_steps u0.steps.length c_u0_steps]] (by kernel_rfl) ?_
            refine wd_take (i := 0) [0, 1, 2, 3] rfl rfl rfl rfl rfl (by kernel_rfl) (by kernel_rfl) (fun _ _ _ _ h => h) (yh_loadBA Tb (k := 3) rfl rfl rfl rfl rfl rfl) ?_
            refine wd_take (i := 2) [0, 1, 2, 3] rfl rfl rfl rfl rfl (by kernel_rfl) (by kernel_rfl) (fun _ _ _ _ h => h) (yh_loadBA Tb (k := 2) rfl rfl rfl rfl rfl rfl) ?_
            refine wd_take (i := 4) [0, 1, 2, 3] rfl rfl rfl rfl rfl (by kernel_rfl) (by kernel_rfl) (fun _ _ _ _ h => h) (yh_loadBA Tb (k := 1) rfl rfl rfl rfl rfl rfl) ?_
            refine wd_take (i := 6) [0, 1, 2, 3] rfl rfl rfl rfl rfl (by kernel_rfl) (by kernel_rfl) (fun _ _ _ _ h => h) (yh_loadBA Tb (k := 0) rfl rfl rfl rfl rfl rfl) ?_
            refine wd_all [1, 12] (by kernel_rfl) (by simp) (fun i hi => ?_)
            simp only [List.mem_cons, List.not_mem_nil, or_false] at hi
            rcases hi with rfl | rfl
            · refine ⟨_, rfl, rfl, ?_⟩
              obtain ⟨x45, hx45, h⟩ := bd h
              refine (ow_cN1 rfl hb38 rfl (fun w hw => c_laws_toFlow N _ _ hx45 w (Lay.at_ h_u0_steps hw)) rfl rfl (fun a45 c45 F45 => kk_wd [1, 2, 3, 4] (by kernel_rfl) ?_))
              refine wd_all [3, 12] (by kernel_rfl) (by simp) (fun i hi => ?_)
              simp only [List.mem_cons, List.not_mem_nil, or_false] at hi
              rcases hi with rfl | rfl
              · refine ⟨_, rfl, rfl, ?_⟩
                obtain ⟨x47, hx47, h⟩ := bd h
                refine (ow_cN1 rfl hb38 rfl (fun w hw => c_laws_toFlow N _ _ hx47 w (Lay.at_ h_u1_steps hw)) rfl rfl (fun a47 c47 F47 => kk_wd [2, 3, 4, 5] (by kernel_rfl) ?_))
                refine wd_all [5, 12] (by kernel_rfl) (by simp) (fun i hi => ?_)
                simp only [List.mem_cons, List.not_mem_nil, or_false] at hi
                rcases hi with rfl | rfl
                · refine ⟨_, rfl, rfl, ?_⟩
                  obtain ⟨x49, hx49, h⟩ := bd h
                  refine (ow_cN1 rfl hb38 rfl (fun w hw => c_laws_toFlow N _ _ hx49 w (Lay.at_ h_u2_steps hw)) rfl rfl (fun a49 c49 F49 => kk_wd [3, 4, 5, 6] (by kernel_rfl) ?_))
                  refine wd_all [7, 12] (by kernel_rfl) (by simp) (fun i hi => ?_)
                  simp only [List.mem_cons, List.not_mem_nil, or_false] at hi
                  rcases hi with rfl | rfl
                  · refine ⟨_, rfl, rfl, ?_⟩
                    obtain ⟨x51, hx51, h⟩ := bd h
                    refine (ow_cN1 rfl hb42 rfl (fun w hw => c_laws_toRun N _ _ hx51 w (Lay.at_ h_u3_done hw)) rfl rfl (fun a51 c51 F51 => kk_wd [4, 5, 6, 7] (by kernel_rfl) ?_))
                    refine wd_all [8, 12] (by kernel_rfl) (by simp) (fun i hi => ?_)
                    simp only [List.mem_cons, List.not_mem_nil, or_false] at hi
                    rcases hi with rfl | rfl
                    · refine ⟨_, rfl, rfl, ?_⟩
                      obtain ⟨x52, hx52, h⟩ := bd h
                      refine (ow_cN1 rfl hb47 rfl (fun w hw => c_spec_MoveBoth N _ _ _ _ _ hx52 w (rdo (A := stepsL) 3 rfl hw) (rdo (A := stepsL) 2 rfl hw) (rdo (A := stepsL) 1 rfl hw) (rdo (A := strsL) 0 rfl hw)) rfl rfl (fun a52 c52 F52 => kk_wd [5, 6, 7, 8] (by kernel_rfl) ?_))
                      refine wd_take (i := 9) [5, 6, 7, 8] rfl rfl rfl rfl rfl (by kernel_rfl) (by kernel_rfl) (fun _ _ _ _ h => h) (yh_move rfl rfl) ?_
                      refine wd_take (i := 10) [5, 6, 7, 8] rfl rfl rfl rfl rfl (by kernel_rfl) (by kernel_rfl) (fun _ _ _ _ h => h) (yh_extract rfl rfl rfl) ?_
                      refine wd_take (i := 11) [5, 6, 7, 8] rfl rfl rfl rfl rfl (by kernel_rfl) (by kernel_rfl) (fun _ _ _ _ h => h) (yh_extract rfl rfl rfl) ?_
                      refine wd_one 12 rfl rfl (by kernel_rfl) (ow_allocA Tb rfl rfl rfl rfl (fun g10 => kk_wd [6, 7, 8, 9] (by kernel_rfl) ?_))
                      refine wd_one 13 rfl rfl (by kernel_rfl) (ow_storeA Tb (k := 0) rfl rfl rfl rfl rfl rfl rfl rfl rfl (kk_wd [6, 7, 8, 9] (by kernel_rfl) ?_))
                      refine wd_take (i := 14) [6, 7, 8, 9] rfl rfl rfl rfl rfl (by kernel_rfl) (by kernel_rfl) (fun _ _ _ _ h => h) (yh_assign rfl rfl) ?_
                      refine wd_done (by kernel_rfl) ?_
                      obtain rfl := Option.some.inj h
                      exact ex_next [9, 8, 7, 6, 0, 1] (hn119 (g10, a52, c52, F52) trivial) ⟨rfl, rfl, rfl, rfl, rfl, rfl, trivial⟩ (by kernel_rfl)
                    · refine ⟨_, rfl, rfl, ?_⟩
                      refine (ow_allocA Tb rfl rfl rfl rfl (fun g10 => kk_wd [5, 6, 7, 8] (by kernel_rfl) ?_))
                      obtain ⟨x52, hx52, h⟩ := bd h
                      refine wd_one 8 rfl rfl (by kernel_rfl) (ow_cN1 rfl hb47 rfl (fun w hw => c_spec_MoveBoth N _ _ _ _ _ hx52 w (rdo (A := stepsL) 4 rfl hw) (rdo (A := stepsL) 3 rfl hw) (rdo (A := stepsL) 2 rfl hw) (rdo (A := strsL) 1 rfl hw)) rfl rfl (fun a52 c52 F52 => kk_wd [6, 7, 8, 9] (by kernel_rfl) ?_))
                      refine wd_take (i := 9) [6, 7, 8, 9] rfl rfl rfl rfl rfl (by kernel_rfl) (by kernel_rfl) (fun _ _ _ _ h => h) (yh_move rfl rfl) ?_
                      refine wd_take (i := 10) [6, 7, 8, 9] rfl rfl rfl rfl rfl (by kernel_rfl) (by kernel_rfl) (fun _ _ _ _ h => h) (yh_extract rfl rfl rfl) ?_
                      refine wd_take (i := 11) [6, 7, 8, 9] rfl rfl rfl rfl rfl (by kernel_rfl) (by kernel_rfl) (fun _ _ _ _ h => h) (yh_extract rfl rfl rfl) ?_
                      refine wd_one 13 rfl rfl (by kernel_rfl) (ow_storeA Tb (k := 1) rfl rfl rfl rfl rfl rfl rfl rfl rfl (kk_wd [6, 7, 8, 9] (by kernel_rfl) ?_))
                      refine wd_take (i := 14) [6, 7, 8, 9] rfl rfl rfl rfl rfl (by kernel_rfl) (by kernel_rfl) (fun _ _ _ _ h => h) (yh_assign rfl rfl) ?_
                      refine wd_done (by kernel_rfl) ?_
                      obtain rfl := Option.some.inj h
                      exact ex_next [9, 8, 7, 6, 0, 1] (hn119 (g10, a52, c52, F52) trivial) ⟨rfl, rfl, rfl, rfl, rfl, rfl, trivial⟩ (by kernel_rfl)
                  · refine ⟨_, rfl, rfl, ?_⟩
                    refine (ow_allocA Tb rfl rfl rfl rfl (fun g10 => kk_wd [4, 5, 6, 7] (by kernel_rfl) ?_))
                    obtain ⟨x51, hx51, h⟩ := bd h
                    refine wd_one 7 rfl rfl (by kernel_rfl) (ow_cN1 rfl hb42 rfl (fun w hw => c_laws_toRun N _ _ hx51 w (Lay.at_ h_u3_done hw)) rfl rfl (fun a51 c51 F51 => kk_wd [5, 6, 7, 8] (by kernel_rfl) ?_))
                    obtain ⟨x52, hx52, h⟩ := bd h
                    refine wd_one 8 rfl rfl (by kernel_rfl) (ow_cN1 rfl hb47 rfl (fun w hw => c_spec_MoveBoth N _ _ _ _ _ hx52 w (rdo (A := stepsL) 4 rfl hw) (rdo (A := stepsL) 3 rfl hw) (rdo (A := stepsL) 2 rfl hw) (rdo (A := strsL) 0 rfl hw)) rfl rfl (fun a52 c52 F52 => kk_wd [6, 7, 8, 9] (by kernel_rfl) ?_))
                    refine wd_take (i := 9) [6, 7, 8, 9] rfl rfl rfl rfl rfl (by kernel_rfl) (by kernel_rfl) (fun _ _ _ _ h => h) (yh_move rfl rfl) ?_
                    refine wd_take (i := 10) [6, 7, 8, 9] rfl rfl rfl rfl rfl (by kernel_rfl) (by kernel_rfl) (fun _ _ _ _ h => h) (yh_extract rfl rfl rfl) ?_
                    refine wd_take (i := 11) [6, 7, 8, 9] rfl rfl rfl rfl rfl (by kernel_rfl) (by kernel_rfl) (fun _ _ _ _ h => h) (yh_extract rfl rfl rfl) ?_
                    refine wd_one 13 rfl rfl (by kernel_rfl) (ow_storeA Tb (k := 2) rfl rfl rfl rfl rfl rfl rfl rfl rfl (kk_wd [6, 7, 8, 9] (by kernel_rfl) ?_))
                    refine wd_take (i := 14) [6, 7, 8, 9] rfl rfl rfl rfl rfl (by kernel_rfl) (by kernel_rfl) (fun _ _ _ _ h => h) (yh_assign rfl rfl) ?_
                    refine wd_done (by kernel_rfl) ?_
                    obtain rfl := Option.some.inj h
                    exact ex_next [9, 8, 7, 6, 0, 1] (hn119 (g10, a52, c52, F52) trivial) ⟨rfl, rfl, rfl, rfl, rfl, rfl, trivial⟩ (by kernel_rfl)
                · refine ⟨_, rfl, rfl, ?_⟩
                  refine (ow_allocA Tb rfl rfl rfl rfl (fun g10 => kk_wd [3, 4, 5, 6] (by kernel_rfl) ?_))
                  obtain ⟨x49, hx49, h⟩ := bd h
                  refine wd_one 5 rfl rfl (by kernel_rfl) (ow_cN1 rfl hb38 rfl (fun w hw => c_laws_toFlow N _ _ hx49 w (Lay.at_ h_u2_steps hw)) rfl rfl (fun a49 c49 F49 => kk_wd [4, 5, 6, 7] (by kernel_rfl) ?_))
                  obtain ⟨x51, hx51, h⟩ := bd h
                  refine wd_one 7 rfl rfl (by kernel_rfl) (ow_cN1 rfl hb42 rfl (fun w hw => c_laws_toRun N _ _ hx51 w (Lay.at_ h_u3_done hw)) rfl rfl (fun a51 c51 F51 => kk_wd [5, 6, 7, 8] (by kernel_rfl) ?_))
                  obtain ⟨x52, hx52, h⟩ := bd h
                  refine wd_one 8 rfl rfl (by kernel_rfl) (ow_cN1 rfl hb47 rfl (fun w hw => c_spec_MoveBoth N _ _ _ _ _ hx52 w (rdo (A := stepsL) 4 rfl hw) (rdo (A := stepsL) 3 rfl hw) (rdo (A := stepsL) 1 rfl hw) (rdo (A := strsL) 0 rfl hw)) rfl rfl (fun a52 c52 F52 => kk_wd [6, 7, 8, 9] (by kernel_rfl) ?_))
                  refine wd_take (i := 9) [6, 7, 8, 9] rfl rfl rfl rfl rfl (by kernel_rfl) (by kernel_rfl) (fun _ _ _ _ h => h) (yh_move rfl rfl) ?_
                  refine wd_take (i := 10) [6, 7, 8, 9] rfl rfl rfl rfl rfl (by kernel_rfl) (by kernel_rfl) (fun _ _ _ _ h => h) (yh_extract rfl rfl rfl) ?_
                  refine wd_take (i := 11) [6, 7, 8, 9] rfl rfl rfl rfl rfl (by kernel_rfl) (by kernel_rfl) (fun _ _ _ _ h => h) (yh_extract rfl rfl rfl) ?_
                  refine wd_one 13 rfl rfl (by kernel_rfl) (ow_storeA Tb (k := 3) rfl rfl rfl rfl rfl rfl rfl rfl rfl (kk_wd [6, 7, 8, 9] (by kernel_rfl) ?_))
                  refine wd_take (i := 14) [6, 7, 8, 9] rfl rfl rfl rfl rfl (by kernel_rfl) (by kernel_rfl) (fun _ _ _ _ h => h) (yh_assign rfl rfl) ?_
                  refine wd_done (by kernel_rfl) ?_
                  obtain rfl := Option.some.inj h
                  exact ex_next [9, 8, 7, 6, 0, 1] (hn119 (g10, a52, c52, F52) trivial) ⟨rfl, rfl, rfl, rfl, rfl, rfl, trivial⟩ (by kernel_rfl)
              · refine ⟨_, rfl, rfl, ?_⟩
                refine (ow_allocA Tb rfl rfl rfl rfl (fun g10 => kk_wd [2, 3, 4, 5] (by kernel_rfl) ?_))
                obtain ⟨x47, hx47, h⟩ := bd h
                refine wd_one 3 rfl rfl (by kernel_rfl) (ow_cN1 rfl hb38 rfl (fun w hw => c_laws_toFlow N _ _ hx47 w (Lay.at_ h_u1_steps hw)) rfl rfl (fun a47 c47 F47 => kk_wd [3, 4, 5, 6] (by kernel_rfl) ?_))
                obtain ⟨x49, hx49, h⟩ := bd h
                refine wd_one 5 rfl rfl (by kernel_rfl) (ow_cN1 rfl hb38 rfl (fun w hw => c_laws_toFlow N _ _ hx49 w (Lay.at_ h_u2_steps hw)) rfl rfl (fun a49 c49 F49 => kk_wd [4, 5, 6, 7] (by kernel_rfl) ?_))
                obtain ⟨x51, hx51, h⟩ := bd h
                refine wd_one 7 rfl rfl (by kernel_rfl) (ow_cN1 rfl hb42 rfl (fun w hw => c_laws_toRun N _ _ hx51 w (Lay.at_ h_u3_done hw)) rfl rfl (fun a51 c51 F51 => kk_wd [5, 6, 7, 8] (by kernel_rfl) ?_))
                obtain ⟨x52, hx52, h⟩ := bd h
                refine wd_one 8 rfl rfl (by kernel_rfl) (ow_cN1 rfl hb47 rfl (fun w hw => c_spec_MoveBoth N _ _ _ _ _ hx52 w (rdo (A := stepsL) 4 rfl hw) (rdo (A := stepsL) 2 rfl hw) (rdo (A := stepsL) 1 rfl hw) (rdo (A := strsL) 0 rfl hw)) rfl rfl (fun a52 c52 F52 => kk_wd [6, 7, 8, 9] (by kernel_rfl) ?_))
                refine wd_take (i := 9) [6, 7, 8, 9] rfl rfl rfl rfl rfl (by kernel_rfl) (by kernel_rfl) (fun _ _ _ _ h => h) (yh_move rfl rfl) ?_
                refine wd_take (i := 10) [6, 7, 8, 9] rfl rfl rfl rfl rfl (by kernel_rfl) (by kernel_rfl) (fun _ _ _ _ h => h) (yh_extract rfl rfl rfl) ?_
                refine wd_take (i := 11) [6, 7, 8, 9] rfl rfl rfl rfl rfl (by kernel_rfl) (by kernel_rfl) (fun _ _ _ _ h => h) (yh_extract rfl rfl rfl) ?_
                refine wd_one 13 rfl rfl (by kernel_rfl) (ow_storeA Tb (k := 4) rfl rfl rfl rfl rfl rfl rfl rfl rfl (kk_wd [6, 7, 8, 9] (by kernel_rfl) ?_))
                refine wd_take (i := 14) [6, 7, 8, 9] rfl rfl rfl rfl rfl (by kernel_rfl) (by kernel_rfl) (fun _ _ _ _ h => h) (yh_assign rfl rfl) ?_
                refine wd_done (by kernel_rfl) ?_
                obtain rfl := Option.some.inj h
                exact ex_next [9, 8, 7, 6, 0, 1] (hn119 (g10, a52, c52, F52) trivial) ⟨rfl, rfl, rfl, rfl, rfl, rfl, trivial⟩ (by kernel_rfl)
            · refine ⟨_, rfl, rfl, ?_⟩
              refine (ow_allocA Tb rfl rfl rfl rfl (fun g10 => kk_wd [1, 2, 3, 4] (by kernel_rfl) ?_))
              obtain ⟨x45, hx45, h⟩ := bd h
              refine wd_one 1 rfl rfl (by kernel_rfl) (ow_cN1 rfl hb38 rfl (fun w hw => c_laws_toFlow N _ _ hx45 w (Lay.at_ h_u0_steps hw)) rfl rfl (fun a45 c45 F45 => kk_wd [2, 3, 4, 5] (by kernel_rfl) ?_))
              obtain ⟨x47, hx47, h⟩ := bd h
              refine wd_one 3 rfl rfl (by kernel_rfl) (ow_cN1 rfl hb38 rfl (fun w hw => c_laws_toFlow N _ _ hx47 w (Lay.at_ h_u1_steps hw)) rfl rfl (fun a47 c47 F47 => kk_wd [3, 4, 5, 6] (by kernel_rfl) ?_))
              obtain ⟨x49, hx49, h⟩ := bd h
              refine wd_one 5 rfl rfl (by kernel_rfl) (ow_cN1 rfl hb38 rfl (fun w hw => c_laws_toFlow N _ _ hx49 w (Lay.at_ h_u2_steps hw)) rfl rfl (fun a49 c49 F49 => kk_wd [4, 5, 6, 7] (by kernel_rfl) ?_))
              obtain ⟨x51, hx51, h⟩ := bd h
              refine wd_one 7 rfl rfl (by kernel_rfl) (ow_cN1 rfl hb42 rfl (fun w hw => c_laws_toRun N _ _ hx51 w (Lay.at_ h_u3_done hw)) rfl rfl (fun a51 c51 F51 => kk_wd [5, 6, 7, 8] (by kernel_rfl) ?_))
              obtain ⟨x52, hx52, h⟩ := bd h
              refine wd_one 8 rfl rfl (by kernel_rfl) (ow_cN1 rfl hb47 rfl (fun w hw => c_spec_MoveBoth N _ _ _ _ _ hx52 w (rdo (A := stepsL) 3 rfl hw) (rdo (A := stepsL) 2 rfl hw) (rdo (A := stepsL) 1 rfl hw) (rdo (A := strsL) 0 rfl hw)) rfl rfl (fun a52 c52 F52 => kk_wd [6, 7, 8, 9] (by kernel_rfl) ?_))
              refine wd_take (i := 9) [6, 7, 8, 9] rfl rfl rfl rfl rfl (by kernel_rfl) (by kernel_rfl) (fun _ _ _ _ h => h) (yh_move rfl rfl) ?_
              refine wd_take (i := 10) [6, 7, 8, 9] rfl rfl rfl rfl rfl (by kernel_rfl) (by kernel_rfl) (fun _ _ _ _ h => h) (yh_extract rfl rfl rfl) ?_
              refine wd_take (i := 11) [6, 7, 8, 9] rfl rfl rfl rfl rfl (by kernel_rfl) (by kernel_rfl) (fun _ _ _ _ h => h) (yh_extract rfl rfl rfl) ?_
              refine wd_one 13 rfl rfl (by kernel_rfl) (ow_storeA Tb (k := 5) rfl rfl rfl rfl rfl rfl rfl rfl rfl (kk_wd [6, 7, 8, 9] (by kernel_rfl) ?_))
              refine wd_take (i := 14) [6, 7, 8, 9] rfl rfl rfl rfl rfl (by kernel_rfl) (by kernel_rfl) (fun _ _ _ _ h => h) (yh_assign rfl rfl) ?_
              refine wd_done (by kernel_rfl) ?_
              obtain rfl := Option.some.inj h
              exact ex_next [9, 8, 7, 6, 0, 1] (hn119 (g10, a52, c52, F52) trivial) ⟨rfl, rfl, rfl, rfl, rfl, rfl, trivial⟩ (by kernel_rfl)

def m_laws_szFlowS_L8 (N : Nat) (a : List Flow) : Nat → Int → Nat → Option (Ex (Int × Nat) (Int))
  | 0, _, _ => none
  | n + 1, s1, s5 => (bif ltb ((s5 : Nat) : Int) ((a.length : Nat) : Int) then (a[s5]?).bind fun y20 => (m_laws_szFlow N y20 s1).bind fun x23 => (bif ltb x23 0 then some (Ex.ret (-1))
 else m_laws_szFlowS_L8 N a n x23 (s5 + 1))
 else some (Ex.brk (s1, s5)))

def m_laws_szFlowS (N : Nat) (a : List Flow) (left : Int) : Option (Int) := (bif ltb (w64 (left - ((a.length : Nat) : Int))) 0 then some (-1)
 else (m_laws_szFlowS_L8 N a N (w64 (left - ((a.length : Nat) : Int))) 0).bind fun e8 => e8.go (fun r => r) fun b8 => some b8.1)

set_option maxHeartbeats 4000000 in
theorem c_laws_szFlowS (N : Nat) (a : List Flow) (left : Int) (res : Int) (h : m_laws_szFlowS N a left = some res) (w : World) {a_a : Option Addr} {c_a : Nat} (h_a : flowsL.rd w [] [.slice a_a a.length c_a] a) : Ret Try.prog 29 [.slice a_a a.length c_a, .int .i64 left] w [] fun v w' => v = .int .i64 res := by
  have mh_a := rd_max h_a
  unfold m_laws_szFlowS at h
  refine ret_enter Try.func29 rfl Try.ntmps29 rfl (Hp.refl w _) ?_
  refine cw_seq ?_
  refine cw_region ?_
  refine wl_u rfl (ow_y (yh_assign rfl rfl) rfl rfl (kk_wl ?_))
  refine wl_nil ?_
  refine ex_seq ?_
  refine cw_seq ?_
  refine cw_region ?_
  refine wl_u rfl (ow_y (yh_move rfl rfl) rfl rfl (kk_wl ?_))
  refine wl_u rfl (ow_y (yh_move rfl rfl) rfl rfl (kk_wl ?_))
  refine wl_u rfl (ow_y (yh_lenS Tb rfl rfl rfl rfl) rfl rfl (kk_wl ?_))
  refine wl_u rfl (ow_y (yh_arW rfl rfl rfl rfl) rfl rfl (kk_wl ?_))
  refine wl_u rfl (ow_y (yh_assign rfl rfl) rfl rfl (kk_wl ?_))
  refine wl_nil ?_
  refine ex_seq ?_
  refine cw_seq ?_
  refine cw_seq ?_
  refine cw_region ?_
  refine wl_u rfl (ow_y (yh_move rfl rfl) rfl rfl (kk_wl ?_))
  refine wl_u rfl (ow_y (yh_cmpI rfl rfl rfl rfl) rfl rfl (kk_wl ?_))
  refine wl_nil ?_
  refine ex_seq ?_
  refine cw_split rfl (fun c1 => ?_) (fun c1 => ?_)
  · skip
    replace h := bt c1 h
    have q1 := ltb_true.1 c1
    refine cw_seq ?_
    refine cw_region ?_
    refine wl_u rfl (ow_y (yh_assign rfl rfl) rfl rfl (kk_wl ?_))
    refine wl_nil ?_
    refine ex_seq ?_
    refine cw_ret ?_
    refine ex_then_ret ?_
    obtain rfl := Option.some.inj h
    exact ex_r1 Tb rfl (.tmp rfl) (fun wq hq => ⟨_, rfl, hq.ext, rfl⟩)
  · skip
    replace h := bf c1 h
    have q2 := ltb_false.1 c1
    refine cw_skip ?_
    refine ex_seq ?_
    refine cw_seq ?_
    refine cw_seq ?_
    refine cw_region ?_
    refine wl_u rfl (ow_y (yh_assign rfl rfl) rfl rfl (kk_wl ?_))
    refine wl_nil ?_
    refine ex_seq ?_
    refine cw_block ?_
    obtain ⟨e8, he8, hk8⟩ := bd h
    clear h
    refine cw_loopG (σ := Nat × Int × Nat) (fun s => m_laws_szFlowS_L8 N a s.1 s.2.1 s.2.2 = some e8) (fun s => [(0, .slice a_a a.length c_a), (1, .int .i64 s.2.1), (5, .int .i64 ((s.2.2 : Nat) : Int))]) (fun s => []) (fun s => s.1) (N, w64 (left - ((a.length : Nat) : Int)), 0) [] he8 ⟨rfl, rfl, rfl, trivial⟩ rfl (fun KL s he8 hn8 => ?_)
    obtain ⟨n8, s1, s5⟩ := s
    simp only at he8 hn8 ⊢
    rcases n8 with _ | n8
    · exact nosome he8
    have h := he8; rw [m_laws_szFlowS_L8] at h
    refine cw_seq ?_
    refine cw_seq ?_
    refine cw_region ?_
    refine wl_u rfl (ow_y (yh_move rfl rfl) rfl rfl (kk_wl ?_))
    refine wl_u rfl (ow_y (yh_move rfl rfl) rfl rfl (kk_wl ?_))
    refine wl_u rfl (ow_y (yh_lenS Tb rfl rfl rfl rfl) rfl rfl (kk_wl ?_))
    refine wl_u rfl (ow_y (yh_cmpI rfl rfl rfl rfl) rfl rfl (kk_wl ?_))
    refine wl_nil ?_
    refine ex_seq ?_
    refine cw_split rfl (fun c2 => ?_) (fun c2 => ?_)
    · skip
      replace h := bt c2 h
      have q3 := ltb_true.1 c2
      refine cw_skip ?_
      refine ex_seq ?_
      refine cw_seq ?_
      refine cw_block ?_
      refine cw_seq ?_
      refine cw_region ?_
      refine wl_u rfl (ow_y (yh_move rfl rfl) rfl rfl (kk_wl ?_))
      refine wl_u rfl (ow_y (yh_move rfl rfl) rfl rfl (kk_wl ?_))
      obtain ⟨y20, hy20, h⟩ := bd h
      obtain ⟨b20, o20, ha20⟩ := sl_addr h_a hy20
      subst ha20
      obtain ⟨a20, e20, hc20, hf20⟩ := get_flow h_a hy20
      have mx20 := rd_max hf20
      refine wl_u rfl (ow_y (yh_idx Tb (k := s5) rfl rfl rfl rfl (get_lt hy20) rfl rfl) rfl rfl (kk_wl ?_))
      refine wl_u rfl (ow_y (yh_loadAN Tb rfl rfl rfl rfl hc20 rfl) rfl rfl (kk_wl ?_))
      refine wl_u rfl (ow_y (yh_move rfl rfl) rfl rfl (kk_wl ?_))
      obtain ⟨x23, hx23, h⟩ := bd h
      refine wl_u rfl (ow_cV rfl hb37 rfl (fun w hw => c_laws_szFlow N _ _ _ hx23 w (Lay.at_ hf20 hw)) rfl rfl (kk_wl ?_))
      refine wl_u rfl (ow_y (yh_assign rfl rfl) rfl rfl (kk_wl ?_))
      refine wl_nil ?_
      refine ex_seq ?_
      refine cw_seq ?_
      refine cw_region ?_
      refine wl_u rfl (ow_y (yh_move rfl rfl) rfl rfl (kk_wl ?_))
      refine wl_u rfl (ow_y (yh_cmpI rfl rfl rfl rfl) rfl rfl (kk_wl ?_))
      refine wl_nil ?_
      refine ex_seq ?_
      refine cw_split rfl (fun c3 => ?_) (fun c3 => ?_)
      · skip
        replace h := bt c3 h
        have q4 := ltb_true.1 c3
        refine cw_seq ?_
        refine cw_region ?_
        refine wl_u rfl (ow_y (yh_assign rfl rfl) rfl rfl (kk_wl ?_))
        refine wl_nil ?_
        refine ex_seq ?_
        refine cw_ret ?_
        refine ex_block_ret ?_
        refine ex_then_ret ?_
        refine ex_then_ret ?_
        refine ex_block_ret ?_
        refine ex_then_ret ?_
        obtain rfl := Option.some.inj h
        obtain rfl := go_ret hk8
        exact ex_r1 Tb rfl (.tmp rfl) (fun wq hq => ⟨_, rfl, hq.ext, rfl⟩)
      · skip
        replace h := bf c3 h
        have q5 := ltb_false.1 c3
        refine cw_skip ?_
        refine ex_block_normal ?_
        refine ex_seq ?_
        refine cw_region ?_
        refine wl_u rfl (ow_y (yh_move rfl rfl) rfl rfl (kk_wl ?_))
        refine wl_u rfl (ow_y (yh_arI rfl rfl rfl rfl (by omega)) rfl rfl (kk_wl ?_))
        refine wl_u rfl (ow_y (yh_assign rfl rfl) rfl rfl (kk_wl ?_))
        refine wl_nil ?_
        exact ex_next [] (hn8 (n8, x23, s5 + 1) (Nat.lt_succ_self _) h) ⟨rfl, rfl, rfl, trivial⟩ (by kernel_rfl)
    · skip
      replace h := bf c2 h
      have q6 := ltb_false.1 c2
      refine cw_exit ?_
      refine ex_then_exit ?_
      refine ex_then_exit ?_
      obtain rfl := Option.some.inj h
      have h := go_brk hk8
      refine ex_block_exit ?_
      refine ex_seq ?_
      refine cw_seq ?_
      refine cw_region ?_
      refine wl_u rfl (ow_y (yh_move rfl rfl) rfl rfl (kk_wl ?_))
      refine wl_u rfl (ow_y (yh_assign rfl rfl) rfl rfl (kk_wl ?_))
      refine wl_nil ?_
      refine ex_seq ?_
      refine cw_ret ?_
      obtain rfl := Option.some.inj h
      exact ex_r1 Tb rfl (.tmp rfl) (fun wq hq => ⟨_, rfl, hq.ext, rfl⟩)

def m_laws_toFlowS_L5 (N : Nat) (a : List Flow) : Nat → (List Flow) → Nat → Option (Ex (List Flow × Nat) (List Flow))
  | 0, _, _ => none
  | n + 1, s3, s4 => (bif ltb ((s4 : Nat) : Int) ((a.length : Nat) : Int) then (a[s4]?).bind fun y18 => (m_laws_toFlow N y18).bind fun x20 => (s3[s4]?).bind fun y21 => m_laws_toFlowS_L5 N a n (s3.set s4 x20) (s4 + 1)
 else some (Ex.brk (s3, s4)))

def m_laws_toFlowS (N : Nat) (a : List Flow) : Option (List Flow) := (mkl a.length (Flow.mk 0 ([] : List Step))).bind fun l7 => (m_laws_toFlowS_L5 N a N (List.replicate a.length (Flow.mk 0 ([] : List Step))) 0).bind fun e5 => e5.go (fun r => r) fun b5 => some b5.1

set_option maxHeartbeats 4000000 in
theorem c_laws_toFlowS (N : Nat) (a : List Flow) (res : List Flow) (h : m_laws_toFlowS N a = some res) (w : World) {a_a : Option Addr} {c_a : Nat} (h_a : flowsL.rd w [] [.slice a_a a.length c_a] a) : Ret Try.prog 31 [.slice a_a a.length c_a] w [] fun v w' => ∃ a1 c1 F1, v = .slice a1 res.length c1 ∧ NewC w w' [owC flowsL F1 [.slice a1 res.length c1] res] := by
  have mh_a := rd_max h_a
  unfold m_laws_toFlowS at h
  refine ret_enter Try.func31 rfl Try.ntmps31 rfl (Hp.refl w _) ?_
  refine cw_seq ?_
  refine cw_region ?_
  refine wl_u rfl (ow_y (yh_assign rfl rfl) rfl rfl (kk_wl ?_))
  refine wl_nil ?_
  refine ex_seq ?_
  refine cw_seq ?_
  refine cw_region ?_
  refine wl_u rfl (ow_y (yh_move rfl rfl) rfl rfl (kk_wl ?_))
  refine wl_u rfl (ow_y (yh_lenS Tb rfl rfl rfl rfl) rfl rfl (kk_wl ?_))
  obtain ⟨hll7, h⟩ := bd_mkl h
  refine wl_u rfl (ow_makeK Tb (A := flowL) (n := a.length) (z0 := (Flow.mk 0 ([] : List Step))) rfl rfl rfl rfl rfl rfl rfl rfl rfl (fun w => z_flow w) hll7 rfl rfl rfl (fun g7 => kk_wl ?_))
  refine wl_u rfl (ow_y (yh_assign rfl rfl) rfl rfl (kk_wl ?_))
  refine wl_nil ?_
  refine ex_seq ?_
  refine cw_seq ?_
  refine cw_seq ?_
  refine cw_region ?_
  refine wl_u rfl (ow_y (yh_assign rfl rfl) rfl rfl (kk_wl ?_))
  refine wl_nil ?_
  refine ex_seq ?_
  refine cw_block ?_
  obtain ⟨e5, he5, hk5⟩ := bd h
  clear h
  refine cw_loopG (σ := Nat × (List Flow) × Nat × (List Nat)) (fun s => m_laws_toFlowS_L5 N a s.1 s.2.1 s.2.2.1 = some e5) (fun s => [(0, .slice a_a a.length c_a), (3, .slice (some ⟨g7, 0, none⟩) a.length a.length), (4, .int .i64 ((s.2.2.1 : Nat) : Int))]) (fun s => [owC flowsL s.2.2.2 [.slice (some ⟨g7, 0, none⟩) a.length a.length] s.2.1]) (fun s => s.1) (N, (List.replicate a.length (Flow.mk 0 ([] : List Step))), 0, [g7]) [0] he5 ⟨rfl, rfl, rfl, trivial⟩ rfl (fun KL s he5 hn5 => ?_)
  obtain ⟨n5, s3, s4, Fs3⟩ := s
  simp only at he5 hn5 ⊢
  rcases n5 with _ | n5
  · exact nosome he5
  have h := he5; rw [m_laws_toFlowS_L5] at h
  refine cw_seq ?_
  refine cw_seq ?_
  refine cw_region ?_
  refine wl_u rfl (ow_y (yh_move rfl rfl) rfl rfl (kk_wl ?_))
  refine wl_u rfl (ow_y (yh_move rfl rfl) rfl rfl (kk_wl ?_))
  refine wl_u rfl (ow_y (yh_lenS Tb rfl rfl rfl rfl) rfl rfl (kk_wl ?_))
  refine wl_u rfl (ow_y (yh_cmpI rfl rfl rfl rfl) rfl rfl (kk_wl ?_))
  refine wl_nil ?_
  refine ex_seq ?_
  refine cw_split rfl (fun c1 => ?_) (fun c1 => ?_)
  · skip
    replace h := bt c1 h
    have q1 := ltb_true.1 c1
    refine cw_skip ?_
    refine ex_seq ?_
    refine cw_seq ?_
    refine cw_block ?_
    refine cw_region ?_
    refine wl_u rfl (ow_y (yh_move rfl rfl) rfl rfl (kk_wl ?_))
    refine wl_u rfl (ow_y (yh_move rfl rfl) rfl rfl (kk_wl ?_))
    refine wl_u rfl (ow_y (yh_move rfl rfl) rfl rfl (kk_wl ?_))
    refine wl_u rfl (ow_y (yh_move rfl rfl) rfl rfl (kk_wl ?_))
    obtain ⟨y18, hy18, h⟩ := bd h
    obtain ⟨b18, o18, ha18⟩ := sl_addr h_a hy18
    subst ha18
    obtain ⟨a18, e18, hc18, hf18⟩ := get_flow h_a hy18
    have mx18 := rd_max hf18
    refine wl_u rfl (ow_y (yh_idx Tb (k := s4) rfl rfl rfl rfl (get_lt hy18) rfl rfl) rfl rfl (kk_wl ?_))
    refine wl_u rfl (ow_y (yh_loadAN Tb rfl rfl rfl rfl hc18 rfl) rfl rfl (kk_wl ?_))
    obtain ⟨x20, hx20, h⟩ := bd h
    refine wl_u rfl (ow_cN1 rfl hb38 rfl (fun w hw => c_laws_toFlow N _ _ hx20 w (Lay.at_ hf18 hw)) rfl rfl (fun a20 c20 F20 => kk_wl ?_))
    obtain ⟨y21, hy21, h⟩ := bd h
    refine wl_know (a.length = s3.length) (fun w hw => own_lenK 1 rfl hw) (fun hn21 => ?_)
    refine wl_u rfl (ow_y (yh_idx Tb (k := s4) rfl rfl rfl rfl (Nat.lt_of_lt_of_eq (get_lt hy21) hn21.symm) rfl rfl) rfl rfl (kk_wl ?_))
    refine wl_u rfl (ow_setN Tb (u := x20) 1 0 rfl rfl rfl rfl rfl rfl (get_lt hy21) (fun w hA => flowL_mk x20 hA) rfl (fun Fs18 => kk_wl ?_))
    refine wl_nil ?_
    refine ex_block_normal ?_
    refine ex_seq ?_
    refine cw_region ?_
    refine wl_u rfl (ow_y (yh_move rfl rfl) rfl rfl (kk_wl ?_))
    refine wl_u rfl (ow_y (yh_arI rfl rfl rfl rfl (by omega)) rfl rfl (kk_wl ?_))
    refine wl_u rfl (ow_y (yh_assign rfl rfl) rfl rfl (kk_wl ?_))
    refine wl_nil ?_
    exact ex_next [0] (hn5 (n5, (s3.set s4 x20), s4 + 1, Fs18) (Nat.lt_succ_self _) h) ⟨rfl, rfl, rfl, trivial⟩ (by kernel_rfl)
  · skip
    replace h := bf c1 h
    have q2 := ltb_false.1 c1
    refine cw_exit ?_
    refine ex_then_exit ?_
    refine ex_then_exit ?_
    obtain rfl := Option.some.inj h
    have h := go_brk hk5
    refine ex_block_exit ?_
    refine ex_seq ?_
    refine cw_seq ?_
    refine cw_region ?_
    refine wl_u rfl (ow_y (yh_move rfl rfl) rfl rfl (kk_wl ?_))
    refine wl_u rfl (ow_y (yh_assign rfl rfl) rfl rfl (kk_wl ?_))
    refine wl_nil ?_
    refine ex_seq ?_
    refine cw_ret ?_
    refine ex_know (a.length = s3.length) (fun w hw => own_lenK 0 rfl hw) (fun hn0_ => ?_)
    obtain rfl := Option.some.inj h
    exact ex_r1 Tb rfl (.tmp rfl) (fun wq hq => ⟨_, rfl, hq.ext, ⟨(some ⟨g7, 0, none⟩), a.length, Fs3, (by simp only [hn0_]), (by simp only [← hn0_]; exact NewC.sel [0] hq rfl)⟩⟩)

def m_spec_l14At_L4 (N : Nat) (list_ : List Flow) (version : Int) : Nat → Nat → Option (Ex (Nat) (Int))
  | 0, _ => none
  | n + 1, s5 => (bif ltb ((s5 : Nat) : Int) ((list_.length : Nat) : Int) then (list_[s5]?).bind fun y14 => (bif eqb y14.ver version then some (Ex.ret ((s5 : Nat) : Int))
 else m_spec_l14At_L4 N list_ version n (s5 + 1))
 else some (Ex.brk (s5)))

def m_spec_l14At (N : Nat) (list_ : List Flow) (version : Int) : Option (Int) := (m_spec_l14At_L4 N list_ version N 0).bind fun e4 => e4.go (fun r => r) fun b4 => some (-1)

set_option maxHeartbeats 4000000 in
theorem c_spec_l14At (N : Nat) (list_ : List Flow) (version : Int) (res : Int) (h : m_spec_l14At N list_ version = some res) (w : World) {a_list_ : Option Addr} {c_list_ : Nat} (h_list_ : flowsL.rd w [] [.slice a_list_ list_.length c_list_] list_) : Ret Try.prog 75 [.slice a_list_ list_.length c_list_, .int .i64 version] w [] fun v w' => v = .int .i64 res := by
  have mh_list_ := rd_max h_list_
  unfold m_spec_l14At at h
  refine ret_enter Try.func75 rfl Try.ntmps75 rfl (Hp.refl w _) ?_
  refine cw_seq ?_
  refine cw_region ?_
  refine wl_u rfl (ow_y (yh_assign rfl rfl) rfl rfl (kk_wl ?_))
  refine wl_nil ?_
  refine ex_seq ?_
  refine cw_seq ?_
  refine cw_seq ?_
  refine cw_region ?_
  refine wl_u rfl (ow_y (yh_assign rfl rfl) rfl rfl (kk_wl ?_))
  refine wl_nil ?_
  refine ex_seq ?_
  refine cw_block ?_
  obtain ⟨e4, he4, hk4⟩ := bd h
  clear h
  refine cw_loopG (σ := Nat × Nat) (fun s => m_spec_l14At_L4 N list_ version s.1 s.2 = some e4) (fun s => [(0, .slice a_list_ list_.length c_list_), (1, .int .i64 version), (5, .int .i64 ((s.2 : Nat) : Int))]) (fun s => []) (fun s => s.1) (N, 0) [] he4 ⟨rfl, rfl, rfl, trivial⟩ rfl (fun KL s he4 hn4 => ?_)
  obtain ⟨n4, s5⟩ := s
  simp only at he4 hn4 ⊢
  rcases n4 with _ | n4
  · exact nosome he4
  have h := he4; rw [m_spec_l14At_L4] at h
  refine cw_seq ?_
  refine cw_seq ?_
  refine cw_region ?_
  refine wl_u rfl (ow_y (yh_move rfl rfl) rfl rfl (kk_wl ?_))
  refine wl_u rfl (ow_y (yh_move rfl rfl) rfl rfl (kk_wl ?_))
  refine wl_u rfl (ow_y (yh_lenS Tb rfl rfl rfl rfl) rfl rfl (kk_wl ?_))
  refine wl_u rfl (ow_y (yh_cmpI rfl rfl rfl rfl) rfl rfl (kk_wl ?_))
  refine wl_nil ?_
  refine ex_seq ?_
  refine cw_split rfl (fun c1 => ?_) (fun c1 => ?_)
  · skip
    replace h := bt c1 h
    have q1 := ltb_true.1 c1
    refine cw_skip ?_
    refine ex_seq ?_
    refine cw_seq ?_
    refine cw_block ?_
    refine cw_seq ?_
    refine cw_region ?_
    refine wl_u rfl (ow_y (yh_move rfl rfl) rfl rfl (kk_wl ?_))
    refine wl_u rfl (ow_y (yh_move rfl rfl) rfl rfl (kk_wl ?_))
    obtain ⟨y14, hy14, h⟩ := bd h
    obtain ⟨b14, o14, ha14⟩ := sl_addr h_list_ hy14
    subst ha14
    obtain ⟨a14, e14, hc14, hf14⟩ := get_flow h_list_ hy14
    have mx14 := rd_max hf14
    refine wl_u rfl (ow_y (yh_idx Tb (k := s5) rfl rfl rfl rfl (get_lt hy14) rfl rfl) rfl rfl (kk_wl ?_))
    refine wl_u rfl (ow_y (yh_field Tb rfl rfl rfl) rfl rfl (kk_wl ?_))
    refine wl_u rfl (ow_y (yh_loadAF Tb (j := 0) rfl rfl rfl hc14 rfl) rfl rfl (kk_wl ?_))
    refine wl_u rfl (ow_y (yh_move rfl rfl) rfl rfl (kk_wl ?_))
    refine wl_u rfl (ow_y (yh_cmpI rfl rfl rfl rfl) rfl rfl (kk_wl ?_))
    refine wl_nil ?_
    refine ex_seq ?_
    refine cw_split rfl (fun c2 => ?_) (fun c2 => ?_)
    · skip
      replace h := bt c2 h
      have q2 := eqb_true.1 c2
      refine cw_seq ?_
      refine cw_region ?_
      refine wl_u rfl (ow_y (yh_move rfl rfl) rfl rfl (kk_wl ?_))
      refine wl_u rfl (ow_y (yh_assign rfl rfl) rfl rfl (kk_wl ?_))
      refine wl_nil ?_
      refine ex_seq ?_
      refine cw_ret ?_
      refine ex_block_ret ?_
      refine ex_then_ret ?_
      refine ex_then_ret ?_
      refine ex_block_ret ?_
      refine ex_then_ret ?_
      obtain rfl := Option.some.inj h
      obtain rfl := go_ret hk4
      exact ex_r1 Tb rfl (.tmp rfl) (fun wq hq => ⟨_, rfl, hq.ext, rfl⟩)
    · skip
      replace h := bf c2 h
      have q3 := eqb_false.1 c2
      refine cw_skip ?_
      refine ex_block_normal ?_
      refine ex_seq ?_
      refine cw_region ?_
      refine wl_u rfl (ow_y (yh_move rfl rfl) rfl rfl (kk_wl ?_))
      refine wl_u rfl (ow_y (yh_arI rfl rfl rfl rfl (by omega)) rfl rfl (kk_wl ?_))
      refine wl_u rfl (ow_y (yh_assign rfl rfl) rfl rfl (kk_wl ?_))
      refine wl_nil ?_
      exact ex_next [] (hn4 (n4, s5 + 1) (Nat.lt_succ_self _) h) ⟨rfl, rfl, rfl, trivial⟩ (by kernel_rfl)
  · skip
    replace h := bf c1 h
    have q4 := ltb_false.1 c1
    refine cw_exit ?_
    refine ex_then_exit ?_
    refine ex_then_exit ?_
    obtain rfl := Option.some.inj h
    have h := go_brk hk4
    refine ex_block_exit ?_
    refine ex_seq ?_
    refine cw_seq ?_
    refine cw_region ?_
    refine wl_u rfl (ow_y (yh_assign rfl rfl) rfl rfl (kk_wl ?_))
    refine wl_nil ?_
    refine ex_seq ?_
    refine cw_ret ?_
    obtain rfl := Option.some.inj h
    exact ex_r1 Tb rfl (.tmp rfl) (fun wq hq => ⟨_, rfl, hq.ext, rfl⟩)

def m_spec_RegistryValid_L5 (N : Nat) (list_ : List Flow) : Nat → Nat → Option (Ex (Nat) (Bool))
  | 0, _ => none
  | n + 1, s3 => (bif ltb ((s3 : Nat) : Int) ((list_.length : Nat) : Int) then (list_[s3]?).bind fun y12 => (m_spec_FlowValid N y12).bind fun x14 => (bif !x14 then some (Ex.ret false)
 else (bif ltb 0 ((s3 : Nat) : Int) then (geti list_ (((s3 : Nat) : Int) - 1)).bind fun y23 => (bif leb y12.ver y23.ver then some (Ex.ret false)
 else m_spec_RegistryValid_L5 N list_ n (s3 + 1))
 else m_spec_RegistryValid_L5 N list_ n (s3 + 1)))
 else some (Ex.brk (s3)))

def m_spec_RegistryValid (N : Nat) (list_ : List Flow) : Option (Bool) := (m_spec_RegistryValid_L5 N list_ N 0).bind fun e5 => e5.go (fun r => r) fun b5 => some (leb ((list_.length : Nat) : Int) 4)

set_option maxHeartbeats 4000000 in
theorem c_spec_RegistryValid (N : Nat) (list_ : List Flow) (res : Bool) (h : m_spec_RegistryValid N list_ = some res) (w : World) {a_list_ : Option Addr} {c_list_ : Nat} (h_list_ : flowsL.rd w [] [.slice a_list_ list_.length c_list_] list_) : Ret Try.prog 65 [.slice a_list_ list_.length c_list_] w [] fun v w' => v = .bool res := by
  have mh_list_ := rd_max h_list_
  unfold m_spec_RegistryValid at h
  refine ret_enter Try.func65 rfl Try.ntmps65 rfl (Hp.refl w _) ?_
  refine cw_seq ?_
  refine cw_region ?_
  refine wl_u rfl (ow_y (yh_assign rfl rfl) rfl rfl (kk_wl ?_))
  refine wl_nil ?_
  refine ex_seq ?_
  refine cw_seq ?_
  refine cw_seq ?_
  refine cw_region ?_
  refine wl_u rfl (ow_y (yh_assign rfl rfl) rfl rfl (kk_wl ?_))
  refine wl_nil ?_
  refine ex_seq ?_
  refine cw_block ?_
  obtain ⟨e5, he5, hk5⟩ := bd h
  clear h
  refine cw_loopG (σ := Nat × Nat) (fun s => m_spec_RegistryValid_L5 N list_ s.1 s.2 = some e5) (fun s => [(0, .slice a_list_ list_.length c_list_), (3, .int .i64 ((s.2 : Nat) : Int))]) (fun s => []) (fun s => s.1) (N, 0) [] he5 ⟨rfl, rfl, trivial⟩ rfl (fun KL s he5 hn5 => ?_)
  obtain ⟨n5, s3⟩ := s
  simp only at he5 hn5 ⊢
  rcases n5 with _ | n5
  · exact nosome he5
  have h := he5; rw [m_spec_RegistryValid_L5] at h
  refine cw_seq ?_
  refine cw_seq ?_
  refine cw_region ?_
  refine wl_u rfl (ow_y (yh_move rfl rfl) rfl rfl (kk_wl ?_))
  refine wl_u rfl (ow_y (yh_move rfl rfl) rfl rfl (kk_wl ?_))
  refine wl_u rfl (ow_y (yh_lenS Tb rfl rfl rfl rfl) rfl rfl (kk_wl ?_))
  refine wl_u rfl (ow_y (yh_cmpI rfl rfl rfl rfl) rfl rfl (kk_wl ?_))
  refine wl_nil ?_
  refine ex_seq ?_
  refine cw_split rfl (fun c1 => ?_) (fun c1 => ?_)
  · skip
    replace h := bt c1 h
    have q1 := ltb_true.1 c1
    refine cw_skip ?_
    refine ex_seq ?_
    refine cw_seq ?_
    refine cw_block ?_
    refine cw_seq ?_
    refine cw_dr [0, 1, 2, 3, 5, 6, 7, 8, 9, 10, 11, 12, 13, 14, 15, 16, 17, 18, 19, 20, 21, 22, 23] [] [] (by kernel_rfl) ?_
    refine wd_take (i := 0) [] rfl rfl rfl rfl rfl (by kernel_rfl) (by kernel_rfl) (fun _ _ _ _ h => h) (yh_move rfl rfl) ?_
    refine wd_take (i := 1) [] rfl rfl rfl rfl rfl (by kernel_rfl) (by kernel_rfl) (fun _ _ _ _ h => h) (yh_move rfl rfl) ?_
    obtain ⟨y12, hy12, h⟩ := bd h
    obtain ⟨b12, o12, ha12⟩ := sl_addr h_list_ hy12
    subst ha12
    obtain ⟨a12, e12, hc12, hf12⟩ := get_flow h_list_ hy12
    have mx12 := rd_max hf12
    refine wd_take (i := 2) [] rfl rfl rfl rfl rfl (by kernel_rfl) (by kernel_rfl) (fun _ _ _ _ h => h) (yh_idx Tb (k := s3) rfl rfl rfl rfl (get_lt hy12) rfl rfl) ?_
    refine wd_take (i := 3) [] rfl rfl rfl rfl rfl (by kernel_rfl) (by kernel_rfl) (fun _ _ _ _ h => h) (yh_loadAN Tb rfl rfl rfl rfl hc12 rfl) ?_
    obtain ⟨x14, hx14, h⟩ := bd h
    refine wd_one 4 rfl rfl (by kernel_rfl) (ow_cV rfl hb28 rfl (fun w hw => c_spec_FlowValid N _ _ hx14 w (Lay.at_ hf12 hw)) rfl rfl (kk_wd [] (by kernel_rfl) ?_))
    refine wd_take (i := 5) [] rfl rfl rfl rfl rfl (by kernel_rfl) (by kernel_rfl) (fun _ _ _ _ h => h) (yh_not rfl rfl) ?_
    refine wd_take (i := 6) [] rfl rfl rfl rfl rfl (by kernel_rfl) (by kernel_rfl) (fun _ _ _ _ h => h) (yh_move rfl rfl) ?_
    refine wd_split 7 rfl rfl rfl (fun c2 => ?_) (fun c2 => ?_)
    · skip
      replace h := bt c2 h
      refine wd_skip (i := 7) [] rfl rfl rfl rfl (by kernel_rfl) (by kernel_rfl) (fun _ _ _ h => h) ?_
      refine wd_skip (i := 8) [] rfl rfl rfl rfl (by kernel_rfl) (by kernel_rfl) (fun _ _ _ h => h) ?_
      refine wd_skip (i := 9) [] rfl rfl rfl rfl (by kernel_rfl) (by kernel_rfl) (fun _ _ _ h => h) ?_
      refine wd_skip (i := 10) [] rfl rfl rfl rfl (by kernel_rfl) (by kernel_rfl) (fun _ _ _ h => h) ?_
      refine wd_skip (i := 11) [] rfl rfl rfl rfl (by kernel_rfl) (by kernel_rfl) (fun _ _ _ h => h) ?_
      refine wd_skip (i := 12) [] rfl rfl rfl rfl (by kernel_rfl) (by kernel_rfl) (fun _ _ _ h => h) ?_
      refine wd_skip (i := 13) [] rfl rfl rfl rfl (by kernel_rfl) (by kernel_rfl) (fun _ _ _ h => h) ?_
      refine wd_skip (i := 14) [] rfl rfl rfl rfl (by kernel_rfl) (by kernel_rfl) (fun _ _ _ h => h) ?_
      refine wd_skip (i := 15) [] rfl rfl rfl rfl (by kernel_rfl) (by kernel_rfl) (fun _ _ _ h => h) ?_
      refine wd_skip (i := 16) [] rfl rfl rfl rfl (by kernel_rfl) (by kernel_rfl) (fun _ _ _ h => h) ?_
      refine wd_skip (i := 17) [] rfl rfl rfl rfl (by kernel_rfl) (by kernel_rfl) (fun _ _ _ h => h) ?_
      refine wd_skip (i := 18) [] rfl rfl rfl rfl (by kernel_rfl) (by kernel_rfl) (fun _ _ _ h => h) ?_
      refine wd_skip (i := 19) [] rfl rfl rfl rfl (by kernel_rfl) (by kernel_rfl) (fun _ _ _ h => h) ?_
      refine wd_skip (i := 20) [] rfl rfl rfl rfl (by kernel_rfl) (by kernel_rfl) (fun _ _ _ h => h) ?_
      refine wd_skip (i := 21) [] rfl rfl rfl rfl (by kernel_rfl) (by kernel_rfl) (fun _ _ _ h => h) ?_
      refine wd_skip (i := 22) [] rfl rfl rfl rfl (by kernel_rfl) (by kernel_rfl) (fun _ _ _ h => h) ?_
      refine wd_take (i := 23) [] rfl rfl rfl rfl rfl (by kernel_rfl) (by kernel_rfl) (fun _ _ _ _ h => h) (yh_pickT rfl rfl rfl) ?_
      refine wd_done (by kernel_rfl) ?_
      refine ex_seq ?_
      refine cw_true rfl ?_
      refine cw_seq ?_
      refine cw_region ?_
      refine wl_u rfl (ow_y (yh_assign rfl rfl) rfl rfl (kk_wl ?_))
      refine wl_nil ?_
      refine ex_seq ?_
      refine cw_ret ?_
      refine ex_block_ret ?_
      refine ex_then_ret ?_
      refine ex_then_ret ?_
      refine ex_block_ret ?_
      refine ex_then_ret ?_
      obtain rfl := Option.some.inj h
      obtain rfl := go_ret hk5
      exact ex_r1 Tb rfl (.tmp rfl) (fun wq hq => ⟨_, rfl, hq.ext, rfl⟩)
    · skip
      replace h := bf c2 h
      refine wd_take (i := 7) [] rfl rfl rfl rfl rfl (by kernel_rfl) (by kernel_rfl) (fun _ _ _ _ h => h) (yh_move rfl rfl) ?_
      refine wd_take (i := 8) [] rfl rfl rfl rfl rfl (by kernel_rfl) (by kernel_rfl) (fun _ _ _ _ h => h) (yh_cmpI rfl rfl rfl rfl) ?_
      refine wd_take (i := 9) [] rfl rfl rfl rfl rfl (by kernel_rfl) (by kernel_rfl) (fun _ _ _ _ h => h) (yh_move rfl rfl) ?_
      refine wd_split 10 rfl rfl rfl (fun c3 => ?_) (fun c3 => ?_)
      · skip
        replace h := bt c3 h
        have q2 := ltb_true.1 c3
        refine wd_take (i := 10) [] rfl rfl rfl rfl rfl (by kernel_rfl) (by kernel_rfl) (fun _ _ _ _ h => h) (yh_move rfl rfl) ?_
        refine wd_take (i := 11) [] rfl rfl rfl rfl rfl (by kernel_rfl) (by kernel_rfl) (fun _ _ _ _ h => h) (yh_move rfl rfl) ?_
        refine wd_take (i := 12) [] rfl rfl rfl rfl rfl (by kernel_rfl) (by kernel_rfl) (fun _ _ _ _ h => h) (yh_arI rfl rfl rfl rfl (by omega)) ?_
        obtain ⟨y23, zy23, h⟩ := bd h
        obtain ⟨iy23, hy23⟩ := geti_some zy23
        obtain ⟨a23, e23, hc23, hf23⟩ := get_flow h_list_ hy23
        have mx23 := rd_max hf23
        refine wd_take (i := 13) [] rfl rfl rfl rfl rfl (by kernel_rfl) (by kernel_rfl) (fun _ _ _ _ h => h) (yh_idx Tb (k := (((s3 : Nat) : Int) - 1).toNat) rfl rfl rfl iy23 (get_lt hy23) rfl rfl) ?_
        refine wd_take (i := 14) [] rfl rfl rfl rfl rfl (by kernel_rfl) (by kernel_rfl) (fun _ _ _ _ h => h) (yh_field Tb rfl rfl rfl) ?_
        refine wd_take (i := 15) [] rfl rfl rfl rfl rfl (by kernel_rfl) (by kernel_rfl) (fun _ _ _ _ h => h) (yh_loadAF Tb (j := 0) rfl rfl rfl hc23 rfl) ?_
        refine wd_take (i := 16) [] rfl rfl rfl rfl rfl (by kernel_rfl) (by kernel_rfl) (fun _ _ _ _ h => h) (yh_move rfl rfl) ?_
        refine wd_take (i := 17) [] rfl rfl rfl rfl rfl (by kernel_rfl) (by kernel_rfl) (fun _ _ _ _ h => h) (yh_move rfl rfl) ?_
        refine wd_take (i := 18) [] rfl rfl rfl rfl rfl (by kernel_rfl) (by kernel_rfl) (fun _ _ _ _ h => h) (yh_idx Tb (k := s3) rfl rfl rfl rfl (get_lt hy12) rfl rfl) ?_
        refine wd_take (i := 19) [] rfl rfl rfl rfl rfl (by kernel_rfl) (by kernel_rfl) (fun _ _ _ _ h => h) (yh_field Tb rfl rfl rfl) ?_
        refine wd_take (i := 20) [] rfl rfl rfl rfl rfl (by kernel_rfl) (by kernel_rfl) (fun _ _ _ _ h => h) (yh_loadAF Tb (j := 0) rfl rfl rfl hc12 rfl) ?_
        refine wd_take (i := 21) [] rfl rfl rfl rfl rfl (by kernel_rfl) (by kernel_rfl) (fun _ _ _ _ h => h) (yh_cmpI rfl rfl rfl rfl) ?_
        refine wd_take (i := 22) [] rfl rfl rfl rfl rfl (by kernel_rfl) (by kernel_rfl) (fun _ _ _ _ h => h) (yh_pickT rfl rfl rfl) ?_
        refine wd_take (i := 23) [] rfl rfl rfl rfl rfl (by kernel_rfl) (by kernel_rfl) (fun _ _ _ _ h => h) (yh_pickF rfl rfl rfl) ?_
        refine wd_done (by kernel_rfl) ?_
        refine ex_seq ?_
        refine cw_split rfl (fun c4 => ?_) (fun c4 => ?_)
        · skip
          replace h := bt c4 h
          have q3 := leb_true.1 c4
          refine cw_seq ?_
          refine cw_region ?_
          refine wl_u rfl (ow_y (yh_assign rfl rfl) rfl rfl (kk_wl ?_))
          refine wl_nil ?_
          refine ex_seq ?_
          refine cw_ret ?_
          refine ex_block_ret ?_
          refine ex_then_ret ?_
          refine ex_then_ret ?_
          refine ex_block_ret ?_
          refine ex_then_ret ?_
          obtain rfl := Option.some.inj h
          obtain rfl := go_ret hk5
          exact ex_r1 Tb rfl (.tmp rfl) (fun wq hq => ⟨_, rfl, hq.ext, rfl⟩)
        · skip
          replace h := bf c4 h
          have q4 := leb_false.1 c4
          refine cw_skip ?_
          refine ex_block_normal ?_
          refine ex_seq ?_
          refine cw_region ?_
          refine wl_u rfl (ow_y (yh_move rfl rfl) rfl rfl (kk_wl ?_))
          refine wl_u rfl (ow_y (yh_arI rfl rfl rfl rfl (by omega)) rfl rfl (kk_wl ?_))
          refine wl_u rfl (ow_y (yh_assign rfl rfl) rfl rfl (kk_wl ?_))
          refine wl_nil ?_
          exact ex_next [] (hn5 (n5, s3 + 1) (Nat.lt_succ_self _) h) ⟨rfl, rfl, trivial⟩ (by kernel_rfl)
      · skip
        replace h := bf c3 h
        have q5 := ltb_false.1 c3
        refine wd_skip (i := 10) [] rfl rfl rfl rfl (by kernel_rfl) (by kernel_rfl) (fun _ _ _ h => h) ?_
        refine wd_skip (i := 11) [] rfl rfl rfl rfl (by kernel_rfl) (by kernel_rfl) (fun _ _ _ h => h) ?_
        refine wd_skip (i := 12) [] rfl rfl rfl rfl (by kernel_rfl) (by kernel_rfl) (fun _ _ _ h => h) ?_
        refine wd_skip (i := 13) [] rfl rfl rfl rfl (by kernel_rfl) (by kernel_rfl) (fun _ _ _ h => h) ?_
        refine wd_skip (i := 14) [] rfl rfl rfl rfl (by kernel_rfl) (by kernel_rfl) (fun _ _ _ h => h) ?_
        refine wd_skip (i := 15) [] rfl rfl rfl rfl (by kernel_rfl) (by kernel_rfl) (fun _ _ _ h => h) ?_
        refine wd_skip (i := 16) [] rfl rfl rfl rfl (by kernel_rfl) (by kernel_rfl) (fun _ _ _ h => h) ?_
        refine wd_skip (i := 17) [] rfl rfl rfl rfl (by kernel_rfl) (by kernel_rfl) (fun _ _ _ h => h) ?_
        refine wd_skip (i := 18) [] rfl rfl rfl rfl (by kernel_rfl) (by kernel_rfl) (fun _ _ _ h => h) ?_
        refine wd_skip (i := 19) [] rfl rfl rfl rfl (by kernel_rfl) (by kernel_rfl) (fun _ _ _ h => h) ?_
        refine wd_skip (i := 20) [] rfl rfl rfl rfl (by kernel_rfl) (by kernel_rfl) (fun _ _ _ h => h) ?_
        refine wd_skip (i := 21) [] rfl rfl rfl rfl (by kernel_rfl) (by kernel_rfl) (fun _ _ _ h => h) ?_
        refine wd_take (i := 22) [] rfl rfl rfl rfl rfl (by kernel_rfl) (by kernel_rfl) (fun _ _ _ _ h => h) (yh_pickF rfl rfl rfl) ?_
        refine wd_take (i := 23) [] rfl rfl rfl rfl rfl (by kernel_rfl) (by kernel_rfl) (fun _ _ _ _ h => h) (yh_pickF rfl rfl rfl) ?_
        refine wd_done (by kernel_rfl) ?_
        refine ex_seq ?_
        refine cw_false rfl ?_
        refine cw_skip ?_
        refine ex_block_normal ?_
        refine ex_seq ?_
        refine cw_region ?_
        refine wl_u rfl (ow_y (yh_move rfl rfl) rfl rfl (kk_wl ?_))
        refine wl_u rfl (ow_y (yh_arI rfl rfl rfl rfl (by omega)) rfl rfl (kk_wl ?_))
        refine wl_u rfl (ow_y (yh_assign rfl rfl) rfl rfl (kk_wl ?_))
        refine wl_nil ?_
        exact ex_next [] (hn5 (n5, s3 + 1) (Nat.lt_succ_self _) h) ⟨rfl, rfl, trivial⟩ (by kernel_rfl)
  · skip
    replace h := bf c1 h
    have q6 := ltb_false.1 c1
    refine cw_exit ?_
    refine ex_then_exit ?_
    refine ex_then_exit ?_
    obtain rfl := Option.some.inj h
    have h := go_brk hk5
    refine ex_block_exit ?_
    refine ex_seq ?_
    refine cw_seq ?_
    refine cw_region ?_
    refine wl_u rfl (ow_y (yh_move rfl rfl) rfl rfl (kk_wl ?_))
    refine wl_u rfl (ow_y (yh_lenS Tb rfl rfl rfl rfl) rfl rfl (kk_wl ?_))
    refine wl_u rfl (ow_y (yh_cmpI rfl rfl rfl rfl) rfl rfl (kk_wl ?_))
    refine wl_u rfl (ow_y (yh_assign rfl rfl) rfl rfl (kk_wl ?_))
    refine wl_nil ?_
    refine ex_seq ?_
    refine cw_ret ?_
    obtain rfl := Option.some.inj h
    exact ex_r1 Tb rfl (.tmp rfl) (fun wq hq => ⟨_, rfl, hq.ext, rfl⟩)

def m_spec_l2Step (N : Nat) (s_ : Step) : Option (Step) := (appd ([] : List Str) s_.after).bind fun l6 => some (Step.mk s_.name (([] : List Str) ++ s_.after) s_.undo)

set_option maxHeartbeats 4000000 in
theorem c_spec_l2Step (N : Nat) (s_ : Step) (res : Step) (h : m_spec_l2Step N s_ = some res) (w : World) {a_s__after : Option Addr} {c_s__after : Nat} (h_s__after : strsL.rd w [] [.slice a_s__after s_.after.length c_s__after] s_.after) : Ret Try.prog 110 [.agg #[.string s_.name, .slice a_s__after s_.after.length c_s__after, .bool s_.undo]] w [] fun v w' => ∃ a1 c1 F1, v = .agg #[.string res.name, .slice a1 res.after.length c1, .bool res.undo] ∧ NewC w w' [owC strsL F1 [.slice a1 res.after.length c1] res.after] := by
  have mh_s__after := rd_max h_s__after
  unfold m_spec_l2Step at h
  refine ret_enter Try.func110 rfl Try.ntmps110 rfl (Hp.refl w _) ?_
  refine cw_seq ?_
  refine cw_region ?_
  refine wl_u rfl (ow_boxA rfl rfl rfl rfl (fun g1 => kk_wl ?_))
  refine wl_u rfl (ow_allocA Tb rfl rfl rfl rfl (fun g2 => kk_wl ?_))
  refine wl_nil ?_
  refine ex_seq ?_
  refine cw_seq ?_
  refine cw_region ?_
  refine wl_u rfl (ow_lit0 Tb rfl rfl rfl rfl rfl rfl (fun g3 => kk_chg (c' := owC strsL [g3] [.slice (some ⟨g3, 0, none⟩) 0 0] ([] : List Str)) 0 rfl (fun w hA => own_strsL ([] : List Str) hA rfl (by simp [maxLen])) rfl (kk_wl ?_)))
  refine wl_u rfl (ow_y (yh_field Tb rfl rfl rfl) rfl rfl (kk_wl ?_))
  refine wl_u rfl (ow_y (yh_loadB Tb (k := 2) rfl rfl rfl rfl rfl) rfl rfl (kk_wl ?_))
  obtain ⟨hll6, h⟩ := bd_appd h
  refine wl_u rfl (ow_appP Tb (i := 0) rfl rfl rfl rfl rfl (fun w hw => Lay.at_ h_s__after hw) rfl rfl rfl rfl hll6 (by decide) rfl rfl (fun a6 c6 F6 => kk_wl ?_))
  refine wl_u rfl (ow_y (yh_field Tb rfl rfl rfl) rfl rfl (kk_wl ?_))
  refine wl_u rfl (ow_store1 Tb (k := 2) rfl rfl rfl rfl rfl rfl rfl rfl rfl (kk_wl ?_))
  refine wl_nil ?_
  refine ex_seq ?_
  refine cw_seq ?_
  refine cw_region ?_
  refine wl_u rfl (ow_y (yh_loadBA Tb (k := 0) rfl rfl rfl rfl rfl rfl) rfl rfl (kk_wl ?_))
  refine wl_u rfl (ow_storeA Tb (k := 2) rfl rfl rfl rfl rfl rfl rfl rfl rfl (kk_wl ?_))
  refine wl_nil ?_
  refine ex_seq ?_
  refine cw_ret ?_
  obtain rfl := Option.some.inj h
  exact ex_r1 Tb rfl (.cellA 0 rfl rfl rfl rfl rfl) (fun wq hq => ⟨_, rfl, hq.ext, ⟨a6, c6, F6, rfl, NewC.sel [2] hq rfl⟩⟩)

def m_spec_l2Copy_L6 (N : Nat) (f : Flow) : Nat → (List Step) → Nat → Option (Ex (List Step × Nat) (Flow))
  | 0, _, _ => none
  | n + 1, s3_c_1, s4 => (bif ltb ((s4 : Nat) : Int) ((f.steps.length : Nat) : Int) then (f.steps[s4]?).bind fun y21 => (m_spec_l2Step N y21).bind fun x23 => (appd s3_c_1 [x23]).bind fun l25 => m_spec_l2Copy_L6 N f n (s3_c_1 ++ [x23]) (s4 + 1)
 else some (Ex.brk (s3_c_1, s4)))

def m_spec_l2Copy (N : Nat) (f : Flow) : Option (Flow) := (m_spec_l2Copy_L6 N f N ([] : List Step) 0).bind fun e6 => e6.go (fun r => r) fun b6 => some (Flow.mk f.ver b6.1)

set_option maxHeartbeats 4000000 in
theorem c_spec_l2Copy (N : Nat) (f : Flow) (res : Flow) (h : m_spec_l2Copy N f = some res) (w : World) {a_f_steps : Option Addr} {c_f_steps : Nat} (h_f_steps : stepsL.rd w [] [.slice a_f_steps f.steps.length c_f_steps] f.steps) : Ret Try.prog 66 [.agg #[.int .i64 f.ver, .slice a_f_steps f.steps.length c_f_steps]] w [] fun v w' => ∃ a1 c1 F1, v = .agg #[.int .i64 res.ver, .slice a1 res.steps.length c1] ∧ NewC w w' [owC stepsL F1 [.slice a1 res.steps.length c1] res.steps] := by
  have mh_f_steps := rd_max h_f_steps
  unfold m_spec_l2Copy at h
  refine ret_enter Try.func66 rfl Try.ntmps66 rfl (Hp.refl w _) ?_
  refine cw_seq ?_
  refine cw_region ?_
  refine wl_u rfl (ow_boxA rfl rfl rfl rfl (fun g1 => kk_wl ?_))
  refine wl_u rfl (ow_allocA Tb rfl rfl rfl rfl (fun g2 => kk_wl ?_))
  refine wl_nil ?_
  refine ex_seq ?_
  refine cw_seq ?_
  refine cw_region ?_
  refine wl_u rfl (ow_y (yh_field Tb rfl rfl rfl) rfl rfl (kk_wl ?_))
  refine wl_u rfl (ow_y (yh_loadB Tb (k := 1) rfl rfl rfl rfl rfl) rfl rfl (kk_wl ?_))
  refine wl_u rfl (ow_lit0 Tb rfl rfl rfl rfl rfl rfl (fun g7 => kk_chg (c' := owC stepsL [g7] [.slice (some ⟨g7, 0, none⟩) 0 0] ([] : List Step)) 0 rfl (fun w hA => own_stepsL ([] : List Step) hA rfl (by simp [maxLen])) rfl (kk_wl ?_)))
  refine wl_u rfl (ow_y (yh_buildA rfl rfl (by kernel_rfl)) rfl rfl (kk_wl ?_))
  refine wl_u rfl (ow_allocA Tb rfl rfl rfl rfl (fun g3 => kk_wl ?_))
  refine wl_u rfl (ow_storeA Tb (k := 0) rfl rfl rfl rfl rfl rfl rfl rfl rfl (kk_wl ?_))
  refine wl_nil ?_
  refine ex_seq ?_
  refine cw_seq ?_
  refine cw_seq ?_
  refine cw_region ?_
  refine wl_u rfl (ow_y (yh_assign rfl rfl) rfl rfl (kk_wl ?_))
  refine wl_nil ?_
  refine ex_seq ?_
  refine cw_block ?_
  obtain ⟨e6, he6, hk6⟩ := bd h
  clear h
  refine cw_loopG (σ := Nat × (List Step) × Nat × (Option Addr) × Nat × (List Nat)) (fun s => m_spec_l2Copy_L6 N f s.1 s.2.1 s.2.2.1 = some e6) (fun s => [(1, .pointer (some ⟨g1, 0, none⟩)), (2, .pointer (some ⟨g2, 0, none⟩)), (3, .pointer (some ⟨g3, 0, none⟩)), (4, .int .i64 ((s.2.2.1 : Nat) : Int))]) (fun s => [blkC g1 26 [.int .i64 f.ver, .slice a_f_steps f.steps.length c_f_steps], blkC g2 26 [.int .i64 0, .slice none 0 0], blkC g3 26 [.int .i64 f.ver, .slice s.2.2.2.1 s.2.1.length s.2.2.2.2.1], owC stepsL s.2.2.2.2.2 [.slice s.2.2.2.1 s.2.1.length s.2.2.2.2.1] s.2.1]) (fun s => s.1) (N, ([] : List Step), 0, (some ⟨g7, 0, none⟩), 0, [g7]) [3, 2, 0, 1] he6 ⟨rfl, rfl, rfl, rfl, trivial⟩ rfl (fun KL s he6 hn6 => ?_)
  obtain ⟨n6, s3_c_1, s4, as3_c_1, cs3_c_1, Fs3_c_1⟩ := s
  simp only at he6 hn6 ⊢
  rcases n6 with _ | n6
  · exact nosome he6
  have h := he6; rw [m_spec_l2Copy_L6] at h
  refine cw_seq ?_
  refine cw_seq ?_
  refine cw_region ?_
  refine wl_u rfl (ow_y (yh_move rfl rfl) rfl rfl (kk_wl ?_))
  refine wl_u rfl (ow_y (yh_field Tb rfl rfl rfl) rfl rfl (kk_wl ?_))
  refine wl_u rfl (ow_y (yh_loadB Tb (k := 0) rfl rfl rfl rfl rfl) rfl rfl (kk_wl ?_))
  refine wl_u rfl (ow_y (yh_lenS Tb rfl rfl rfl rfl) rfl rfl (kk_wl ?_))
  refine wl_u rfl (ow_y (yh_cmpI rfl rfl rfl rfl) rfl rfl (kk_wl ?_))
  refine wl_nil ?_
  refine ex_seq ?_
  refine cw_split rfl (fun c1 => ?_) (fun c1 => ?_)
  · skip
    replace h := bt c1 h
    have q1 := ltb_true.1 c1
    refine cw_skip ?_
    refine ex_seq ?_
    refine cw_seq ?_
    refine cw_block ?_
    refine cw_dr [0, 1, 2, 3, 4, 5, 6] [9, 10, 11] [blkC g1 26 [.int .i64 f.ver, .slice a_f_steps f.steps.length c_f_steps], blkC g2 26 [.int .i64 0, .slice none 0 0], blkC g3 26 [.int .i64 f.ver, .slice as3_c_1 s3_c_1.length cs3_c_1], owC stepsL Fs3_c_1 [.slice as3_c_1 s3_c_1.length cs3_c_1] s3_c_1] (by kernel_rfl) ?_
    refine wd_take (i := 0) [0, 1, 2, 3] rfl rfl rfl rfl rfl (by kernel_rfl) (by kernel_rfl) (fun _ _ _ _ h => h) (yh_field Tb rfl rfl rfl) ?_
    refine wd_take (i := 1) [0, 1, 2, 3] rfl rfl rfl rfl rfl (by kernel_rfl) (by kernel_rfl) (fun _ _ _ _ h => h) (yh_loadB Tb (k := 2) rfl rfl rfl rfl rfl) ?_
    refine wd_take (i := 2) [0, 1, 2, 3] rfl rfl rfl rfl rfl (by kernel_rfl) (by kernel_rfl) (fun _ _ _ _ h => h) (yh_field Tb rfl rfl rfl) ?_
    refine wd_take (i := 3) [0, 1, 2, 3] rfl rfl rfl rfl rfl (by kernel_rfl) (by kernel_rfl) (fun _ _ _ _ h => h) (yh_loadB Tb (k := 0) rfl rfl rfl rfl rfl) ?_
    refine wd_take (i := 4) [0, 1, 2, 3] rfl rfl rfl rfl rfl (by kernel_rfl) (by kernel_rfl) (fun _ _ _ _ h => h) (yh_move rfl rfl) ?_
    obtain ⟨y21, hy21, h⟩ := bd h
    obtain ⟨b21, o21, ha21⟩ := sl_addr h_f_steps hy21
    subst ha21
    obtain ⟨a21, e21, hc21, hf21⟩ := get_step h_f_steps hy21
    have mx21 := rd_max hf21
    refine wd_take (i := 5) [0, 1, 2, 3] rfl rfl rfl rfl rfl (by kernel_rfl) (by kernel_rfl) (fun _ _ _ _ h => h) (yh_idx Tb (k := s4) rfl rfl rfl rfl (get_lt hy21) rfl rfl) ?_
    refine wd_take (i := 6) [0, 1, 2, 3] rfl rfl rfl rfl rfl (by kernel_rfl) (by kernel_rfl) (fun _ _ _ _ h => h) (yh_loadAN Tb rfl rfl rfl rfl hc21 rfl) ?_
    obtain ⟨x23, hx23, h⟩ := bd h
    refine wd_one 7 rfl rfl (by kernel_rfl) (ow_cN1 rfl hb110 rfl (fun w hw => c_spec_l2Step N _ _ hx23 w (Lay.at_ hf21 hw)) rfl rfl (fun a23 c23 F23 => kk_wd [1, 2, 3, 4] (by kernel_rfl) ?_))
    refine wd_one 8 rfl rfl (by kernel_rfl) (ow_litA Tb rfl rfl rfl rfl rfl rfl (by decide) rfl rfl (fun g24 => kk_wd [2, 3, 4, 5] (by kernel_rfl) ?_))
    obtain ⟨hll25, h⟩ := bd_appd h
    refine wd_one 9 rfl rfl (by kernel_rfl) (ow_chg (c' := owC stepL F23 [.string x23.name, .slice a23 x23.after.length c23, .bool x23.undo] x23) 1 rfl (fun w hA => stepL_mk x23 hA) rfl (ow_appE Tb (i := 5) (j := 0) (k := 1) rfl rfl rfl rfl rfl rfl rfl rfl rfl rfl rfl (app1 hll25) (by decide) rfl rfl (fun a25 c25 F25 => kk_wdT rfl ?_)))
    refine wd_one 10 rfl rfl (by kernel_rfl) (ow_y (yh_field Tb rfl rfl rfl) rfl rfl (kk_wdT rfl ?_))
    refine wd_one 11 rfl rfl (by kernel_rfl) (ow_store1 Tb (k := 4) rfl rfl rfl rfl rfl rfl rfl rfl rfl (kk_wdT rfl ?_))
    refine wd_done (by kernel_rfl) ?_
    refine ex_block_normal ?_
    refine ex_seq ?_
    refine cw_region ?_
    refine wl_u rfl (ow_y (yh_move rfl rfl) rfl rfl (kk_wl ?_))
    refine wl_u rfl (ow_y (yh_arI rfl rfl rfl rfl (by omega)) rfl rfl (kk_wl ?_))
    refine wl_u rfl (ow_y (yh_assign rfl rfl) rfl rfl (kk_wl ?_))
    refine wl_nil ?_
    exact ex_next [3, 4, 0, 1] (hn6 (n6, (s3_c_1 ++ [x23]), s4 + 1, a25, c25, F25) (Nat.lt_succ_self _) h) ⟨rfl, rfl, rfl, rfl, trivial⟩ (by kernel_rfl)
  · skip
    replace h := bf c1 h
    have q2 := ltb_false.1 c1
    refine cw_exit ?_
    refine ex_then_exit ?_
    refine ex_then_exit ?_
    obtain rfl := Option.some.inj h
    have h := go_brk hk6
    refine ex_block_exit ?_
    refine ex_seq ?_
    refine cw_seq ?_
    refine cw_region ?_
    refine wl_u rfl (ow_y (yh_loadBA Tb (k := 2) rfl rfl rfl rfl rfl rfl) rfl rfl (kk_wl ?_))
    refine wl_u rfl (ow_storeA Tb (k := 1) rfl rfl rfl rfl rfl rfl rfl rfl rfl (kk_wl ?_))
    refine wl_nil ?_
    refine ex_seq ?_
    refine cw_ret ?_
    obtain rfl := Option.some.inj h
    exact ex_r1 Tb rfl (.cellA 0 rfl rfl rfl rfl rfl) (fun wq hq => ⟨_, rfl, hq.ext, ⟨as3_c_1, cs3_c_1, Fs3_c_1, rfl, NewC.sel [3] hq rfl⟩⟩)

def m_spec_RegistryFind (N : Nat) (list_ : List Flow) (version : Int) : Option (Flow × Bool) := (m_spec_l14At N list_ version).bind fun x9 => (m_spec_RegistryValid N list_).bind fun x11 => (bif !x11 then some ((Flow.mk 0 []), false)
 else (bif ltb x9 0 then some ((Flow.mk 0 []), false)
 else (geti list_ x9).bind fun y20 => (m_spec_l2Copy N y20).bind fun x22 => some (x22, true)))

set_option maxHeartbeats 4000000 in
theorem c_spec_RegistryFind (N : Nat) (list_ : List Flow) (version : Int) (res : Flow × Bool) (h : m_spec_RegistryFind N list_ version = some res) (w : World) {a_list_ : Option Addr} {c_list_ : Nat} (h_list_ : flowsL.rd w [] [.slice a_list_ list_.length c_list_] list_) : Ret Try.prog 30 [.slice a_list_ list_.length c_list_, .int .i64 version] w [] fun v w' => ∃ a1 c1 F1, v = .tuple #[.agg #[.int .i64 res.1.ver, .slice a1 res.1.steps.length c1], .bool res.2] ∧ NewC w w' [owC stepsL F1 [.slice a1 res.1.steps.length c1] res.1.steps] := by
  have mh_list_ := rd_max h_list_
  unfold m_spec_RegistryFind at h
  refine ret_enter Try.func30 rfl Try.ntmps30 rfl (Hp.refl w _) ?_
  refine cw_seq ?_
  refine cw_region ?_
  refine wl_u rfl (ow_allocA Tb rfl rfl rfl rfl (fun g4 => kk_wl ?_))
  refine wl_u rfl (ow_y (yh_assign rfl rfl) rfl rfl (kk_wl ?_))
  refine wl_nil ?_
  refine ex_seq ?_
  refine cw_seq ?_
  refine cw_region ?_
  refine wl_u rfl (ow_y (yh_move rfl rfl) rfl rfl (kk_wl ?_))
  refine wl_u rfl (ow_y (yh_move rfl rfl) rfl rfl (kk_wl ?_))
  obtain ⟨x9, hx9, h⟩ := bd h
  refine wl_u rfl (ow_cV rfl hb75 rfl (fun w hw => c_spec_l14At N _ _ _ hx9 w (Lay.at_ h_list_ hw)) rfl rfl (kk_wl ?_))
  refine wl_u rfl (ow_y (yh_assign rfl rfl) rfl rfl (kk_wl ?_))
  refine wl_nil ?_
  refine ex_seq ?_
  refine cw_seq ?_
  refine cw_seq ?_
  refine cw_region ?_
  refine wl_u rfl (ow_y (yh_move rfl rfl) rfl rfl (kk_wl ?_))
  obtain ⟨x11, hx11, h⟩ := bd h
  refine wl_u rfl (ow_cV rfl hb65 rfl (fun w hw => c_spec_RegistryValid N _ _ hx11 w (Lay.at_ h_list_ hw)) rfl rfl (kk_wl ?_))
  refine wl_u rfl (ow_y (yh_not rfl rfl) rfl rfl (kk_wl ?_))
  refine wl_u rfl (ow_y (yh_move rfl rfl) rfl rfl (kk_wl ?_))
  refine wl_s rfl rfl (fun c1 => ?_) (fun c1 => ?_)
  · skip
    replace h := bt c1 h
    refine wl_n rfl rfl rfl rfl ?_
    refine wl_n rfl rfl rfl rfl ?_
    refine wl_u rfl (ow_y (yh_pickT rfl rfl rfl) rfl rfl (kk_wl ?_))
    refine wl_nil ?_
    refine ex_seq ?_
    refine cw_true rfl ?_
    refine cw_seq ?_
    refine cw_region ?_
    refine wl_u rfl (ow_y (yh_build [.int .i64 0, .slice none 0 0] rfl rfl (by kernel_rfl)) rfl rfl (kk_wl ?_))
    refine wl_u rfl (ow_storeA Tb (k := 0) rfl rfl rfl rfl rfl rfl rfl rfl rfl (kk_wl ?_))
    refine wl_u rfl (ow_y (yh_assign rfl rfl) rfl rfl (kk_wl ?_))
    refine wl_nil ?_
    refine ex_seq ?_
    refine cw_ret ?_
    refine ex_then_ret ?_
    refine ex_nilS stepsL rfl ?_
    obtain rfl := Option.some.inj h
    exact ex_r2 Tb rfl (.cellA 1 rfl rfl rfl rfl rfl) (.tmp rfl) (fun wq hq => ⟨_, rfl, hq.ext, ⟨none, 0, [], rfl, NewC.sel [0] hq rfl⟩⟩)
  · skip
    replace h := bf c1 h
    refine wl_g rfl rfl (ow_y (yh_move rfl rfl) rfl rfl (kk_wl ?_))
    refine wl_g rfl rfl (ow_y (yh_cmpI rfl rfl rfl rfl) rfl rfl (kk_wl ?_))
    refine wl_u rfl (ow_y (yh_pickF rfl rfl rfl) rfl rfl (kk_wl ?_))
    refine wl_nil ?_
    refine ex_seq ?_
    refine cw_split rfl (fun c2 => ?_) (fun c2 => ?_)
    · skip
      replace h := bt c2 h
      have q1 := ltb_true.1 c2
      refine cw_seq ?_
      refine cw_region ?_
      refine wl_u rfl (ow_y (yh_build [.int .i64 0, .slice none 0 0] rfl rfl (by kernel_rfl)) rfl rfl (kk_wl ?_))
      refine wl_u rfl (ow_storeA Tb (k := 0) rfl rfl rfl rfl rfl rfl rfl rfl rfl (kk_wl ?_))
      refine wl_u rfl (ow_y (yh_assign rfl rfl) rfl rfl (kk_wl ?_))
      refine wl_nil ?_
      refine ex_seq ?_
      refine cw_ret ?_
      refine ex_then_ret ?_
      refine ex_nilS stepsL rfl ?_
      obtain rfl := Option.some.inj h
      exact ex_r2 Tb rfl (.cellA 1 rfl rfl rfl rfl rfl) (.tmp rfl) (fun wq hq => ⟨_, rfl, hq.ext, ⟨none, 0, [], rfl, NewC.sel [0] hq rfl⟩⟩)
    · skip
      replace h := bf c2 h
      have q2 := ltb_false.1 c2
      refine cw_skip ?_
      refine ex_seq ?_
      refine cw_seq ?_
      refine cw_region ?_
      refine wl_u rfl (ow_y (yh_move rfl rfl) rfl rfl (kk_wl ?_))
      refine wl_u rfl (ow_y (yh_move rfl rfl) rfl rfl (kk_wl ?_))
      obtain ⟨y20, zy20, h⟩ := bd h
      obtain ⟨iy20, hy20⟩ := geti_some zy20
      obtain ⟨b20, o20, ha20⟩ := sl_addr h_list_ hy20
      subst ha20
      obtain ⟨a20, e20, hc20, hf20⟩ := get_flow h_list_ hy20
      have mx20 := rd_max hf20
      refine wl_u rfl (ow_y (yh_idx Tb (k := x9.toNat) rfl rfl rfl iy20 (get_lt hy20) rfl rfl) rfl rfl (kk_wl ?_))
      refine wl_u rfl (ow_y (yh_loadAN Tb rfl rfl rfl rfl hc20 rfl) rfl rfl (kk_wl ?_))
      obtain ⟨x22, hx22, h⟩ := bd h
      refine wl_u rfl (ow_cN1 rfl hb66 rfl (fun w hw => c_spec_l2Copy N _ _ hx22 w (Lay.at_ hf20 hw)) rfl rfl (fun a22 c22 F22 => kk_wl ?_))
      refine wl_u rfl (ow_storeA Tb (k := 1) rfl rfl rfl rfl rfl rfl rfl rfl rfl (kk_wl ?_))
      refine wl_u rfl (ow_y (yh_assign rfl rfl) rfl rfl (kk_wl ?_))
      refine wl_nil ?_
      refine ex_seq ?_
      refine cw_ret ?_
      obtain rfl := Option.some.inj h
      exact ex_r2 Tb rfl (.cellA 0 rfl rfl rfl rfl rfl) (.tmp rfl) (fun wq hq => ⟨_, rfl, hq.ext, ⟨a22, c22, F22, rfl, NewC.sel [1] hq rfl⟩⟩)

def m_impl_RegistryValid_L5 (N : Nat) (list_ : List Flow) : Nat → Nat → Option (Ex (Nat) (Bool))
  | 0, _ => none
  | n + 1, s7 => (bif ltb ((s7 : Nat) : Int) ((list_.length : Nat) : Int) then (list_[s7]?).bind fun y10 => (m_impl_FlowValid N y10).bind fun x13 => (bif !x13 then some (Ex.ret false)
 else (bif ltb 0 ((s7 : Nat) : Int) then (geti list_ (((s7 : Nat) : Int) - 1)).bind fun y24 => (bif leb y10.ver y24.ver then some (Ex.ret false)
 else m_impl_RegistryValid_L5 N list_ n (s7 + 1))
 else m_impl_RegistryValid_L5 N list_ n (s7 + 1)))
 else some (Ex.brk (s7)))

def m_impl_RegistryValid (N : Nat) (list_ : List Flow) : Option (Bool) := (m_impl_RegistryValid_L5 N list_ N 0).bind fun e5 => e5.go (fun r => r) fun b5 => some (leb ((list_.length : Nat) : Int) 4)

set_option maxHeartbeats 4000000 in
theorem c_impl_RegistryValid (N : Nat) (list_ : List Flow) (res : Bool) (h : m_impl_RegistryValid N list_ = some res) (w : World) {a_list_ : Option Addr} {c_list_ : Nat} (h_list_ : flowsL.rd w [] [.slice a_list_ list_.length c_list_] list_) : Ret Try.prog 19 [.slice a_list_ list_.length c_list_] w [] fun v w' => v = .bool res := by
  have mh_list_ := rd_max h_list_
  unfold m_impl_RegistryValid at h
  refine ret_enter Try.func19 rfl Try.ntmps19 rfl (Hp.refl w _) ?_
  refine cw_seq ?_
  refine cw_region ?_
  refine wl_u rfl (ow_y (yh_assign rfl rfl) rfl rfl (kk_wl ?_))
  refine wl_nil ?_
  refine ex_seq ?_
  refine cw_seq ?_
  refine cw_seq ?_
  refine cw_region ?_
  refine wl_u rfl (ow_y (yh_move rfl rfl) rfl rfl (kk_wl ?_))
  refine wl_u rfl (ow_y (yh_lenS Tb rfl rfl rfl rfl) rfl rfl (kk_wl ?_))
  refine wl_u rfl (ow_y (yh_move rfl rfl) rfl rfl (kk_wl ?_))
  refine wl_nil ?_
  refine ex_seq ?_
  refine cw_block ?_
  obtain ⟨e5, he5, hk5⟩ := bd h
  clear h
  refine cw_loopG (σ := Nat × Nat) (fun s => m_impl_RegistryValid_L5 N list_ s.1 s.2 = some e5) (fun s => [(0, .slice a_list_ list_.length c_list_), (5, .slice a_list_ list_.length c_list_), (6, .int .i64 ((list_.length : Nat) : Int)), (7, .int .i64 ((s.2 : Nat) : Int))]) (fun s => []) (fun s => s.1) (N, 0) [] he5 ⟨rfl, rfl, rfl, rfl, trivial⟩ rfl (fun KL s he5 hn5 => ?_)
  obtain ⟨n5, s7⟩ := s
  simp only at he5 hn5 ⊢
  rcases n5 with _ | n5
  · exact nosome he5
  have h := he5; rw [m_impl_RegistryValid_L5] at h
  refine cw_seq ?_
  refine cw_region ?_
  refine wl_u rfl (ow_y (yh_cmpI rfl rfl rfl rfl) rfl rfl (kk_wl ?_))
  refine wl_nil ?_
  refine ex_seq ?_
  refine cw_seq ?_
  refine cw_split rfl (fun c1 => ?_) (fun c1 => ?_)
  · skip
    replace h := bt c1 h
    have q1 := ltb_true.1 c1
    refine cw_skip ?_
    refine ex_seq ?_
    refine cw_seq ?_
    refine cw_block ?_
    refine cw_seq ?_
    refine cw_region ?_
    refine wl_u rfl (ow_y (yh_move rfl rfl) rfl rfl (kk_wl ?_))
    obtain ⟨y10, hy10, h⟩ := bd h
    obtain ⟨b10, o10, ha10⟩ := sl_addr h_list_ hy10
    subst ha10
    obtain ⟨a10, e10, hc10, hf10⟩ := get_flow h_list_ hy10
    have mx10 := rd_max hf10
    refine wl_u rfl (ow_y (yh_idx Tb (k := s7) rfl rfl rfl rfl (get_lt hy10) rfl rfl) rfl rfl (kk_wl ?_))
    refine wl_u rfl (ow_y (yh_loadAN Tb rfl rfl rfl rfl hc10 rfl) rfl rfl (kk_wl ?_))
    refine wl_u rfl (ow_allocA Tb rfl rfl rfl rfl (fun g4 => kk_wl ?_))
    refine wl_u rfl (ow_y (yh_assign rfl rfl) rfl rfl (kk_wl ?_))
    refine wl_u rfl (ow_storeA Tb (k := 0) rfl rfl rfl rfl rfl rfl rfl rfl rfl (kk_wl ?_))
    refine wl_nil ?_
    refine ex_seq ?_
    refine cw_seq ?_
    refine cw_dr [0, 2, 3, 4, 5, 6, 7, 8, 9, 10, 11, 12, 13, 14, 15, 16, 17] [] [blkC g4 26 [.int .i64 y10.ver, .slice a10 y10.steps.length e10]] (by kernel_rfl) ?_
    refine wd_take (i := 0) [0] rfl rfl rfl rfl rfl (by kernel_rfl) (by kernel_rfl) (fun _ _ _ _ h => h) (yh_loadBA Tb (k := 0) rfl rfl rfl rfl rfl rfl) ?_
    obtain ⟨x13, hx13, h⟩ := bd h
    refine wd_one 1 rfl rfl (by kernel_rfl) (ow_cV rfl hb62 rfl (fun w hw => c_impl_FlowValid N _ _ hx13 w (Lay.at_ hf10 hw)) rfl rfl (kk_wd [0] (by kernel_rfl) ?_))
    refine wd_take (i := 2) [0] rfl rfl rfl rfl rfl (by kernel_rfl) (by kernel_rfl) (fun _ _ _ _ h => h) (yh_not rfl rfl) ?_
    refine wd_take (i := 3) [0] rfl rfl rfl rfl rfl (by kernel_rfl) (by kernel_rfl) (fun _ _ _ _ h => h) (yh_move rfl rfl) ?_
    refine wd_split 4 rfl rfl rfl (fun c2 => ?_) (fun c2 => ?_)
    · skip
      replace h := bt c2 h
      refine wd_skip (i := 4) [0] rfl rfl rfl rfl (by kernel_rfl) (by kernel_rfl) (fun _ _ _ h => h) ?_
      refine wd_skip (i := 5) [0] rfl rfl rfl rfl (by kernel_rfl) (by kernel_rfl) (fun _ _ _ h => h) ?_
      refine wd_skip (i := 6) [0] rfl rfl rfl rfl (by kernel_rfl) (by kernel_rfl) (fun _ _ _ h => h) ?_
      refine wd_skip (i := 7) [0] rfl rfl rfl rfl (by kernel_rfl) (by kernel_rfl) (fun _ _ _ h => h) ?_
      refine wd_skip (i := 8) [0] rfl rfl rfl rfl (by kernel_rfl) (by kernel_rfl) (fun _ _ _ h => h) ?_
      refine wd_skip (i := 9) [0] rfl rfl rfl rfl (by kernel_rfl) (by kernel_rfl) (fun _ _ _ h => h) ?_
      refine wd_skip (i := 10) [0] rfl rfl rfl rfl (by kernel_rfl) (by kernel_rfl) (fun _ _ _ h => h) ?_
      refine wd_skip (i := 11) [0] rfl rfl rfl rfl (by kernel_rfl) (by kernel_rfl) (fun _ _ _ h => h) ?_
      refine wd_skip (i := 12) [0] rfl rfl rfl rfl (by kernel_rfl) (by kernel_rfl) (fun _ _ _ h => h) ?_
      refine wd_skip (i := 13) [0] rfl rfl rfl rfl (by kernel_rfl) (by kernel_rfl) (fun _ _ _ h => h) ?_
      refine wd_skip (i := 14) [0] rfl rfl rfl rfl (by kernel_rfl) (by kernel_rfl) (fun _ _ _ h => h) ?_
      refine wd_skip (i := 15) [0] rfl rfl rfl rfl (by kernel_rfl) (by kernel_rfl) (fun _ _ _ h => h) ?_
      refine wd_skip (i := 16) [0] rfl rfl rfl rfl (by kernel_rfl) (by kernel_rfl) (fun _ _ _ h => h) ?_
      refine wd_take (i := 17) [0] rfl rfl rfl rfl rfl (by kernel_rfl) (by kernel_rfl) (fun _ _ _ _ h => h) (yh_pickT rfl rfl rfl) ?_
      refine wd_done (by kernel_rfl) ?_
      refine ex_seq ?_
      refine cw_true rfl ?_
      refine cw_seq ?_
      refine cw_region ?_
      refine wl_u rfl (ow_y (yh_assign rfl rfl) rfl rfl (kk_wl ?_))
      refine wl_nil ?_
      refine ex_seq ?_
      refine cw_ret ?_
      refine ex_block_ret ?_
      refine ex_then_ret ?_
      refine ex_then_ret ?_
      refine ex_block_ret ?_
      refine ex_then_ret ?_
      obtain rfl := Option.some.inj h
      obtain rfl := go_ret hk5
      exact ex_r1 Tb rfl (.tmp rfl) (fun wq hq => ⟨_, rfl, hq.ext, rfl⟩)
    · skip
      replace h := bf c2 h
      refine wd_take (i := 4) [0] rfl rfl rfl rfl rfl (by kernel_rfl) (by kernel_rfl) (fun _ _ _ _ h => h) (yh_move rfl rfl) ?_
      refine wd_take (i := 5) [0] rfl rfl rfl rfl rfl (by kernel_rfl) (by kernel_rfl) (fun _ _ _ _ h => h) (yh_cmpI rfl rfl rfl rfl) ?_
      refine wd_take (i := 6) [0] rfl rfl rfl rfl rfl (by kernel_rfl) (by kernel_rfl) (fun _ _ _ _ h => h) (yh_move rfl rfl) ?_
      refine wd_split 7 rfl rfl rfl (fun c3 => ?_) (fun c3 => ?_)
      · skip
        replace h := bt c3 h
        have q2 := ltb_true.1 c3
        refine wd_take (i := 7) [0] rfl rfl rfl rfl rfl (by kernel_rfl) (by kernel_rfl) (fun _ _ _ _ h => h) (yh_field Tb rfl rfl rfl) ?_
        refine wd_take (i := 8) [0] rfl rfl rfl rfl rfl (by kernel_rfl) (by kernel_rfl) (fun _ _ _ _ h => h) (yh_loadB Tb (k := 0) rfl rfl rfl rfl rfl) ?_
        refine wd_take (i := 9) [0] rfl rfl rfl rfl rfl (by kernel_rfl) (by kernel_rfl) (fun _ _ _ _ h => h) (yh_move rfl rfl) ?_
        refine wd_take (i := 10) [0] rfl rfl rfl rfl rfl (by kernel_rfl) (by kernel_rfl) (fun _ _ _ _ h => h) (yh_move rfl rfl) ?_
        refine wd_take (i := 11) [0] rfl rfl rfl rfl rfl (by kernel_rfl) (by kernel_rfl) (fun _ _ _ _ h => h) (yh_arI rfl rfl rfl rfl (by omega)) ?_
        obtain ⟨y24, zy24, h⟩ := bd h
        obtain ⟨iy24, hy24⟩ := geti_some zy24
        obtain ⟨a24, e24, hc24, hf24⟩ := get_flow h_list_ hy24
        have mx24 := rd_max hf24
        refine wd_take (i := 12) [0] rfl rfl rfl rfl rfl (by kernel_rfl) (by kernel_rfl) (fun _ _ _ _ h => h) (yh_idx Tb (k := (((s7 : Nat) : Int) - 1).toNat) rfl rfl rfl iy24 (get_lt hy24) rfl rfl) ?_
        refine wd_take (i := 13) [0] rfl rfl rfl rfl rfl (by kernel_rfl) (by kernel_rfl) (fun _ _ _ _ h => h) (yh_field Tb rfl rfl rfl) ?_
        refine wd_take (i := 14) [0] rfl rfl rfl rfl rfl (by kernel_rfl) (by kernel_rfl) (fun _ _ _ _ h => h) (yh_loadAF Tb (j := 0) rfl rfl rfl hc24 rfl) ?_
        refine wd_take (i := 15) [0] rfl rfl rfl rfl rfl (by kernel_rfl) (by kernel_rfl) (fun _ _ _ _ h => h) (yh_cmpI rfl rfl rfl rfl) ?_
        refine wd_take (i := 16) [0] rfl rfl rfl rfl rfl (by kernel_rfl) (by kernel_rfl) (fun _ _ _ _ h => h) (yh_pickT rfl rfl rfl) ?_
        refine wd_take (i := 17) [0] rfl rfl rfl rfl rfl (by kernel_rfl) (by kernel_rfl) (fun _ _ _ _ h => h) (yh_pickF rfl rfl rfl) ?_
        refine wd_done (by kernel_rfl) ?_
        refine ex_seq ?_
        refine cw_split rfl (fun c4 => ?_) (fun c4 => ?_)
        · skip
          replace h := bt c4 h
          have q3 := leb_true.1 c4
          refine cw_seq ?_
          refine cw_region ?_
          refine wl_u rfl (ow_y (yh_assign rfl rfl) rfl rfl (kk_wl ?_))
          refine wl_nil ?_
          refine ex_seq ?_
          refine cw_ret ?_
          refine ex_block_ret ?_
          refine ex_then_ret ?_
          refine ex_then_ret ?_
          refine ex_block_ret ?_
          refine ex_then_ret ?_
          obtain rfl := Option.some.inj h
          obtain rfl := go_ret hk5
          exact ex_r1 Tb rfl (.tmp rfl) (fun wq hq => ⟨_, rfl, hq.ext, rfl⟩)
        · skip
          replace h := bf c4 h
          have q4 := leb_false.1 c4
          refine cw_skip ?_
          refine ex_block_normal ?_
          refine ex_seq ?_
          refine cw_region ?_
          refine wl_u rfl (ow_y (yh_arI rfl rfl rfl rfl (by omega)) rfl rfl (kk_wl ?_))
          refine wl_u rfl (ow_y (yh_move rfl rfl) rfl rfl (kk_wl ?_))
          refine wl_nil ?_
          exact ex_next [] (hn5 (n5, s7 + 1) (Nat.lt_succ_self _) h) ⟨rfl, rfl, rfl, rfl, trivial⟩ (by kernel_rfl)
      · skip
        replace h := bf c3 h
        have q5 := ltb_false.1 c3
        refine wd_skip (i := 7) [0] rfl rfl rfl rfl (by kernel_rfl) (by kernel_rfl) (fun _ _ _ h => h) ?_
        refine wd_skip (i := 8) [0] rfl rfl rfl rfl (by kernel_rfl) (by kernel_rfl) (fun _ _ _ h => h) ?_
        refine wd_skip (i := 9) [0] rfl rfl rfl rfl (by kernel_rfl) (by kernel_rfl) (fun _ _ _ h => h) ?_
        refine wd_skip (i := 10) [0] rfl rfl rfl rfl (by kernel_rfl) (by kernel_rfl) (fun _ _ _ h => h) ?_
        refine wd_skip (i := 11) [0] rfl rfl rfl rfl (by kernel_rfl) (by kernel_rfl) (fun _ _ _ h => h) ?_
        refine wd_skip (i := 12) [0] rfl rfl rfl rfl (by kernel_rfl) (by kernel_rfl) (fun _ _ _ h => h) ?_
        refine wd_skip (i := 13) [0] rfl rfl rfl rfl (by kernel_rfl) (by kernel_rfl) (fun _ _ _ h => h) ?_
        refine wd_skip (i := 14) [0] rfl rfl rfl rfl (by kernel_rfl) (by kernel_rfl) (fun _ _ _ h => h) ?_
        refine wd_skip (i := 15) [0] rfl rfl rfl rfl (by kernel_rfl) (by kernel_rfl) (fun _ _ _ h => h) ?_
        refine wd_take (i := 16) [0] rfl rfl rfl rfl rfl (by kernel_rfl) (by kernel_rfl) (fun _ _ _ _ h => h) (yh_pickF rfl rfl rfl) ?_
        refine wd_take (i := 17) [0] rfl rfl rfl rfl rfl (by kernel_rfl) (by kernel_rfl) (fun _ _ _ _ h => h) (yh_pickF rfl rfl rfl) ?_
        refine wd_done (by kernel_rfl) ?_
        refine ex_seq ?_
        refine cw_false rfl ?_
        refine cw_skip ?_
        refine ex_block_normal ?_
        refine ex_seq ?_
        refine cw_region ?_
        refine wl_u rfl (ow_y (yh_arI rfl rfl rfl rfl (by omega)) rfl rfl (kk_wl ?_))
        refine wl_u rfl (ow_y (yh_move rfl rfl) rfl rfl (kk_wl ?_))
        refine wl_nil ?_
        exact ex_next [] (hn5 (n5, s7 + 1) (Nat.lt_succ_self _) h) ⟨rfl, rfl, rfl, rfl, trivial⟩ (by kernel_rfl)
  · skip
    replace h := bf c1 h
    have q6 := ltb_false.1 c1
    refine cw_exit ?_
    refine ex_then_exit ?_
    refine ex_then_exit ?_
    obtain rfl := Option.some.inj h
    have h := go_brk hk5
    refine ex_block_exit ?_
    refine ex_seq ?_
    refine cw_seq ?_
    refine cw_region ?_
    refine wl_u rfl (ow_y (yh_move rfl rfl) rfl rfl (kk_wl ?_))
    refine wl_u rfl (ow_y (yh_lenS Tb rfl rfl rfl rfl) rfl rfl (kk_wl ?_))
    refine wl_u rfl (ow_y (yh_cmpI rfl rfl rfl rfl) rfl rfl (kk_wl ?_))
    refine wl_u rfl (ow_y (yh_assign rfl rfl) rfl rfl (kk_wl ?_))
    refine wl_nil ?_
    refine ex_seq ?_
    refine cw_ret ?_
    obtain rfl := Option.some.inj h
    exact ex_r1 Tb rfl (.tmp rfl) (fun wq hq => ⟨_, rfl, hq.ext, rfl⟩)

def m_impl_versionAt_f1 (N : Nat) (f : Flow) (version : Int) : Option (Bool) := some (eqb f.ver version)

set_option maxHeartbeats 4000000 in
theorem c_impl_versionAt_f1 (N : Nat) (f : Flow) (version : Int) (res : Bool) (h : m_impl_versionAt_f1 N f version = some res) (w : World) {a_f_steps : Option Addr} {c_f_steps : Nat} {g_version : Nat} (h_f_steps : stepsL.rd w [] [.slice a_f_steps f.steps.length c_f_steps] f.steps) (hg_version : CellN w [] g_version 0 [.int .i64 version]) : Ret Try.prog 113 [.agg #[.int .i64 f.ver, .slice a_f_steps f.steps.length c_f_steps], .pointer (some ⟨g_version, 0, none⟩)] w [] fun v w' => v = .bool res := by
  have mh_f_steps := rd_max h_f_steps
  unfold m_impl_versionAt_f1 at h
  refine ret_enter Try.func113 rfl Try.ntmps113 rfl (Hp.refl w _) ?_
  refine cw_seq ?_
  refine cw_region ?_
  refine wl_u rfl (ow_boxA rfl rfl rfl rfl (fun g2 => kk_wl ?_))
  refine wl_u rfl (ow_y (yh_assign rfl rfl) rfl rfl (kk_wl ?_))
  refine wl_nil ?_
  refine ex_seq ?_
  refine cw_seq ?_
  refine cw_region ?_
  refine wl_u rfl (ow_y (yh_field Tb rfl rfl rfl) rfl rfl (kk_wl ?_))
  refine wl_u rfl (ow_y (yh_loadB Tb (k := 0) rfl rfl rfl rfl rfl) rfl rfl (kk_wl ?_))
  refine wl_u rfl (ow_y (yh_loadA0 Tb rfl rfl rfl hg_version rfl) rfl rfl (kk_wl ?_))
  refine wl_u rfl (ow_y (yh_cmpI rfl rfl rfl rfl) rfl rfl (kk_wl ?_))
  refine wl_u rfl (ow_y (yh_assign rfl rfl) rfl rfl (kk_wl ?_))
  refine wl_nil ?_
  refine ex_seq ?_
  refine cw_ret ?_
  obtain rfl := Option.some.inj h
  exact ex_r1 Tb rfl (.tmp rfl) (fun wq hq => ⟨_, rfl, hq.ext, rfl⟩)

def m_slices_IndexFunc_Flow_L4 (N : Nat) (s_ : List Flow) (f : Flow → Option Bool) : Nat → Nat → Option (Ex (Nat) (Int))
  | 0, _ => none
  | n + 1, s8 => (bif ltb ((s8 : Nat) : Int) ((s_.length : Nat) : Int) then (s_[s8]?).bind fun y14 => (f y14).bind fun x16 => (bif x16 then some (Ex.ret ((s8 : Nat) : Int))
 else m_slices_IndexFunc_Flow_L4 N s_ f n (s8 + 1))
 else some (Ex.brk (s8)))

def m_slices_IndexFunc_Flow (N : Nat) (s_ : List Flow) (f : Flow → Option Bool) : Option (Int) := (m_slices_IndexFunc_Flow_L4 N s_ f N 0).bind fun e4 => e4.go (fun r => r) fun b4 => some (-1)

set_option maxHeartbeats 4000000 in
theorem c_slices_IndexFunc_Flow (N : Nat) (s_ : List Flow) (f : Flow → Option Bool) (res : Int) (h : m_slices_IndexFunc_Flow N s_ f = some res) (w : World) {a_s_ : Option Addr} {c_s_ : Nat} {k_f : FuncId} {caps_f : List Value} (h_s_ : flowsL.rd w [] [.slice a_s_ s_.length c_s_] s_) (hb_f : hasBody Try.prog k_f) (hf_f : ∀ x0 b, f x0 = some b → ∀ w', ExtM [] w w' → ∀ a1 c1, stepsL.rd w' [] [.slice a1 x0.steps.length c1] x0.steps → Ret Try.prog k_f ([.agg #[.int .i64 x0.ver, .slice a1 x0.steps.length c1]] ++ caps_f) w' [] fun v _ => v = .bool b) : Ret Try.prog 112 [.slice a_s_ s_.length c_s_, .func (.func k_f) #[] caps_f.toArray] w [] fun v w' => v = .int .i64 res := by
  have mh_s_ := rd_max h_s_
  unfold m_slices_IndexFunc_Flow at h
  refine ret_enter Try.func112 rfl Try.ntmps112 rfl (Hp.refl w _) ?_
  refine cw_seq ?_
  refine cw_region ?_
  refine wl_u rfl (ow_y (yh_assign rfl rfl) rfl rfl (kk_wl ?_))
  refine wl_nil ?_
  refine ex_seq ?_
  refine cw_seq ?_
  refine cw_seq ?_
  refine cw_region ?_
  refine wl_u rfl (ow_y (yh_move rfl rfl) rfl rfl (kk_wl ?_))
  refine wl_u rfl (ow_y (yh_lenS Tb rfl rfl rfl rfl) rfl rfl (kk_wl ?_))
  refine wl_u rfl (ow_y (yh_move rfl rfl) rfl rfl (kk_wl ?_))
  refine wl_nil ?_
  refine ex_seq ?_
  refine cw_block ?_
  obtain ⟨e4, he4, hk4⟩ := bd h
  clear h
  refine cw_loopG (σ := Nat × Nat) (fun s => m_slices_IndexFunc_Flow_L4 N s_ f s.1 s.2 = some e4) (fun s => [(0, .slice a_s_ s_.length c_s_), (1, .func (.func k_f) #[] caps_f.toArray), (7, .int .i64 ((s_.length : Nat) : Int)), (8, .int .i64 ((s.2 : Nat) : Int))]) (fun s => []) (fun s => s.1) (N, 0) [] he4 ⟨rfl, rfl, rfl, rfl, trivial⟩ rfl (fun KL s he4 hn4 => ?_)
  obtain ⟨n4, s8⟩ := s
  simp only at he4 hn4 ⊢
  rcases n4 with _ | n4
  · exact nosome he4
  have h := he4; rw [m_slices_IndexFunc_Flow_L4] at h
  refine cw_seq ?_
  refine cw_region ?_
  refine wl_u rfl (ow_y (yh_cmpI rfl rfl rfl rfl) rfl rfl (kk_wl ?_))
  refine wl_nil ?_
  refine ex_seq ?_
  refine cw_seq ?_
  refine cw_split rfl (fun c1 => ?_) (fun c1 => ?_)
  · skip
    replace h := bt c1 h
    have q1 := ltb_true.1 c1
    refine cw_skip ?_
    refine ex_seq ?_
    refine cw_seq ?_
    refine cw_block ?_
    refine cw_seq ?_
    refine cw_region ?_
    refine wl_u rfl (ow_y (yh_move rfl rfl) rfl rfl (kk_wl ?_))
    refine wl_u rfl (ow_y (yh_assign rfl rfl) rfl rfl (kk_wl ?_))
    refine wl_nil ?_
    refine ex_seq ?_
    refine cw_seq ?_
    refine cw_region ?_
    refine wl_u rfl (ow_y (yh_move rfl rfl) rfl rfl (kk_wl ?_))
    refine wl_u rfl (ow_y (yh_move rfl rfl) rfl rfl (kk_wl ?_))
    refine wl_u rfl (ow_y (yh_move rfl rfl) rfl rfl (kk_wl ?_))
    obtain ⟨y14, hy14, h⟩ := bd h
    obtain ⟨b14, o14, ha14⟩ := sl_addr h_s_ hy14
    subst ha14
    obtain ⟨a14, e14, hc14, hf14⟩ := get_flow h_s_ hy14
    have mx14 := rd_max hf14
    refine wl_u rfl (ow_y (yh_idx Tb (k := s8) rfl rfl rfl rfl (get_lt hy14) rfl rfl) rfl rfl (kk_wl ?_))
    refine wl_u rfl (ow_y (yh_loadAN Tb rfl rfl rfl rfl hc14 rfl) rfl rfl (kk_wl ?_))
    obtain ⟨x16, hx16, h⟩ := bd h
    refine wl_u rfl (ow_callV rfl rfl hb_f rfl rfl (fun w hw => hf_f _ _ hx16 w hw.ext _ _ (Lay.at_ hf14 hw)) rfl rfl (kk_wl ?_))
    refine wl_nil ?_
    refine ex_seq ?_
    refine cw_split rfl (fun c2 => ?_) (fun c2 => ?_)
    · skip
      replace h := bt c2 h
      refine cw_seq ?_
      refine cw_region ?_
      refine wl_u rfl (ow_y (yh_move rfl rfl) rfl rfl (kk_wl ?_))
      refine wl_u rfl (ow_y (yh_assign rfl rfl) rfl rfl (kk_wl ?_))
      refine wl_nil ?_
      refine ex_seq ?_
      refine cw_ret ?_
      refine ex_block_ret ?_
      refine ex_then_ret ?_
      refine ex_then_ret ?_
      refine ex_block_ret ?_
      refine ex_then_ret ?_
      obtain rfl := Option.some.inj h
      obtain rfl := go_ret hk4
      exact ex_r1 Tb rfl (.tmp rfl) (fun wq hq => ⟨_, rfl, hq.ext, rfl⟩)
    · skip
      replace h := bf c2 h
      refine cw_skip ?_
      refine ex_block_normal ?_
      refine ex_seq ?_
      refine cw_region ?_
      refine wl_u rfl (ow_y (yh_arI rfl rfl rfl rfl (by omega)) rfl rfl (kk_wl ?_))
      refine wl_u rfl (ow_y (yh_move rfl rfl) rfl rfl (kk_wl ?_))
      refine wl_nil ?_
      exact ex_next [] (hn4 (n4, s8 + 1) (Nat.lt_succ_self _) h) ⟨rfl, rfl, rfl, rfl, trivial⟩ (by kernel_rfl)
  · skip
    replace h := bf c1 h
    have q2 := ltb_false.1 c1
    refine cw_exit ?_
    refine ex_then_exit ?_
    refine ex_then_exit ?_
    obtain rfl := Option.some.inj h
    have h := go_brk hk4
    refine ex_block_exit ?_
    refine ex_seq ?_
    refine cw_seq ?_
    refine cw_region ?_
    refine wl_u rfl (ow_y (yh_assign rfl rfl) rfl rfl (kk_wl ?_))
    refine wl_nil ?_
    refine ex_seq ?_
    refine cw_ret ?_
    obtain rfl := Option.some.inj h
    exact ex_r1 Tb rfl (.tmp rfl) (fun wq hq => ⟨_, rfl, hq.ext, rfl⟩)

def m_impl_versionAt (N : Nat) (list_ : List Flow) (version : Int) : Option (Int) := (m_slices_IndexFunc_Flow N list_ (fun x0 => m_impl_versionAt_f1 N x0 version)).bind fun x7 => some x7

set_option maxHeartbeats 4000000 in
theorem c_impl_versionAt (N : Nat) (list_ : List Flow) (version : Int) (res : Int) (h : m_impl_versionAt N list_ version = some res) (w : World) {a_list_ : Option Addr} {c_list_ : Nat} (h_list_ : flowsL.rd w [] [.slice a_list_ list_.length c_list_] list_) : Ret Try.prog 72 [.slice a_list_ list_.length c_list_, .int .i64 version] w [] fun v w' => v = .int .i64 res := by
  have mh_list_ := rd_max h_list_
  unfold m_impl_versionAt at h
  refine ret_enter Try.func72 rfl Try.ntmps72 rfl (Hp.refl w _) ?_
  refine cw_seq ?_
  refine cw_region ?_
  refine wl_u rfl (ow_box1 rfl rfl rfl rfl rfl (fun g3 => kk_wl ?_))
  refine wl_u rfl (ow_y (yh_assign rfl rfl) rfl rfl (kk_wl ?_))
  refine wl_nil ?_
  refine ex_seq ?_
  refine cw_seq ?_
  refine cw_region ?_
  refine wl_u rfl (ow_y (yh_move rfl rfl) rfl rfl (kk_wl ?_))
  refine wl_u rfl (ow_y (yh_mkfn rfl rfl) rfl rfl (kk_wl ?_))
  obtain ⟨x7, hx7, h⟩ := bd h
  refine wl_u rfl (ow_cV rfl hb112 rfl (fun w hw => c_slices_IndexFunc_Flow N _ _ _ hx7 w (Lay.at_ h_list_ hw) hb113 (fun x0 b hb w' hE a1 c1 h1 => c_impl_versionAt_f1 N x0 version b hb w' h1 (cell_blk ((hw.step hE).at (i := 0) rfl)))) rfl rfl (kk_wl ?_))
  refine wl_u rfl (ow_y (yh_assign rfl rfl) rfl rfl (kk_wl ?_))
  refine wl_nil ?_
  refine ex_seq ?_
  refine cw_ret ?_
  obtain rfl := Option.some.inj h
  exact ex_r1 Tb rfl (.tmp rfl) (fun wq hq => ⟨_, rfl, hq.ext, rfl⟩)

def m_impl_Step_clone (N : Nat) (s_ : Step) : Option (Step) := (m_impl_cloneNames N s_.after).bind fun x5 => some (Step.mk s_.name x5 s_.undo)

set_option maxHeartbeats 4000000 in
theorem c_impl_Step_clone (N : Nat) (s_ : Step) (res : Step) (h : m_impl_Step_clone N s_ = some res) (w : World) {a_s__after : Option Addr} {c_s__after : Nat} (h_s__after : strsL.rd w [] [.slice a_s__after s_.after.length c_s__after] s_.after) : Ret Try.prog 105 [.agg #[.string s_.name, .slice a_s__after s_.after.length c_s__after, .bool s_.undo]] w [] fun v w' => ∃ a1 c1 F1, v = .agg #[.string res.name, .slice a1 res.after.length c1, .bool res.undo] ∧ NewC w w' [owC strsL F1 [.slice a1 res.after.length c1] res.after] := by
  have mh_s__after := rd_max h_s__after
  unfold m_impl_Step_clone at h
  refine ret_enter Try.func105 rfl Try.ntmps105 rfl (Hp.refl w _) ?_
  refine cw_seq ?_
  refine cw_region ?_
  refine wl_u rfl (ow_boxA rfl rfl rfl rfl (fun g1 => kk_wl ?_))
  refine wl_u rfl (ow_allocA Tb rfl rfl rfl rfl (fun g2 => kk_wl ?_))
  refine wl_nil ?_
  refine ex_seq ?_
  refine cw_seq ?_
  refine cw_region ?_
  refine wl_u rfl (ow_y (yh_field Tb rfl rfl rfl) rfl rfl (kk_wl ?_))
  refine wl_u rfl (ow_y (yh_loadB Tb (k := 1) rfl rfl rfl rfl rfl) rfl rfl (kk_wl ?_))
  obtain ⟨x5, hx5, h⟩ := bd h
  refine wl_u rfl (ow_cN1 rfl hb95 rfl (fun w hw => c_impl_cloneNames N _ _ hx5 w (Lay.at_ h_s__after hw)) rfl rfl (fun a5 c5 F5 => kk_wl ?_))
  refine wl_u rfl (ow_y (yh_field Tb rfl rfl rfl) rfl rfl (kk_wl ?_))
  refine wl_u rfl (ow_store1 Tb (k := 2) rfl rfl rfl rfl rfl rfl rfl rfl rfl (kk_wl ?_))
  refine wl_nil ?_
  refine ex_seq ?_
  refine cw_seq ?_
  refine cw_region ?_
  refine wl_u rfl (ow_y (yh_loadBA Tb (k := 0) rfl rfl rfl rfl rfl rfl) rfl rfl (kk_wl ?_))
  refine wl_u rfl (ow_storeA Tb (k := 2) rfl rfl rfl rfl rfl rfl rfl rfl rfl (kk_wl ?_))
  refine wl_nil ?_
  refine ex_seq ?_
  refine cw_ret ?_
  obtain rfl := Option.some.inj h
  exact ex_r1 Tb rfl (.cellA 0 rfl rfl rfl rfl rfl) (fun wq hq => ⟨_, rfl, hq.ext, ⟨a5, c5, F5, rfl, NewC.sel [2] hq rfl⟩⟩)

def m_impl_Flow_clone_L6 (N : Nat) (f : Flow) : Nat → (List Step) → Nat → Option (Ex (List Step × Nat) (Flow))
  | 0, _, _ => none
  | n + 1, s3_c_1, s12 => (bif ltb ((s12 : Nat) : Int) ((f.steps.length : Nat) : Int) then (f.steps[s12]?).bind fun y14 => (m_impl_Step_clone N y14).bind fun x19 => (appd s3_c_1 [x19]).bind fun l21 => m_impl_Flow_clone_L6 N f n (s3_c_1 ++ [x19]) (s12 + 1)
 else some (Ex.brk (s3_c_1, s12)))

def m_impl_Flow_clone (N : Nat) (f : Flow) : Option (Flow) := (m_impl_Flow_clone_L6 N f N ([] : List Step) 0).bind fun e6 => e6.go (fun r => r) fun b6 => some (Flow.mk f.ver b6.1)

set_option maxHeartbeats 4000000 in
theorem c_impl_Flow_clone (N : Nat) (f : Flow) (res : Flow) (h : m_impl_Flow_clone N f = some res) (w : World) {a_f_steps : Option Addr} {c_f_steps : Nat} (h_f_steps : stepsL.rd w [] [.slice a_f_steps f.steps.length c_f_steps] f.steps) : Ret Try.prog 63 [.agg #[.int .i64 f.ver, .slice a_f_steps f.steps.length c_f_steps]] w [] fun v w' => ∃ a1 c1 F1, v = .agg #[.int .i64 res.ver, .slice a1 res.steps.length c1] ∧ NewC w w' [owC stepsL F1 [.slice a1 res.steps.length c1] res.steps] := by
  have mh_f_steps := rd_max h_f_steps
  unfold m_impl_Flow_clone at h
  refine ret_enter Try.func63 rfl Try.ntmps63 rfl (Hp.refl w _) ?_
  refine cw_seq ?_
  refine cw_region ?_
  refine wl_u rfl (ow_boxA rfl rfl rfl rfl (fun g1 => kk_wl ?_))
  refine wl_u rfl (ow_allocA Tb rfl rfl rfl rfl (fun g2 => kk_wl ?_))
  refine wl_nil ?_
  refine ex_seq ?_
  refine cw_seq ?_
  refine cw_region ?_
  refine wl_u rfl (ow_y (yh_field Tb rfl rfl rfl) rfl rfl (kk_wl ?_))
  refine wl_u rfl (ow_y (yh_loadB Tb (k := 1) rfl rfl rfl rfl rfl) rfl rfl (kk_wl ?_))
  refine wl_u rfl (ow_y (yh_build [.int .i64 f.ver, .slice none 0 0] rfl rfl (by kernel_rfl)) rfl rfl (kk_wl ?_))
  refine wl_u rfl (ow_allocA Tb rfl rfl rfl rfl (fun g3 => kk_wl ?_))
  refine wl_u rfl (ow_storeA Tb (k := 0) rfl rfl rfl rfl rfl rfl rfl rfl rfl (kk_wl ?_))
  refine wl_nil ?_
  refine ex_seq ?_
  refine cw_seq ?_
  refine cw_seq ?_
  refine cw_region ?_
  refine wl_u rfl (ow_y (yh_field Tb rfl rfl rfl) rfl rfl (kk_wl ?_))
  refine wl_u rfl (ow_y (yh_loadB Tb (k := 2) rfl rfl rfl rfl rfl) rfl rfl (kk_wl ?_))
  refine wl_u rfl (ow_y (yh_lenS Tb rfl rfl rfl rfl) rfl rfl (kk_wl ?_))
  refine wl_u rfl (ow_y (yh_move rfl rfl) rfl rfl (kk_wl ?_))
  refine wl_nil ?_
  refine ex_seq ?_
  refine cw_block ?_
  obtain ⟨e6, he6, hk6⟩ := bd h
  clear h
  refine cw_nilS stepsL rfl ?_
  refine cw_loopG (σ := Nat × (List Step) × Nat × (Option Addr) × Nat × (List Nat)) (fun s => m_impl_Flow_clone_L6 N f s.1 s.2.1 s.2.2.1 = some e6) (fun s => [(2, .pointer (some ⟨g2, 0, none⟩)), (3, .pointer (some ⟨g3, 0, none⟩)), (10, .slice a_f_steps f.steps.length c_f_steps), (11, .int .i64 ((f.steps.length : Nat) : Int)), (12, .int .i64 ((s.2.2.1 : Nat) : Int))]) (fun s => [blkC g2 26 [.int .i64 0, .slice none 0 0], blkC g3 26 [.int .i64 f.ver, .slice s.2.2.2.1 s.2.1.length s.2.2.2.2.1], owC stepsL s.2.2.2.2.2 [.slice s.2.2.2.1 s.2.1.length s.2.2.2.2.1] s.2.1]) (fun s => s.1) (N, ([] : List Step), 0, none, 0, []) [2, 1, 0] he6 ⟨rfl, rfl, rfl, rfl, rfl, trivial⟩ rfl (fun KL s he6 hn6 => ?_)
  obtain ⟨n6, s3_c_1, s12, as3_c_1, cs3_c_1, Fs3_c_1⟩ := s
  simp only at he6 hn6 ⊢
  rcases n6 with _ | n6
  · exact nosome he6
  have h := he6; rw [m_impl_Flow_clone_L6] at h
  refine cw_seq ?_
  refine cw_region ?_
  refine wl_u rfl (ow_y (yh_cmpI rfl rfl rfl rfl) rfl rfl (kk_wl ?_))
  refine wl_nil ?_
  refine ex_seq ?_
  refine cw_seq ?_
  refine cw_split rfl (fun c1 => ?_) (fun c1 => ?_)
  · skip
    replace h := bt c1 h
    have q1 := ltb_true.1 c1
    refine cw_skip ?_
    refine ex_seq ?_
    refine cw_seq ?_
    refine cw_block ?_
    refine cw_seq ?_
    refine cw_region ?_
    obtain ⟨y14, hy14, h⟩ := bd h
    obtain ⟨b14, o14, ha14⟩ := sl_addr h_f_steps hy14
    subst ha14
    obtain ⟨a14, e14, hc14, hf14⟩ := get_step h_f_steps hy14
    have mx14 := rd_max hf14
    refine wl_u rfl (ow_y (yh_idx Tb (k := s12) rfl rfl rfl rfl (get_lt hy14) rfl rfl) rfl rfl (kk_wl ?_))
    refine wl_u rfl (ow_y (yh_loadAN Tb rfl rfl rfl rfl hc14 rfl) rfl rfl (kk_wl ?_))
    refine wl_u rfl (ow_allocA Tb rfl rfl rfl rfl (fun g5 => kk_wl ?_))
    refine wl_u rfl (ow_storeA Tb (k := 0) rfl rfl rfl rfl rfl rfl rfl rfl rfl (kk_wl ?_))
    refine wl_nil ?_
    refine ex_seq ?_
    refine cw_dr [0, 1, 2] [5, 6, 7] [blkC g5 79 [.string y14.name, .slice a14 y14.after.length e14, .bool y14.undo], blkC g2 26 [.int .i64 0, .slice none 0 0], blkC g3 26 [.int .i64 f.ver, .slice as3_c_1 s3_c_1.length cs3_c_1], owC stepsL Fs3_c_1 [.slice as3_c_1 s3_c_1.length cs3_c_1] s3_c_1] (by kernel_rfl) ?_
    refine wd_take (i := 0) [0, 1, 2, 3] rfl rfl rfl rfl rfl (by kernel_rfl) (by kernel_rfl) (fun _ _ _ _ h => h) (yh_field Tb rfl rfl rfl) ?_
    refine wd_take (i := 1) [0, 1, 2, 3] rfl rfl rfl rfl rfl (by kernel_rfl) (by kernel_rfl) (fun _ _ _ _ h => h) (yh_loadB Tb (k := 2) rfl rfl rfl rfl rfl) ?_
    refine wd_take (i := 2) [0, 1, 2, 3] rfl rfl rfl rfl rfl (by kernel_rfl) (by kernel_rfl) (fun _ _ _ _ h => h) (yh_loadBA Tb (k := 0) rfl rfl rfl rfl rfl rfl) ?_
    obtain ⟨x19, hx19, h⟩ := bd h
    refine wd_one 3 rfl rfl (by kernel_rfl) (ow_cN1 rfl hb105 rfl (fun w hw => c_impl_Step_clone N _ _ hx19 w (Lay.at_ hf14 hw)) rfl rfl (fun a19 c19 F19 => kk_wd [1, 2, 3, 4] (by kernel_rfl) ?_))
    refine wd_one 4 rfl rfl (by kernel_rfl) (ow_litA Tb rfl rfl rfl rfl rfl rfl (by decide) rfl rfl (fun g20 => kk_wd [2, 3, 4, 5] (by kernel_rfl) ?_))
    obtain ⟨hll21, h⟩ := bd_appd h
    refine wd_one 5 rfl rfl (by kernel_rfl) (ow_chg (c' := owC stepL F19 [.string x19.name, .slice a19 x19.after.length c19, .bool x19.undo] x19) 1 rfl (fun w hA => stepL_mk x19 hA) rfl (ow_appE Tb (i := 5) (j := 0) (k := 1) rfl rfl rfl rfl rfl rfl rfl rfl rfl rfl rfl (app1 hll21) (by decide) rfl rfl (fun a21 c21 F21 => kk_wdT rfl ?_)))
    refine wd_one 6 rfl rfl (by kernel_rfl) (ow_y (yh_field Tb rfl rfl rfl) rfl rfl (kk_wdT rfl ?_))
    refine wd_one 7 rfl rfl (by kernel_rfl) (ow_store1 Tb (k := 4) rfl rfl rfl rfl rfl rfl rfl rfl rfl (kk_wdT rfl ?_))
    refine wd_done (by kernel_rfl) ?_
    refine ex_block_normal ?_
    refine ex_seq ?_
    refine cw_region ?_
    refine wl_u rfl (ow_y (yh_arI rfl rfl rfl rfl (by omega)) rfl rfl (kk_wl ?_))
    refine wl_u rfl (ow_y (yh_move rfl rfl) rfl rfl (kk_wl ?_))
    refine wl_nil ?_
    exact ex_next [4, 0, 1] (hn6 (n6, (s3_c_1 ++ [x19]), s12 + 1, a21, c21, F21) (Nat.lt_succ_self _) h) ⟨rfl, rfl, rfl, rfl, rfl, trivial⟩ (by kernel_rfl)
  · skip
    replace h := bf c1 h
    have q2 := ltb_false.1 c1
    refine cw_exit ?_
    refine ex_then_exit ?_
    refine ex_then_exit ?_
    obtain rfl := Option.some.inj h
    have h := go_brk hk6
    refine ex_block_exit ?_
    refine ex_seq ?_
    refine cw_seq ?_
    refine cw_region ?_
    refine wl_u rfl (ow_y (yh_loadBA Tb (k := 1) rfl rfl rfl rfl rfl rfl) rfl rfl (kk_wl ?_))
    refine wl_u rfl (ow_storeA Tb (k := 0) rfl rfl rfl rfl rfl rfl rfl rfl rfl (kk_wl ?_))
    refine wl_nil ?_
    refine ex_seq ?_
    refine cw_ret ?_
    obtain rfl := Option.some.inj h
    exact ex_r1 Tb rfl (.cellA 0 rfl rfl rfl rfl rfl) (fun wq hq => ⟨_, rfl, hq.ext, ⟨as3_c_1, cs3_c_1, Fs3_c_1, rfl, NewC.sel [2] hq rfl⟩⟩)

def m_impl_RegistryFind (N : Nat) (list_ : List Flow) (version : Int) : Option (Flow × Bool) := (m_impl_RegistryValid N list_).bind fun x7 => (bif !x7 then some ((Flow.mk 0 []), false)
 else (m_impl_versionAt N list_ version).bind fun x12 => (bif ltb x12 0 then some ((Flow.mk 0 []), false)
 else (m_impl_versionAt N list_ version).bind fun x19 => (geti list_ x19).bind fun y20 => (m_impl_Flow_clone N y20).bind fun x22 => some (x22, true)))

set_option maxHeartbeats 4000000 in
theorem c_impl_RegistryFind (N : Nat) (list_ : List Flow) (version : Int) (res : Flow × Bool) (h : m_impl_RegistryFind N list_ version = some res) (w : World) {a_list_ : Option Addr} {c_list_ : Nat} (h_list_ : flowsL.rd w [] [.slice a_list_ list_.length c_list_] list_) : Ret Try.prog 24 [.slice a_list_ list_.length c_list_, .int .i64 version] w [] fun v w' => ∃ a1 c1 F1, v = .tuple #[.agg #[.int .i64 res.1.ver, .slice a1 res.1.steps.length c1], .bool res.2] ∧ NewC w w' [owC stepsL F1 [.slice a1 res.1.steps.length c1] res.1.steps] := by
  have mh_list_ := rd_max h_list_
  unfold m_impl_RegistryFind at h
  refine ret_enter Try.func24 rfl Try.ntmps24 rfl (Hp.refl w _) ?_
  refine cw_seq ?_
  refine cw_region ?_
  refine wl_u rfl (ow_allocA Tb rfl rfl rfl rfl (fun g4 => kk_wl ?_))
  refine wl_u rfl (ow_y (yh_assign rfl rfl) rfl rfl (kk_wl ?_))
  refine wl_nil ?_
  refine ex_seq ?_
  refine cw_seq ?_
  refine cw_seq ?_
  refine cw_region ?_
  refine wl_u rfl (ow_y (yh_move rfl rfl) rfl rfl (kk_wl ?_))
  obtain ⟨x7, hx7, h⟩ := bd h
  refine wl_u rfl (ow_cV rfl hb19 rfl (fun w hw => c_impl_RegistryValid N _ _ hx7 w (Lay.at_ h_list_ hw)) rfl rfl (kk_wl ?_))
  refine wl_u rfl (ow_y (yh_not rfl rfl) rfl rfl (kk_wl ?_))
  refine wl_u rfl (ow_y (yh_move rfl rfl) rfl rfl (kk_wl ?_))
  refine wl_s rfl rfl (fun c1 => ?_) (fun c1 => ?_)
  · skip
    replace h := bt c1 h
    refine wl_n rfl rfl rfl rfl ?_
    refine wl_n rfl rfl rfl rfl ?_
    refine wl_n rfl rfl rfl rfl ?_
    refine wl_n rfl rfl rfl rfl ?_
    refine wl_u rfl (ow_y (yh_pickT rfl rfl rfl) rfl rfl (kk_wl ?_))
    refine wl_nil ?_
    refine ex_seq ?_
    refine cw_true rfl ?_
    refine cw_seq ?_
    refine cw_region ?_
    refine wl_u rfl (ow_y (yh_build [.int .i64 0, .slice none 0 0] rfl rfl (by kernel_rfl)) rfl rfl (kk_wl ?_))
    refine wl_u rfl (ow_storeA Tb (k := 0) rfl rfl rfl rfl rfl rfl rfl rfl rfl (kk_wl ?_))
    refine wl_u rfl (ow_y (yh_assign rfl rfl) rfl rfl (kk_wl ?_))
    refine wl_nil ?_
    refine ex_seq ?_
    refine cw_ret ?_
    refine ex_then_ret ?_
    refine ex_nilS stepsL rfl ?_
    obtain rfl := Option.some.inj h
    exact ex_r2 Tb rfl (.cellA 1 rfl rfl rfl rfl rfl) (.tmp rfl) (fun wq hq => ⟨_, rfl, hq.ext, ⟨none, 0, [], rfl, NewC.sel [0] hq rfl⟩⟩)
  · skip
    replace h := bf c1 h
    refine wl_g rfl rfl (ow_y (yh_move rfl rfl) rfl rfl (kk_wl ?_))
    refine wl_g rfl rfl (ow_y (yh_move rfl rfl) rfl rfl (kk_wl ?_))
    obtain ⟨x12, hx12, h⟩ := bd h
    refine wl_g rfl rfl (ow_cV rfl hb72 rfl (fun w hw => c_impl_versionAt N _ _ _ hx12 w (Lay.at_ h_list_ hw)) rfl rfl (kk_wl ?_))
    refine wl_g rfl rfl (ow_y (yh_cmpI rfl rfl rfl rfl) rfl rfl (kk_wl ?_))
    refine wl_u rfl (ow_y (yh_pickF rfl rfl rfl) rfl rfl (kk_wl ?_))
    refine wl_nil ?_
    refine ex_seq ?_
    refine cw_split rfl (fun c2 => ?_) (fun c2 => ?_)
    · skip
      replace h := bt c2 h
      have q1 := ltb_true.1 c2
      refine cw_seq ?_
      refine cw_region ?_
      refine wl_u rfl (ow_y (yh_build [.int .i64 0, .slice none 0 0] rfl rfl (by kernel_rfl)) rfl rfl (kk_wl ?_))
      refine wl_u rfl (ow_storeA Tb (k := 0) rfl rfl rfl rfl rfl rfl rfl rfl rfl (kk_wl ?_))
      refine wl_u rfl (ow_y (yh_assign rfl rfl) rfl rfl (kk_wl ?_))
      refine wl_nil ?_
      refine ex_seq ?_
      refine cw_ret ?_
      refine ex_then_ret ?_
      refine ex_nilS stepsL rfl ?_
      obtain rfl := Option.some.inj h
      exact ex_r2 Tb rfl (.cellA 1 rfl rfl rfl rfl rfl) (.tmp rfl) (fun wq hq => ⟨_, rfl, hq.ext, ⟨none, 0, [], rfl, NewC.sel [0] hq rfl⟩⟩)
    · skip
      replace h := bf c2 h
      have q2 := ltb_false.1 c2
      refine cw_skip ?_
      refine ex_seq ?_
      refine cw_seq ?_
      refine cw_region ?_
      refine wl_u rfl (ow_y (yh_move rfl rfl) rfl rfl (kk_wl ?_))
      refine wl_u rfl (ow_y (yh_move rfl rfl) rfl rfl (kk_wl ?_))
      refine wl_u rfl (ow_y (yh_move rfl rfl) rfl rfl (kk_wl ?_))
      obtain ⟨x19, hx19, h⟩ := bd h
      refine wl_u rfl (ow_cV rfl hb72 rfl (fun w hw => c_impl_versionAt N _ _ _ hx19 w (Lay.at_ h_list_ hw)) rfl rfl (kk_wl ?_))
      obtain ⟨y20, zy20, h⟩ := bd h
      obtain ⟨iy20, hy20⟩ := geti_some zy20
      obtain ⟨b20, o20, ha20⟩ := sl_addr h_list_ hy20
      subst ha20
      obtain ⟨a20, e20, hc20, hf20⟩ := get_flow h_list_ hy20
      have mx20 := rd_max hf20
      refine wl_u rfl (ow_y (yh_idx Tb (k := x19.toNat) rfl rfl rfl iy20 (get_lt hy20) rfl rfl) rfl rfl (kk_wl ?_))
      refine wl_u rfl (ow_y (yh_loadAN Tb rfl rfl rfl rfl hc20 rfl) rfl rfl (kk_wl ?_))
      obtain ⟨x22, hx22, h⟩ := bd h
      refine wl_u rfl (ow_cN1 rfl hb63 rfl (fun w hw => c_impl_Flow_clone N _ _ hx22 w (Lay.at_ hf20 hw)) rfl rfl (fun a22 c22 F22 => kk_wl ?_))
      refine wl_u rfl (ow_storeA Tb (k := 1) rfl rfl rfl rfl rfl rfl rfl rfl rfl (kk_wl ?_))
      refine wl_u rfl (ow_y (yh_assign rfl rfl) rfl rfl (kk_wl ?_))
      refine wl_nil ?_
      refine ex_seq ?_
      refine cw_ret ?_
      obtain rfl := Option.some.inj h
      exact ex_r2 Tb rfl (.cellA 0 rfl rfl rfl rfl rfl) (.tmp rfl) (fun wq hq => ⟨_, rfl, hq.ext, ⟨a22, c22, F22, rfl, NewC.sel [1] hq rfl⟩⟩)

def m_laws_eqFlowS_L8 (N : Nat) (a : List Flow) (b : List Flow) : Nat → Nat → Option (Ex (Nat) (Bool))
  | 0, _ => none
  | n + 1, s5 => (bif ltb ((s5 : Nat) : Int) ((a.length : Nat) : Int) then (a[s5]?).bind fun y19 => (b[s5]?).bind fun y23 => (m_laws_eqFlow N y19 y23).bind fun x25 => (bif !x25 then some (Ex.ret false)
 else m_laws_eqFlowS_L8 N a b n (s5 + 1))
 else some (Ex.brk (s5)))

def m_laws_eqFlowS (N : Nat) (a : List Flow) (b : List Flow) : Option (Bool) := (bif !(eqb ((a.length : Nat) : Int) ((b.length : Nat) : Int)) then some false
 else (m_laws_eqFlowS_L8 N a b N 0).bind fun e8 => e8.go (fun r => r) fun b8 => some true)

set_option maxHeartbeats 4000000 in
theorem c_laws_eqFlowS (N : Nat) (a : List Flow) (b : List Flow) (res : Bool) (h : m_laws_eqFlowS N a b = some res) (w : World) {a_a a_b : Option Addr} {c_a c_b : Nat} (h_a : flowsL.rd w [] [.slice a_a a.length c_a] a) (h_b : flowsL.rd w [] [.slice a_b b.length c_b] b) : Ret Try.prog 33 [.slice a_a a.length c_a, .slice a_b b.length c_b] w [] fun v w' => v = .bool res := by
  have mh_a := rd_max h_a
  have mh_b := rd_max h_b
  unfold m_laws_eqFlowS at h
  refine ret_enter Try.func33 rfl Try.ntmps33 rfl (Hp.refl w _) ?_
  refine cw_seq ?_
  refine cw_region ?_
  refine wl_u rfl (ow_y (yh_assign rfl rfl) rfl rfl (kk_wl ?_))
  refine wl_nil ?_
  refine ex_seq ?_
  refine cw_seq ?_
  refine cw_seq ?_
  refine cw_region ?_
  refine wl_u rfl (ow_y (yh_move rfl rfl) rfl rfl (kk_wl ?_))
  refine wl_u rfl (ow_y (yh_lenS Tb rfl rfl rfl rfl) rfl rfl (kk_wl ?_))
  refine wl_u rfl (ow_y (yh_move rfl rfl) rfl rfl (kk_wl ?_))
  refine wl_u rfl (ow_y (yh_lenS Tb rfl rfl rfl rfl) rfl rfl (kk_wl ?_))
  refine wl_u rfl (ow_y (yh_cmpI rfl rfl rfl rfl) rfl rfl (kk_wl ?_))
  refine wl_nil ?_
  refine ex_seq ?_
  refine cw_split rfl (fun c1 => ?_) (fun c1 => ?_)
  · skip
    replace h := bt c1 h
    have q1 := eqb_false.1 (nt c1)
    refine cw_seq ?_
    refine cw_region ?_
    refine wl_u rfl (ow_y (yh_assign rfl rfl) rfl rfl (kk_wl ?_))
    refine wl_nil ?_
    refine ex_seq ?_
    refine cw_ret ?_
    refine ex_then_ret ?_
    obtain rfl := Option.some.inj h
    exact ex_r1 Tb rfl (.tmp rfl) (fun wq hq => ⟨_, rfl, hq.ext, rfl⟩)
  · skip
    replace h := bf c1 h
    have q2 := eqb_true.1 (nf c1)
    refine cw_skip ?_
    refine ex_seq ?_
    refine cw_seq ?_
    refine cw_seq ?_
    refine cw_region ?_
    refine wl_u rfl (ow_y (yh_assign rfl rfl) rfl rfl (kk_wl ?_))
    refine wl_nil ?_
    refine ex_seq ?_
    refine cw_block ?_
    obtain ⟨e8, he8, hk8⟩ := bd h
    clear h
    refine cw_loopG (σ := Nat × Nat) (fun s => m_laws_eqFlowS_L8 N a b s.1 s.2 = some e8) (fun s => [(0, .slice a_a a.length c_a), (1, .slice a_b b.length c_b), (5, .int .i64 ((s.2 : Nat) : Int))]) (fun s => []) (fun s => s.1) (N, 0) [] he8 ⟨rfl, rfl, rfl, trivial⟩ rfl (fun KL s he8 hn8 => ?_)
    obtain ⟨n8, s5⟩ := s
    simp only at he8 hn8 ⊢
    rcases n8 with _ | n8
    · exact nosome he8
    have h := he8; rw [m_laws_eqFlowS_L8] at h
    refine cw_seq ?_
    refine cw_seq ?_
    refine cw_region ?_
    refine wl_u rfl (ow_y (yh_move rfl rfl) rfl rfl (kk_wl ?_))
    refine wl_u rfl (ow_y (yh_move rfl rfl) rfl rfl (kk_wl ?_))
    refine wl_u rfl (ow_y (yh_lenS Tb rfl rfl rfl rfl) rfl rfl (kk_wl ?_))
    refine wl_u rfl (ow_y (yh_cmpI rfl rfl rfl rfl) rfl rfl (kk_wl ?_))
    refine wl_nil ?_
    refine ex_seq ?_
    refine cw_split rfl (fun c2 => ?_) (fun c2 => ?_)
    · skip
      replace h := bt c2 h
      have q3 := ltb_true.1 c2
      refine cw_skip ?_
      refine ex_seq ?_
      refine cw_seq ?_
      refine cw_block ?_
      refine cw_seq ?_
      refine cw_dr [0, 1, 2, 3, 4, 5, 6, 7, 9] [] [] (by kernel_rfl) ?_
      refine wd_take (i := 0) [] rfl rfl rfl rfl rfl (by kernel_rfl) (by kernel_rfl) (fun _ _ _ _ h => h) (yh_move rfl rfl) ?_
      refine wd_take (i := 1) [] rfl rfl rfl rfl rfl (by kernel_rfl) (by kernel_rfl) (fun _ _ _ _ h => h) (yh_move rfl rfl) ?_
      obtain ⟨y19, hy19, h⟩ := bd h
      obtain ⟨b19, o19, ha19⟩ := sl_addr h_a hy19
      subst ha19
      obtain ⟨a19, e19, hc19, hf19⟩ := get_flow h_a hy19
      have mx19 := rd_max hf19
      refine wd_take (i := 2) [] rfl rfl rfl rfl rfl (by kernel_rfl) (by kernel_rfl) (fun _ _ _ _ h => h) (yh_idx Tb (k := s5) rfl rfl rfl rfl (get_lt hy19) rfl rfl) ?_
      refine wd_take (i := 3) [] rfl rfl rfl rfl rfl (by kernel_rfl) (by kernel_rfl) (fun _ _ _ _ h => h) (yh_loadAN Tb rfl rfl rfl rfl hc19 rfl) ?_
      refine wd_take (i := 4) [] rfl rfl rfl rfl rfl (by kernel_rfl) (by kernel_rfl) (fun _ _ _ _ h => h) (yh_move rfl rfl) ?_
      refine wd_take (i := 5) [] rfl rfl rfl rfl rfl (by kernel_rfl) (by kernel_rfl) (fun _ _ _ _ h => h) (yh_move rfl rfl) ?_
      obtain ⟨y23, hy23, h⟩ := bd h
      obtain ⟨b23, o23, ha23⟩ := sl_addr h_b hy23
      subst ha23
      obtain ⟨a23, e23, hc23, hf23⟩ := get_flow h_b hy23
      have mx23 := rd_max hf23
      refine wd_take (i := 6) [] rfl rfl rfl rfl rfl (by kernel_rfl) (by kernel_rfl) (fun _ _ _ _ h => h) (yh_idx Tb (k := s5) rfl rfl rfl rfl (get_lt hy23) rfl rfl) ?_
      refine wd_take (i := 7) [] rfl rfl rfl rfl rfl (by kernel_rfl) (by kernel_rfl) (fun _ _ _ _ h => h) (yh_loadAN Tb rfl rfl rfl rfl hc23 rfl) ?_
      obtain ⟨x25, hx25, h⟩ := bd h
      refine wd_one 8 rfl rfl (by kernel_rfl) (ow_cV rfl hb32 rfl (fun w hw => c_laws_eqFlow N _ _ _ hx25 w (Lay.at_ hf19 hw) (Lay.at_ hf23 hw)) rfl rfl (kk_wd [] (by kernel_rfl) ?_))
      refine wd_take (i := 9) [] rfl rfl rfl rfl rfl (by kernel_rfl) (by kernel_rfl) (fun _ _ _ _ h => h) (yh_not rfl rfl) ?_
      refine wd_done (by kernel_rfl) ?_
      refine ex_seq ?_
      refine cw_split rfl (fun c3 => ?_) (fun c3 => ?_)
      · skip
        replace h := bt c3 h
        refine cw_seq ?_
        refine cw_region ?_
        refine wl_u rfl (ow_y (yh_assign rfl rfl) rfl rfl (kk_wl ?_))
        refine wl_nil ?_
        refine ex_seq ?_
        refine cw_ret ?_
        refine ex_block_ret ?_
        refine ex_then_ret ?_
        refine ex_then_ret ?_
        refine ex_block_ret ?_
        refine ex_then_ret ?_
        obtain rfl := Option.some.inj h
        obtain rfl := go_ret hk8
        exact ex_r1 Tb rfl (.tmp rfl) (fun wq hq => ⟨_, rfl, hq.ext, rfl⟩)
      · skip
        replace h := bf c3 h
        refine cw_skip ?_
        refine ex_block_normal ?_
        refine ex_seq ?_
        refine cw_region ?_
        refine wl_u rfl (ow_y (yh_move rfl rfl) rfl rfl (kk_wl ?_))
        refine wl_u rfl (ow_y (yh_arI rfl rfl rfl rfl (by omega)) rfl rfl (kk_wl ?_))
        refine wl_u rfl (ow_y (yh_assign rfl rfl) rfl rfl (kk_wl ?_))
        refine wl_nil ?_
        exact ex_next [] (hn8 (n8, s5 + 1) (Nat.lt_succ_self _) h) ⟨rfl, rfl, rfl, trivial⟩ (by kernel_rfl)
    · skip
      replace h := bf c2 h
      have q4 := ltb_false.1 c2
      refine cw_exit ?_
      refine ex_then_exit ?_
      refine ex_then_exit ?_
      obtain rfl := Option.some.inj h
      have h := go_brk hk8
      refine ex_block_exit ?_
      refine ex_seq ?_
      refine cw_seq ?_
      refine cw_region ?_
      refine wl_u rfl (ow_y (yh_assign rfl rfl) rfl rfl (kk_wl ?_))
      refine wl_nil ?_
      refine ex_seq ?_
      refine cw_ret ?_
      obtain rfl := Option.some.inj h
      exact ex_r1 Tb rfl (.tmp rfl) (fun wq hq => ⟨_, rfl, hq.ext, rfl⟩)

def m_laws_markFlowS_L4 (N : Nat) (a : List Flow) : Nat → (List Flow) → Int → Nat → Option (Ex (List Flow × Int × Nat) ((Int) × (List Flow)))
  | 0, _, _, _ => none
  | n + 1, s0, s1, s5 => (bif ltb ((s5 : Nat) : Int) ((a.length : Nat) : Int) then (s0[s5]?).bind fun y15 => ((s0.set s5 (Flow.mk s1 y15.steps))[s5]?).bind fun y21 => (m_laws_markStepS N y21.steps (w64 (s1 + 1))).bind fun x25 => m_laws_markFlowS_L4 N a n ((s0.set s5 (Flow.mk s1 y15.steps)).set s5 (Flow.mk y21.ver x25.2)) x25.1 (s5 + 1)
 else some (Ex.brk (s0, s1, s5)))

def m_laws_markFlowS (N : Nat) (a : List Flow) (k : Int) : Option ((Int) × (List Flow)) := (m_laws_markFlowS_L4 N a N a k 0).bind fun e4 => e4.go (fun r => r) fun b4 => some (b4.2.1, b4.1)

set_option maxHeartbeats 4000000 in
theorem c_laws_markFlowS (N : Nat) (a : List Flow) (k : Int) (res : (Int) × (List Flow)) (h : m_laws_markFlowS N a k = some res) (w : World) {a_a : Option Addr} {c_a : Nat} {F_a : List Nat} (hr : (owC flowsL F_a [.slice a_a a.length c_a] a).A w) (hnd : F_a.Nodup) : Ret Try.prog 34 [.slice a_a a.length c_a, .int .i64 k] w F_a fun v w' => ∃ F0, v = .int .i64 res.1 ∧ NewM w w' F_a [owC flowsL F0 [.slice a_a a.length c_a] res.2] := by
  unfold m_laws_markFlowS at h
  refine ret_enter Try.func34 rfl Try.ntmps34 rfl (hp_one hr hnd) ?_
  refine cw_seq ?_
  refine cw_region ?_
  refine wl_u rfl (ow_y (yh_assign rfl rfl) rfl rfl (kk_wl ?_))
  refine wl_nil ?_
  refine ex_seq ?_
  refine cw_seq ?_
  refine cw_seq ?_
  refine cw_region ?_
  refine wl_u rfl (ow_y (yh_assign rfl rfl) rfl rfl (kk_wl ?_))
  refine wl_nil ?_
  refine ex_seq ?_
  refine cw_block ?_
  obtain ⟨e4, he4, hk4⟩ := bd h
  clear h
  refine cw_loopG (σ := Nat × (List Flow) × Int × Nat × (List Nat)) (fun s => m_laws_markFlowS_L4 N a s.1 s.2.1 s.2.2.1 s.2.2.2.1 = some e4) (fun s => [(0, .slice a_a a.length c_a), (1, .int .i64 s.2.2.1), (5, .int .i64 ((s.2.2.2.1 : Nat) : Int))]) (fun s => [owC flowsL s.2.2.2.2 [.slice a_a a.length c_a] s.2.1]) (fun s => s.1) (N, a, k, 0, F_a) [0] he4 ⟨rfl, rfl, rfl, trivial⟩ rfl (fun KL s he4 hn4 => ?_)
  obtain ⟨n4, s0, s1, s5, Fs0⟩ := s
  simp only at he4 hn4 ⊢
  rcases n4 with _ | n4
  · exact nosome he4
  have h := he4; rw [m_laws_markFlowS_L4] at h
  refine cw_seq ?_
  refine cw_seq ?_
  refine cw_region ?_
  refine wl_u rfl (ow_y (yh_move rfl rfl) rfl rfl (kk_wl ?_))
  refine wl_u rfl (ow_y (yh_move rfl rfl) rfl rfl (kk_wl ?_))
  refine wl_know (a.length ≤ 9223372036854775807) (fun w hw => own_max 0 rfl hw) (fun mo8 => ?_)
  refine wl_u rfl (ow_y (yh_lenS Tb rfl rfl rfl rfl) rfl rfl (kk_wl ?_))
  refine wl_u rfl (ow_y (yh_cmpI rfl rfl rfl rfl) rfl rfl (kk_wl ?_))
  refine wl_nil ?_
  refine ex_seq ?_
  refine cw_split rfl (fun c1 => ?_) (fun c1 => ?_)
  · skip
    replace h := bt c1 h
    have q1 := ltb_true.1 c1
    refine cw_skip ?_
    refine ex_seq ?_
    refine cw_seq ?_
    refine cw_block ?_
    refine cw_seq ?_
    refine cw_region ?_
    refine wl_u rfl (ow_y (yh_move rfl rfl) rfl rfl (kk_wl ?_))
    refine wl_u rfl (ow_y (yh_move rfl rfl) rfl rfl (kk_wl ?_))
    refine wl_u rfl (ow_y (yh_move rfl rfl) rfl rfl (kk_wl ?_))
    obtain ⟨y15, hy15, h⟩ := bd h
    refine wl_ex (fun g => a_a = some ⟨g, 0, none⟩) (fun w hw => own_addrK 0 rfl hy15 hw) (fun g15 hg15 => ?_)
    subst hg15
    refine wl_know (a.length = s0.length) (fun w hw => own_lenK 0 rfl hw) (fun hn15 => ?_)
    refine wl_u rfl (ow_y (yh_idx Tb (k := s5) rfl rfl rfl rfl (Nat.lt_of_lt_of_eq (get_lt hy15) hn15.symm) rfl rfl) rfl rfl (kk_wl ?_))
    refine wl_u rfl (ow_y (yh_field Tb rfl rfl rfl) rfl rfl (kk_wl ?_))
    refine wl_u rfl (ow_setFP Tb 0 0 (Flow.mk s1 y15.steps) (fun w F cs h => by obtain ⟨a, c, rfl, h2⟩ := flowL_ow h; exact flowL_mk (Flow.mk s1 y15.steps) h2) rfl rfl rfl rfl rfl rfl rfl hy15 rfl (kk_wl ?_))
    refine wl_nil ?_
    refine ex_seq ?_
    refine cw_seq ?_
    refine cw_region ?_
    refine wl_u rfl (ow_y (yh_move rfl rfl) rfl rfl (kk_wl ?_))
    refine wl_u rfl (ow_y (yh_arW rfl rfl rfl rfl) rfl rfl (kk_wl ?_))
    refine wl_u rfl (ow_y (yh_assign rfl rfl) rfl rfl (kk_wl ?_))
    refine wl_nil ?_
    refine ex_seq ?_
    refine cw_region ?_
    refine wl_u rfl (ow_y (yh_move rfl rfl) rfl rfl (kk_wl ?_))
    refine wl_u rfl (ow_y (yh_move rfl rfl) rfl rfl (kk_wl ?_))
    obtain ⟨y21, hy21, h⟩ := bd h
    refine wl_know (a.length = (s0.set s5 (Flow.mk s1 y15.steps)).length) (fun w hw => own_lenK 0 rfl hw) (fun hn21 => ?_)
    refine wl_u rfl (ow_y (yh_idx Tb (k := s5) rfl rfl rfl rfl (Nat.lt_of_lt_of_eq (get_lt hy21) hn21.symm) rfl rfl) rfl rfl (kk_wl ?_))
    refine wl_u rfl (ow_y (yh_field Tb rfl rfl rfl) rfl rfl (kk_wl ?_))
    refine wl_u rfl (ow_loadH Tb 0 1 (flow_nest y21) rfl rfl rfl rfl hy21 rfl rfl (fun a23 c23 G23 F23 => kk_wl ?_))
    refine wl_u rfl (ow_y (yh_move rfl rfl) rfl rfl (kk_wl ?_))
    obtain ⟨x25, hx25, h⟩ := bd h
    refine wl_u rfl (ow_cF1 0 rfl hb84 rfl rfl (fun w hw => c_laws_markStepS N _ _ _ hx25 w (hw.at (i := 0) rfl) (hw.ndAt (i := 0) rfl)) rfl rfl (fun F25 => kk_join (l2 := ((s0.set s5 (Flow.mk s1 y15.steps)).set s5 (Flow.mk y21.ver x25.2))) 0 0 rfl rfl rfl (fun G25 => kk_wl ?_)))
    refine wl_u rfl (ow_y (yh_assign rfl rfl) rfl rfl (kk_wl ?_))
    refine wl_nil ?_
    refine ex_block_normal ?_
    refine ex_seq ?_
    refine cw_region ?_
    refine wl_u rfl (ow_y (yh_move rfl rfl) rfl rfl (kk_wl ?_))
    refine wl_u rfl (ow_y (yh_arI rfl rfl rfl rfl (by omega)) rfl rfl (kk_wl ?_))
    refine wl_u rfl (ow_y (yh_assign rfl rfl) rfl rfl (kk_wl ?_))
    refine wl_nil ?_
    exact ex_next [0] (hn4 (n4, ((s0.set s5 (Flow.mk s1 y15.steps)).set s5 (Flow.mk y21.ver x25.2)), x25.1, s5 + 1, G25) (Nat.lt_succ_self _) h) ⟨rfl, rfl, rfl, trivial⟩ (by kernel_rfl)
  · skip
    replace h := bf c1 h
    have q2 := ltb_false.1 c1
    refine cw_exit ?_
    refine ex_then_exit ?_
    refine ex_then_exit ?_
    obtain rfl := Option.some.inj h
    have h := go_brk hk4
    refine ex_block_exit ?_
    refine ex_seq ?_
    refine cw_seq ?_
    refine cw_region ?_
    refine wl_u rfl (ow_y (yh_move rfl rfl) rfl rfl (kk_wl ?_))
    refine wl_u rfl (ow_y (yh_assign rfl rfl) rfl rfl (kk_wl ?_))
    refine wl_nil ?_
    refine ex_seq ?_
    refine cw_ret ?_
    obtain rfl := Option.some.inj h
    exact ex_r1 Tb rfl (.tmp rfl) (fun wq hq => ⟨_, rfl, hq.ext, ⟨Fs0, rfl, NewM.sel [0] hq rfl⟩⟩)

def m_laws_heldStepS_L5 (N : Nat) (a : List Step) : Nat → Int → Nat → Option (Ex (Int × Nat) (Int))
  | 0, _, _ => none
  | n + 1, s1, s5 => (bif ltb ((s5 : Nat) : Int) ((a.length : Nat) : Int) then ((a[s5]?).bind fun y14 => (m_laws_markText N s1).bind fun x18 => (bif !(seq y14.name x18) then some (Ex.ret (-1))
 else some (Ex.brk ())) : Option (Ex (Unit) (Int))).bind fun e109 => e109.go Ex.ret fun j109 => (a[s5]?).bind fun y24 => (m_laws_heldStringS N y24.after (w64 (s1 + 1))).bind fun x28 => (bif ltb x28 0 then some (Ex.ret (-1))
 else (bif y24.undo != (eqb (Int.tmod x28 3) 0) then some (Ex.ret (-1))
 else m_laws_heldStepS_L5 N a n (w64 (x28 + 1)) (s5 + 1)))
 else some (Ex.brk (s1, s5)))

def m_laws_heldStepS (N : Nat) (a : List Step) (k : Int) : Option (Int) := (m_laws_heldStepS_L5 N a N k 0).bind fun e5 => e5.go (fun r => r) fun b5 => some b5.1

set_option maxHeartbeats 4000000 in
theorem c_laws_heldStepS (N : Nat) (a : List Step) (k : Int) (res : Int) (h : m_laws_heldStepS N a k = some res) (w : World) {a_a : Option Addr} {c_a : Nat} (h_a : stepsL.rd w [] [.slice a_a a.length c_a] a) : Ret Try.prog 85 [.slice a_a a.length c_a, .int .i64 k] w [] fun v w' => v = .int .i64 res := by
  have mh_a := rd_max h_a
  unfold m_laws_heldStepS at h
  refine ret_enter Try.func85 rfl Try.ntmps85 rfl (Hp.refl w _) ?_
  refine cw_seq ?_
  refine cw_region ?_
  refine wl_u rfl (ow_y (yh_assign rfl rfl) rfl rfl (kk_wl ?_))
  refine wl_nil ?_
  refine ex_seq ?_
  refine cw_seq ?_
  refine cw_seq ?_
  refine cw_region ?_
  refine wl_u rfl (ow_y (yh_assign rfl rfl) rfl rfl (kk_wl ?_))
  refine wl_nil ?_
  refine ex_seq ?_
  refine cw_block ?_
  obtain ⟨e5, he5, hk5⟩ := bd h
  clear h
  refine cw_loopG (σ := Nat × Int × Nat) (fun s => m_laws_heldStepS_L5 N a s.1 s.2.1 s.2.2 = some e5) (fun s => [(0, .slice a_a a.length c_a), (1, .int .i64 s.2.1), (5, .int .i64 ((s.2.2 : Nat) : Int))]) (fun s => []) (fun s => s.1) (N, k, 0) [] he5 ⟨rfl, rfl, rfl, trivial⟩ rfl (fun KL s he5 hn5 => ?_)
  obtain ⟨n5, s1, s5⟩ := s
  simp only at he5 hn5 ⊢
  rcases n5 with _ | n5
  · exact nosome he5
  have h := he5; rw [m_laws_heldStepS_L5] at h
  refine cw_seq ?_
  refine cw_seq ?_
  refine cw_region ?_
  refine wl_u rfl (ow_y (yh_move rfl rfl) rfl rfl (kk_wl ?_))
  refine wl_u rfl (ow_y (yh_move rfl rfl) rfl rfl (kk_wl ?_))
  refine wl_u rfl (ow_y (yh_lenS Tb rfl rfl rfl rfl) rfl rfl (kk_wl ?_))
  refine wl_u rfl (ow_y (yh_cmpI rfl rfl rfl rfl) rfl rfl (kk_wl ?_))
  refine wl_nil ?_
  refine ex_seq ?_
  refine cw_split rfl (fun c1 => ?_) (fun c1 => ?_)
  · skip
    replace h := bt c1 h
    have q1 := ltb_true.1 c1
    refine cw_skip ?_
    refine ex_seq ?_
    refine cw_seq ?_
    refine cw_block ?_
    obtain ⟨e109, he109, hk109⟩ := bd h
    clear h
    refine cw_cut (σ := Unit × Unit) (fun s => e109 = Ex.brk s.1) (fun s => [(0, .slice a_a a.length c_a), (1, .int .i64 s1), (5, .int .i64 ((s5 : Nat) : Int))]) (fun s => []) (fun s hI => ?_) (fun KL hn109 => ?_)
    · skip
      obtain ⟨j109, _⟩ := s
      simp only at hI ⊢
      subst hI
      have h := go_brk hk109
      refine cw_seq ?_
      refine cw_region ?_
      refine wl_u rfl (ow_y (yh_move rfl rfl) rfl rfl (kk_wl ?_))
      refine wl_u rfl (ow_y (yh_arW rfl rfl rfl rfl) rfl rfl (kk_wl ?_))
      refine wl_u rfl (ow_y (yh_assign rfl rfl) rfl rfl (kk_wl ?_))
      refine wl_nil ?_
      refine ex_seq ?_
      refine cw_seq ?_
      refine cw_region ?_
      refine wl_u rfl (ow_y (yh_move rfl rfl) rfl rfl (kk_wl ?_))
      refine wl_u rfl (ow_y (yh_move rfl rfl) rfl rfl (kk_wl ?_))
      obtain ⟨y24, hy24, h⟩ := bd h
      obtain ⟨b24, o24, ha24⟩ := sl_addr h_a hy24
      subst ha24
      obtain ⟨a24, e24, hc24, hf24⟩ := get_step h_a hy24
      have mx24 := rd_max hf24
      refine wl_u rfl (ow_y (yh_idx Tb (k := s5) rfl rfl rfl rfl (get_lt hy24) rfl rfl) rfl rfl (kk_wl ?_))
      refine wl_u rfl (ow_y (yh_field Tb rfl rfl rfl) rfl rfl (kk_wl ?_))
      refine wl_u rfl (ow_y (yh_loadAF Tb (j := 1) rfl rfl rfl hc24 rfl) rfl rfl (kk_wl ?_))
      refine wl_u rfl (ow_y (yh_move rfl rfl) rfl rfl (kk_wl ?_))
      obtain ⟨x28, hx28, h⟩ := bd h
      refine wl_u rfl (ow_cV rfl hb100 rfl (fun w hw => c_laws_heldStringS N _ _ _ hx28 w (Lay.at_ hf24 hw)) rfl rfl (kk_wl ?_))
      refine wl_u rfl (ow_y (yh_assign rfl rfl) rfl rfl (kk_wl ?_))
      refine wl_nil ?_
      refine ex_seq ?_
      refine cw_seq ?_
      refine cw_seq ?_
      refine cw_region ?_
      refine wl_u rfl (ow_y (yh_move rfl rfl) rfl rfl (kk_wl ?_))
      refine wl_u rfl (ow_y (yh_cmpI rfl rfl rfl rfl) rfl rfl (kk_wl ?_))
      refine wl_nil ?_
      refine ex_seq ?_
      refine cw_split rfl (fun c2 => ?_) (fun c2 => ?_)
      · skip
        replace h := bt c2 h
        have q2 := ltb_true.1 c2
        refine cw_seq ?_
        refine cw_region ?_
        refine wl_u rfl (ow_y (yh_assign rfl rfl) rfl rfl (kk_wl ?_))
        refine wl_nil ?_
        refine ex_seq ?_
        refine cw_ret ?_
        refine ex_then_ret ?_
        refine ex_block_ret ?_
        refine ex_then_ret ?_
        refine ex_then_ret ?_
        refine ex_block_ret ?_
        refine ex_then_ret ?_
        obtain rfl := Option.some.inj h
        obtain rfl := go_ret hk5
        exact ex_r1 Tb rfl (.tmp rfl) (fun wq hq => ⟨_, rfl, hq.ext, rfl⟩)
      · skip
        replace h := bf c2 h
        have q3 := ltb_false.1 c2
        refine cw_skip ?_
        refine ex_seq ?_
        refine cw_seq ?_
        refine cw_seq ?_
        refine cw_region ?_
        refine wl_u rfl (ow_y (yh_move rfl rfl) rfl rfl (kk_wl ?_))
        refine wl_u rfl (ow_y (yh_move rfl rfl) rfl rfl (kk_wl ?_))
        refine wl_u rfl (ow_y (yh_idx Tb (k := s5) rfl rfl rfl rfl (get_lt hy24) rfl rfl) rfl rfl (kk_wl ?_))
        refine wl_u rfl (ow_y (yh_field Tb rfl rfl rfl) rfl rfl (kk_wl ?_))
        refine wl_u rfl (ow_y (yh_loadAF Tb (j := 2) rfl rfl rfl hc24 rfl) rfl rfl (kk_wl ?_))
        refine wl_u rfl (ow_y (yh_move rfl rfl) rfl rfl (kk_wl ?_))
        refine wl_u rfl (ow_y (yh_remT rfl rfl rfl (by decide)) rfl rfl (kk_wl ?_))
        refine wl_u rfl (ow_y (yh_cmpI rfl rfl rfl rfl) rfl rfl (kk_wl ?_))
        refine wl_u rfl (ow_y (yh_cmpB rfl rfl rfl rfl (by kernel_rfl)) rfl rfl (kk_wl ?_))
        refine wl_nil ?_
        refine ex_seq ?_
        refine cw_split rfl (fun c3 => ?_) (fun c3 => ?_)
        · skip
          replace h := bt c3 h
          refine cw_seq ?_
          refine cw_region ?_
          refine wl_u rfl (ow_y (yh_assign rfl rfl) rfl rfl (kk_wl ?_))
          refine wl_nil ?_
          refine ex_seq ?_
          refine cw_ret ?_
          refine ex_then_ret ?_
          refine ex_block_ret ?_
          refine ex_then_ret ?_
          refine ex_then_ret ?_
          refine ex_block_ret ?_
          refine ex_then_ret ?_
          obtain rfl := Option.some.inj h
          obtain rfl := go_ret hk5
          exact ex_r1 Tb rfl (.tmp rfl) (fun wq hq => ⟨_, rfl, hq.ext, rfl⟩)
        · skip
          replace h := bf c3 h
          refine cw_skip ?_
          refine ex_seq ?_
          refine cw_region ?_
          refine wl_u rfl (ow_y (yh_move rfl rfl) rfl rfl (kk_wl ?_))
          refine wl_u rfl (ow_y (yh_arW rfl rfl rfl rfl) rfl rfl (kk_wl ?_))
          refine wl_u rfl (ow_y (yh_assign rfl rfl) rfl rfl (kk_wl ?_))
          refine wl_nil ?_
          refine ex_block_normal ?_
          refine ex_seq ?_
          refine cw_region ?_
          refine wl_u rfl (ow_y (yh_move rfl rfl) rfl rfl (kk_wl ?_))
          refine wl_u rfl (ow_y (yh_arI rfl rfl rfl rfl (by omega)) rfl rfl (kk_wl ?_))
          refine wl_u rfl (ow_y (yh_assign rfl rfl) rfl rfl (kk_wl ?_))
          refine wl_nil ?_
          exact ex_next [] (hn5 (n5, w64 (x28 + 1), s5 + 1) (Nat.lt_succ_self _) h) ⟨rfl, rfl, rfl, trivial⟩ (by kernel_rfl)
    · skip
      have h := he109
      refine cw_seq ?_
      refine cw_dr [0, 1, 2, 3, 4, 5, 7] [] [] (by kernel_rfl) ?_
      refine wd_take (i := 0) [] rfl rfl rfl rfl rfl (by kernel_rfl) (by kernel_rfl) (fun _ _ _ _ h => h) (yh_move rfl rfl) ?_
      refine wd_take (i := 1) [] rfl rfl rfl rfl rfl (by kernel_rfl) (by kernel_rfl) (fun _ _ _ _ h => h) (yh_move rfl rfl) ?_
      obtain ⟨y14, hy14, h⟩ := bd h
      obtain ⟨b14, o14, ha14⟩ := sl_addr h_a hy14
      subst ha14
      obtain ⟨a14, e14, hc14, hf14⟩ := get_step h_a hy14
      have mx14 := rd_max hf14
      refine wd_take (i := 2) [] rfl rfl rfl rfl rfl (by kernel_rfl) (by kernel_rfl) (fun _ _ _ _ h => h) (yh_idx Tb (k := s5) rfl rfl rfl rfl (get_lt hy14) rfl rfl) ?_
      refine wd_take (i := 3) [] rfl rfl rfl rfl rfl (by kernel_rfl) (by kernel_rfl) (fun _ _ _ _ h => h) (yh_field Tb rfl rfl rfl) ?_
      refine wd_take (i := 4) [] rfl rfl rfl rfl rfl (by kernel_rfl) (by kernel_rfl) (fun _ _ _ _ h => h) (yh_loadAF Tb (j := 0) rfl rfl rfl hc14 rfl) ?_
      refine wd_take (i := 5) [] rfl rfl rfl rfl rfl (by kernel_rfl) (by kernel_rfl) (fun _ _ _ _ h => h) (yh_move rfl rfl) ?_
      obtain ⟨x18, hx18, h⟩ := bd h
      refine wd_one 6 rfl rfl (by kernel_rfl) (ow_cV rfl hb122 rfl (fun w hw => c_laws_markText N _ _ hx18 w) rfl rfl (kk_wd [] (by kernel_rfl) ?_))
      refine wd_take (i := 7) [] rfl rfl rfl rfl rfl (by kernel_rfl) (by kernel_rfl) (fun _ _ _ _ h => h) (yh_cmpS rfl rfl rfl rfl) ?_
      refine wd_done (by kernel_rfl) ?_
      refine ex_seq ?_
      refine cw_split rfl (fun c4 => ?_) (fun c4 => ?_)
      · skip
        replace h := bt c4 h
        refine cw_seq ?_
        refine cw_region ?_
        refine wl_u rfl (ow_y (yh_assign rfl rfl) rfl rfl (kk_wl ?_))
        refine wl_nil ?_
        refine ex_seq ?_
        refine cw_ret ?_
        refine ex_then_ret ?_
        refine ex_block_ret ?_
        refine ex_then_ret ?_
        refine ex_then_ret ?_
        refine ex_block_ret ?_
        refine ex_then_ret ?_
        obtain rfl := Option.some.inj h
        obtain rfl := go_ret hk109
        obtain rfl := go_ret hk5
        exact ex_r1 Tb rfl (.tmp rfl) (fun wq hq => ⟨_, rfl, hq.ext, rfl⟩)
      · skip
        replace h := bf c4 h
        refine cw_skip ?_
        obtain rfl := Option.some.inj h
        exact ex_next [] (hn109 ((), ()) rfl) ⟨rfl, rfl, rfl, trivial⟩ (by kernel_rfl)
  · skip
    replace h := bf c1 h
    have q4 := ltb_false.1 c1
    refine cw_exit ?_
    refine ex_then_exit ?_
    refine ex_then_exit ?_
    obtain rfl := Option.some.inj h
    have h := go_brk hk5
    refine ex_block_exit ?_
    refine ex_seq ?_
    refine cw_seq ?_
    refine cw_region ?_
    refine wl_u rfl (ow_y (yh_move rfl rfl) rfl rfl (kk_wl ?_))
    refine wl_u rfl (ow_y (yh_assign rfl rfl) rfl rfl (kk_wl ?_))
    refine wl_nil ?_
    refine ex_seq ?_
    refine cw_ret ?_
    obtain rfl := Option.some.inj h
    exact ex_r1 Tb rfl (.tmp rfl) (fun wq hq => ⟨_, rfl, hq.ext, rfl⟩)

def m_laws_heldFlow (N : Nat) (a : Flow) (k : Int) : Option (Int) := (m_laws_heldStepS N a.steps k).bind fun x8 => (bif ltb x8 0 then some (-1)
 else some x8)

set_option maxHeartbeats 4000000 in
theorem c_laws_heldFlow (N : Nat) (a : Flow) (k : Int) (res : Int) (h : m_laws_heldFlow N a k = some res) (w : World) {a_a_steps : Option Addr} {c_a_steps : Nat} (h_a_steps : stepsL.rd w [] [.slice a_a_steps a.steps.length c_a_steps] a.steps) : Ret Try.prog 36 [.agg #[.int .i64 a.ver, .slice a_a_steps a.steps.length c_a_steps], .int .i64 k] w [] fun v w' => v = .int .i64 res := by
  have mh_a_steps := rd_max h_a_steps
  unfold m_laws_heldFlow at h
  refine ret_enter Try.func36 rfl Try.ntmps36 rfl (Hp.refl w _) ?_
  refine cw_seq ?_
  refine cw_region ?_
  refine wl_u rfl (ow_boxA rfl rfl rfl rfl (fun g2 => kk_wl ?_))
  refine wl_u rfl (ow_y (yh_assign rfl rfl) rfl rfl (kk_wl ?_))
  refine wl_nil ?_
  refine ex_seq ?_
  refine cw_seq ?_
  refine cw_region ?_
  refine wl_u rfl (ow_y (yh_field Tb rfl rfl rfl) rfl rfl (kk_wl ?_))
  refine wl_u rfl (ow_y (yh_loadB Tb (k := 0) rfl rfl rfl rfl rfl) rfl rfl (kk_wl ?_))
  refine wl_u rfl (ow_y (yh_move rfl rfl) rfl rfl (kk_wl ?_))
  obtain ⟨x8, hx8, h⟩ := bd h
  refine wl_u rfl (ow_cV rfl hb85 rfl (fun w hw => c_laws_heldStepS N _ _ _ hx8 w (Lay.at_ h_a_steps hw)) rfl rfl (kk_wl ?_))
  refine wl_u rfl (ow_y (yh_assign rfl rfl) rfl rfl (kk_wl ?_))
  refine wl_nil ?_
  refine ex_seq ?_
  refine cw_seq ?_
  refine cw_seq ?_
  refine cw_region ?_
  refine wl_u rfl (ow_y (yh_move rfl rfl) rfl rfl (kk_wl ?_))
  refine wl_u rfl (ow_y (yh_cmpI rfl rfl rfl rfl) rfl rfl (kk_wl ?_))
  refine wl_nil ?_
  refine ex_seq ?_
  refine cw_split rfl (fun c1 => ?_) (fun c1 => ?_)
  · skip
    replace h := bt c1 h
    have q1 := ltb_true.1 c1
    refine cw_seq ?_
    refine cw_region ?_
    refine wl_u rfl (ow_y (yh_assign rfl rfl) rfl rfl (kk_wl ?_))
    refine wl_nil ?_
    refine ex_seq ?_
    refine cw_ret ?_
    refine ex_then_ret ?_
    obtain rfl := Option.some.inj h
    exact ex_r1 Tb rfl (.tmp rfl) (fun wq hq => ⟨_, rfl, hq.ext, rfl⟩)
  · skip
    replace h := bf c1 h
    have q2 := ltb_false.1 c1
    refine cw_skip ?_
    refine ex_seq ?_
    refine cw_seq ?_
    refine cw_region ?_
    refine wl_u rfl (ow_y (yh_move rfl rfl) rfl rfl (kk_wl ?_))
    refine wl_u rfl (ow_y (yh_assign rfl rfl) rfl rfl (kk_wl ?_))
    refine wl_nil ?_
    refine ex_seq ?_
    refine cw_ret ?_
    obtain rfl := Option.some.inj h
    exact ex_r1 Tb rfl (.tmp rfl) (fun wq hq => ⟨_, rfl, hq.ext, rfl⟩)

def m_laws_FnExactRegistryFind (N : Nat) (u0 : List Flow) (u1 : Int) : Option (Bool) := (m_laws_szFlowS N u0 1048576).bind fun x18 => (bif ltb x18 0 then some true
 else (m_laws_toFlowS N u0).bind fun x23 => (m_spec_RegistryFind N x23 u1).bind fun x25 => (m_laws_toFlowS N u0).bind fun x29 => (m_impl_RegistryFind N x29 u1).bind fun x33 => (m_laws_eqFlow N x33.1 x25.1).bind fun x38 => (bif !x38 then some false
 else (bif x33.2 != x25.2 then some false
 else (m_laws_toFlowS N u0).bind fun x47 => (m_laws_eqFlowS N x29 x47).bind fun x48 => (bif !x48 then some false
 else (m_laws_markFlowS N x29 1).bind fun x52 => (bif ltb x52.1 0 then some false
 else (m_laws_eqFlow N x33.1 x25.1).bind fun x58 => (bif !x58 then some false
 else (m_laws_markFlow N x33.1 1).bind fun x68 => (m_laws_heldFlow N (Flow.mk x33.1.ver x68.2) 1).bind fun x71 => (bif ltb x71 0 then some false
 else (bif !(eqb x71 x68.1) then some false
 else (m_laws_toFlowS N u0).bind fun x79 => (m_impl_RegistryFind N x79 u1).bind fun x81 => (m_laws_eqFlow N x81.1 x25.1).bind fun x86 => (bif !x86 then some false
 else (bif x81.2 != x25.2 then some false
 else (m_laws_heldFlow N (Flow.mk x33.1.ver x68.2) 1).bind fun x95 => (bif ltb x95 0 then some false
 else (bif !(eqb x95 x68.1) then some false
 else some true))))))))))))

set_option maxHeartbeats 4000000 in
theorem c_laws_FnExactRegistryFind (N : Nat) (u0 : List Flow) (u1 : Int) (res : Bool) (h : m_laws_FnExactRegistryFind N u0 u1 = some res) (w : World) {a_u0 : Option Addr} {c_u0 : Nat} (h_u0 : flowsL.rd w [] [.slice a_u0 u0.length c_u0] u0) : Ret Try.prog 8 [.slice a_u0 u0.length c_u0, .int .i64 u1] w [] fun v w' => v = .bool res := by
  have mh_u0 := rd_max h_u0
  unfold m_laws_FnExactRegistryFind at h
  refine ret_enter Try.func8 rfl Try.ntmps8 rfl (Hp.refl w _) ?_
  refine cw_seq ?_
  refine cw_region ?_
  refine wl_u rfl (ow_y (yh_assign rfl rfl) rfl rfl (kk_wl ?_))
  refine wl_nil ?_
  refine ex_seq ?_
  refine cw_seq ?_
  refine cw_region ?_
  refine wl_u rfl (ow_y (yh_assign rfl rfl) rfl rfl (kk_wl ?_))
  refine wl_nil ?_
  refine ex_seq ?_
  refine cw_seq ?_
  refine cw_region ?_
  refine wl_u rfl (ow_y (yh_move rfl rfl) rfl rfl (kk_wl ?_))
  refine wl_u rfl (ow_y (yh_move rfl rfl) rfl rfl (kk_wl ?_))
  obtain ⟨x18, hx18, h⟩ := bd h
  refine wl_u rfl (ow_cV rfl hb29 rfl (fun w hw => c_laws_szFlowS N _ _ _ hx18 w (Lay.at_ h_u0 hw)) rfl rfl (kk_wl ?_))
  refine wl_u rfl (ow_y (yh_assign rfl rfl) rfl rfl (kk_wl ?_))
  refine wl_nil ?_
  refine ex_seq ?_
  refine cw_seq ?_
  refine cw_seq ?_
  refine cw_region ?_
  refine wl_u rfl (ow_y (yh_move rfl rfl) rfl rfl (kk_wl ?_))
  refine wl_u rfl (ow_y (yh_cmpI rfl rfl rfl rfl) rfl rfl (kk_wl ?_))
  refine wl_nil ?_
  refine ex_seq ?_
  refine cw_split rfl (fun c1 => ?_) (fun c1 => ?_)
  · skip
    replace h := bt c1 h
    have q1 := ltb_true.1 c1
    refine cw_seq ?_
    refine cw_region ?_
    refine wl_u rfl (ow_y (yh_assign rfl rfl) rfl rfl (kk_wl ?_))
    refine wl_nil ?_
    refine ex_seq ?_
    refine cw_ret ?_
    refine ex_then_ret ?_
    obtain rfl := Option.some.inj h
    exact ex_r1 Tb rfl (.tmp rfl) (fun wq hq => ⟨_, rfl, hq.ext, rfl⟩)
  · skip
    replace h := bf c1 h
    have q2 := ltb_false.1 c1
    refine cw_skip ?_
    refine ex_seq ?_
    refine cw_seq ?_
    refine cw_region ?_
    refine wl_u rfl (ow_y (yh_move rfl rfl) rfl rfl (kk_wl ?_))
    obtain ⟨x23, hx23, h⟩ := bd h
    refine wl_u rfl (ow_cN1 rfl hb31 rfl (fun w hw => c_laws_toFlowS N _ _ hx23 w (Lay.at_ h_u0 hw)) rfl rfl (fun a23 c23 F23 => kk_wl ?_))
    refine wl_u rfl (ow_y (yh_move rfl rfl) rfl rfl (kk_wl ?_))
    obtain ⟨x25, hx25, h⟩ := bd h
    refine wl_u rfl (ow_cN1 rfl hb30 rfl (fun w hw => c_spec_RegistryFind N _ _ _ hx25 w (rdo (A := flowsL) 0 rfl hw)) rfl rfl (fun a25 c25 F25 => kk_wl ?_))
    refine wl_u rfl (ow_y (yh_move rfl rfl) rfl rfl (kk_wl ?_))
    refine wl_u rfl (ow_y (yh_extract rfl rfl rfl) rfl rfl (kk_wl ?_))
    refine wl_u rfl (ow_y (yh_extract rfl rfl rfl) rfl rfl (kk_wl ?_))
    refine wl_u rfl (ow_allocA Tb rfl rfl rfl rfl (fun g6 => kk_wl ?_))
    refine wl_u rfl (ow_storeA Tb (k := 0) rfl rfl rfl rfl rfl rfl rfl rfl rfl (kk_wl ?_))
    refine wl_u rfl (ow_y (yh_assign rfl rfl) rfl rfl (kk_wl ?_))
    refine wl_nil ?_
    refine ex_seq ?_
    refine cw_seq ?_
    refine cw_region ?_
    refine wl_u rfl (ow_y (yh_move rfl rfl) rfl rfl (kk_wl ?_))
    obtain ⟨x29, hx29, h⟩ := bd h
    refine wl_u rfl (ow_cN1 rfl hb31 rfl (fun w hw => c_laws_toFlowS N _ _ hx29 w (Lay.at_ h_u0 hw)) rfl rfl (fun a29 c29 F29 => kk_wl ?_))
    refine wl_u rfl (ow_y (yh_assign rfl rfl) rfl rfl (kk_wl ?_))
    refine wl_nil ?_
    refine ex_seq ?_
    refine cw_seq ?_
    refine cw_region ?_
    refine wl_u rfl (ow_y (yh_move rfl rfl) rfl rfl (kk_wl ?_))
    refine wl_u rfl (ow_y (yh_move rfl rfl) rfl rfl (kk_wl ?_))
    obtain ⟨x33, hx33, h⟩ := bd h
    refine wl_u rfl (ow_cN1 rfl hb24 rfl (fun w hw => c_impl_RegistryFind N _ _ _ hx33 w (rdo (A := flowsL) 0 rfl hw)) rfl rfl (fun a33 c33 F33 => kk_wl ?_))
    refine wl_u rfl (ow_y (yh_move rfl rfl) rfl rfl (kk_wl ?_))
    refine wl_u rfl (ow_y (yh_extract rfl rfl rfl) rfl rfl (kk_wl ?_))
    refine wl_u rfl (ow_y (yh_extract rfl rfl rfl) rfl rfl (kk_wl ?_))
    refine wl_u rfl (ow_allocA Tb rfl rfl rfl rfl (fun g9 => kk_wl ?_))
    refine wl_u rfl (ow_storeA Tb (k := 0) rfl rfl rfl rfl rfl rfl rfl rfl rfl (kk_wl ?_))
    refine wl_u rfl (ow_y (yh_assign rfl rfl) rfl rfl (kk_wl ?_))
    refine wl_nil ?_
    refine ex_seq ?_
    refine cw_seq ?_
    refine cw_seq ?_
    refine cw_region ?_
    refine wl_u rfl (ow_y (yh_loadBA Tb (k := 0) rfl rfl rfl rfl rfl rfl) rfl rfl (kk_wl ?_))
    refine wl_u rfl (ow_y (yh_loadBA Tb (k := 3) rfl rfl rfl rfl rfl rfl) rfl rfl (kk_wl ?_))
    obtain ⟨x38, hx38, h⟩ := bd h
    refine wl_u rfl (ow_cV rfl hb32 rfl (fun w hw => c_laws_eqFlow N _ _ _ hx38 w (rdo (A := stepsL) 1 rfl hw) (rdo (A := stepsL) 4 rfl hw)) rfl rfl (kk_wl ?_))
    refine wl_u rfl (ow_y (yh_not rfl rfl) rfl rfl (kk_wl ?_))
    refine wl_u rfl (ow_y (yh_move rfl rfl) rfl rfl (kk_wl ?_))
    refine wl_s rfl rfl (fun c2 => ?_) (fun c2 => ?_)
    · skip
      replace h := bt c2 h
      refine wl_n rfl rfl rfl rfl ?_
      refine wl_n rfl rfl rfl rfl ?_
      refine wl_n rfl rfl rfl rfl ?_
      refine wl_u rfl (ow_y (yh_pickT rfl rfl rfl) rfl rfl (kk_wl ?_))
      refine wl_nil ?_
      refine ex_seq ?_
      refine cw_true rfl ?_
      refine cw_seq ?_
      refine cw_region ?_
      refine wl_u rfl (ow_y (yh_assign rfl rfl) rfl rfl (kk_wl ?_))
      refine wl_nil ?_
      refine ex_seq ?_
      refine cw_ret ?_
      refine ex_then_ret ?_
      obtain rfl := Option.some.inj h
      exact ex_r1 Tb rfl (.tmp rfl) (fun wq hq => ⟨_, rfl, hq.ext, rfl⟩)
    · skip
      replace h := bf c2 h
      refine wl_g rfl rfl (ow_y (yh_move rfl rfl) rfl rfl (kk_wl ?_))
      refine wl_g rfl rfl (ow_y (yh_move rfl rfl) rfl rfl (kk_wl ?_))
      refine wl_g rfl rfl (ow_y (yh_cmpB rfl rfl rfl rfl (by kernel_rfl)) rfl rfl (kk_wl ?_))
      refine wl_u rfl (ow_y (yh_pickF rfl rfl rfl) rfl rfl (kk_wl ?_))
      refine wl_nil ?_
      refine ex_seq ?_
      refine cw_split rfl (fun c3 => ?_) (fun c3 => ?_)
      · skip
        replace h := bt c3 h
        refine cw_seq ?_
        refine cw_region ?_
        refine wl_u rfl (ow_y (yh_assign rfl rfl) rfl rfl (kk_wl ?_))
        refine wl_nil ?_
        refine ex_seq ?_
        refine cw_ret ?_
        refine ex_then_ret ?_
        obtain rfl := Option.some.inj h
        exact ex_r1 Tb rfl (.tmp rfl) (fun wq hq => ⟨_, rfl, hq.ext, rfl⟩)
      · skip
        replace h := bf c3 h
        refine cw_skip ?_
        refine ex_seq ?_
        refine cw_seq ?_
        refine cw_seq ?_
        refine cw_region ?_
        refine wl_u rfl (ow_y (yh_move rfl rfl) rfl rfl (kk_wl ?_))
        refine wl_u rfl (ow_y (yh_move rfl rfl) rfl rfl (kk_wl ?_))
        obtain ⟨x47, hx47, h⟩ := bd h
        refine wl_u rfl (ow_cN1 rfl hb31 rfl (fun w hw => c_laws_toFlowS N _ _ hx47 w (Lay.at_ h_u0 hw)) rfl rfl (fun a47 c47 F47 => kk_wl ?_))
        obtain ⟨x48, hx48, h⟩ := bd h
        refine wl_u rfl (ow_cV rfl hb33 rfl (fun w hw => c_laws_eqFlowS N _ _ _ hx48 w (rdo (A := flowsL) 3 rfl hw) (rdo (A := flowsL) 0 rfl hw)) rfl rfl (kk_wl ?_))
        refine wl_u rfl (ow_y (yh_not rfl rfl) rfl rfl (kk_wl ?_))
        refine wl_nil ?_
        refine ex_seq ?_
        refine cw_split rfl (fun c4 => ?_) (fun c4 => ?_)
        · skip
          replace h := bt c4 h
          refine cw_seq ?_
          refine cw_region ?_
          refine wl_u rfl (ow_y (yh_assign rfl rfl) rfl rfl (kk_wl ?_))
          refine wl_nil ?_
          refine ex_seq ?_
          refine cw_ret ?_
          refine ex_then_ret ?_
          obtain rfl := Option.some.inj h
          exact ex_r1 Tb rfl (.tmp rfl) (fun wq hq => ⟨_, rfl, hq.ext, rfl⟩)
        · skip
          replace h := bf c4 h
          refine cw_skip ?_
          refine ex_seq ?_
          refine cw_seq ?_
          refine cw_region ?_
          refine wl_u rfl (ow_y (yh_assign rfl rfl) rfl rfl (kk_wl ?_))
          refine wl_nil ?_
          refine ex_seq ?_
          refine cw_seq ?_
          refine cw_region ?_
          refine wl_u rfl (ow_y (yh_move rfl rfl) rfl rfl (kk_wl ?_))
          refine wl_u rfl (ow_y (yh_move rfl rfl) rfl rfl (kk_wl ?_))
          obtain ⟨x52, hx52, h⟩ := bd h
          refine wl_u rfl (ow_cF1 3 rfl hb34 rfl rfl (fun w hw => c_laws_markFlowS N _ _ _ hx52 w (hw.at (i := 3) rfl) (hw.ndAt (i := 3) rfl)) rfl rfl (fun F52 => kk_wl ?_))
          refine wl_u rfl (ow_y (yh_assign rfl rfl) rfl rfl (kk_wl ?_))
          refine wl_nil ?_
          refine ex_seq ?_
          refine cw_seq ?_
          refine cw_seq ?_
          refine cw_region ?_
          refine wl_u rfl (ow_y (yh_move rfl rfl) rfl rfl (kk_wl ?_))
          refine wl_u rfl (ow_y (yh_cmpI rfl rfl rfl rfl) rfl rfl (kk_wl ?_))
          refine wl_u rfl (ow_y (yh_move rfl rfl) rfl rfl (kk_wl ?_))
          refine wl_s rfl rfl (fun c5 => ?_) (fun c5 => ?_)
          · skip
            replace h := bt c5 h
            have q3 := ltb_true.1 c5
            refine wl_n rfl rfl rfl rfl ?_
            refine wl_n rfl rfl rfl rfl ?_
            refine wl_n rfl rfl rfl rfl ?_
            refine wl_n rfl rfl rfl rfl ?_
            refine wl_u rfl (ow_y (yh_pickT rfl rfl rfl) rfl rfl (kk_wl ?_))
            refine wl_u rfl (ow_y (yh_move rfl rfl) rfl rfl (kk_wl ?_))
            refine wl_s rfl rfl (fun _ => ?_) nofun
            refine wl_n rfl rfl rfl rfl ?_
            refine wl_n rfl rfl rfl rfl ?_
            refine wl_n rfl rfl rfl rfl ?_
            refine wl_u rfl (ow_y (yh_pickT rfl rfl rfl) rfl rfl (kk_wl ?_))
            refine wl_nil ?_
            refine ex_seq ?_
            refine cw_true rfl ?_
            refine cw_seq ?_
            refine cw_region ?_
            refine wl_u rfl (ow_y (yh_assign rfl rfl) rfl rfl (kk_wl ?_))
            refine wl_nil ?_
            refine ex_seq ?_
            refine cw_ret ?_
            refine ex_then_ret ?_
            obtain rfl := Option.some.inj h
            exact ex_r1 Tb rfl (.tmp rfl) (fun wq hq => ⟨_, rfl, hq.ext, rfl⟩)
          · skip
            replace h := bf c5 h
            have q4 := ltb_false.1 c5
            refine wl_g rfl rfl (ow_y (yh_loadBA Tb (k := 2) rfl rfl rfl rfl rfl rfl) rfl rfl (kk_wl ?_))
            refine wl_g rfl rfl (ow_y (yh_loadBA Tb (k := 4) rfl rfl rfl rfl rfl rfl) rfl rfl (kk_wl ?_))
            obtain ⟨x58, hx58, h⟩ := bd h
            refine wl_g rfl rfl (ow_cV rfl hb32 rfl (fun w hw => c_laws_eqFlow N _ _ _ hx58 w (rdo (A := stepsL) 3 rfl hw) (rdo (A := stepsL) 5 rfl hw)) rfl rfl (kk_wl ?_))
            refine wl_g rfl rfl (ow_y (yh_not rfl rfl) rfl rfl (kk_wl ?_))
            refine wl_u rfl (ow_y (yh_pickF rfl rfl rfl) rfl rfl (kk_wl ?_))
            refine wl_u rfl (ow_y (yh_move rfl rfl) rfl rfl (kk_wl ?_))
            refine wl_s rfl rfl (fun c6 => ?_) (fun c6 => ?_)
            · skip
              replace h := bt c6 h
              refine wl_n rfl rfl rfl rfl ?_
              refine wl_n rfl rfl rfl rfl ?_
              refine wl_n rfl rfl rfl rfl ?_
              refine wl_u rfl (ow_y (yh_pickT rfl rfl rfl) rfl rfl (kk_wl ?_))
              refine wl_nil ?_
              refine ex_seq ?_
              refine cw_true rfl ?_
              refine cw_seq ?_
              refine cw_region ?_
              refine wl_u rfl (ow_y (yh_assign rfl rfl) rfl rfl (kk_wl ?_))
              refine wl_nil ?_
              refine ex_seq ?_
              refine cw_ret ?_
              refine ex_then_ret ?_
              obtain rfl := Option.some.inj h
              exact ex_r1 Tb rfl (.tmp rfl) (fun wq hq => ⟨_, rfl, hq.ext, rfl⟩)
            · skip
              replace h := bf c6 h
              refine wl_g rfl rfl (ow_y (yh_move rfl rfl) rfl rfl (kk_wl ?_))
              refine wl_g rfl rfl (ow_y (yh_move rfl rfl) rfl rfl (kk_wl ?_))
              refine wl_g rfl rfl (ow_y (yh_cmpB rfl rfl rfl rfl (by kernel_rfl)) rfl rfl (kk_wl ?_))
              refine wl_u rfl (ow_y (yh_pickF rfl rfl rfl) rfl rfl (kk_wl ?_))
              refine wl_nil ?_
              refine ex_seq ?_
              refine cw_split rfl (fun hc => Bool.noConfusion (c3.symm.trans hc)) (fun _ => ?_)
              refine cw_skip ?_
              refine ex_seq ?_
              refine cw_seq ?_
              refine cw_region ?_
              refine wl_u rfl (ow_y (yh_assign rfl rfl) rfl rfl (kk_wl ?_))
              refine wl_nil ?_
              refine ex_seq ?_
              refine cw_seq ?_
              refine cw_region ?_
              refine wl_u rfl (ow_y (yh_loadBA Tb (k := 2) rfl rfl rfl rfl rfl rfl) rfl rfl (kk_wl ?_))
              refine wl_u rfl (ow_y (yh_move rfl rfl) rfl rfl (kk_wl ?_))
              obtain ⟨x68, hx68, h⟩ := bd h
              refine wl_u rfl (ow_cF1 3 rfl hb35 rfl rfl (fun w hw => c_laws_markFlow N _ _ _ hx68 w (hw.at (i := 3) rfl) (hw.ndAt (i := 3) rfl)) rfl rfl (fun F68 => kk_wl ?_))
              refine wl_u rfl (ow_y (yh_assign rfl rfl) rfl rfl (kk_wl ?_))
              refine wl_nil ?_
              refine ex_seq ?_
              refine cw_seq ?_
              refine cw_region ?_
              refine wl_u rfl (ow_y (yh_assign rfl rfl) rfl rfl (kk_wl ?_))
              refine wl_nil ?_
              refine ex_seq ?_
              refine cw_seq ?_
              refine cw_region ?_
              refine wl_u rfl (ow_y (yh_loadBA Tb (k := 3) rfl rfl rfl rfl rfl rfl) rfl rfl (kk_wl ?_))
              refine wl_u rfl (ow_y (yh_move rfl rfl) rfl rfl (kk_wl ?_))
              refine wl_know (x33.1.steps.length = x68.2.length) (fun w hw => own_lenK 0 rfl hw) (fun hr2_ => ?_)
              rw [hr2_]
              obtain ⟨x71, hx71, h⟩ := bd h
              refine wl_u rfl (ow_cV rfl hb36 rfl (fun w hw => c_laws_heldFlow N _ _ _ hx71 w (rdo (A := stepsL) 0 rfl hw)) rfl rfl (kk_wl ?_))
              refine wl_u rfl (ow_y (yh_assign rfl rfl) rfl rfl (kk_wl ?_))
              refine wl_nil ?_
              refine ex_seq ?_
              refine cw_seq ?_
              refine cw_seq ?_
              refine cw_region ?_
              refine wl_u rfl (ow_y (yh_move rfl rfl) rfl rfl (kk_wl ?_))
              refine wl_u rfl (ow_y (yh_cmpI rfl rfl rfl rfl) rfl rfl (kk_wl ?_))
              refine wl_nil ?_
              refine ex_seq ?_
              refine cw_split rfl (fun c7 => ?_) (fun c7 => ?_)
              · skip
                replace h := bt c7 h
                have q5 := ltb_true.1 c7
                refine cw_seq ?_
                refine cw_region ?_
                refine wl_u rfl (ow_y (yh_assign rfl rfl) rfl rfl (kk_wl ?_))
                refine wl_nil ?_
                refine ex_seq ?_
                refine cw_ret ?_
                refine ex_then_ret ?_
                obtain rfl := Option.some.inj h
                exact ex_r1 Tb rfl (.tmp rfl) (fun wq hq => ⟨_, rfl, hq.ext, rfl⟩)
              · skip
                replace h := bf c7 h
                have q6 := ltb_false.1 c7
                refine cw_skip ?_
                refine ex_seq ?_
                refine cw_seq ?_
                refine cw_seq ?_
                refine cw_region ?_
                refine wl_u rfl (ow_y (yh_move rfl rfl) rfl rfl (kk_wl ?_))
                refine wl_u rfl (ow_y (yh_move rfl rfl) rfl rfl (kk_wl ?_))
                refine wl_u rfl (ow_y (yh_cmpI rfl rfl rfl rfl) rfl rfl (kk_wl ?_))
                refine wl_nil ?_
                refine ex_seq ?_
                refine cw_split rfl (fun c8 => ?_) (fun c8 => ?_)
                · skip
                  replace h := bt c8 h
                  have q7 := eqb_false.1 (nt c8)
                  refine cw_seq ?_
                  refine cw_region ?_
                  refine wl_u rfl (ow_y (yh_assign rfl rfl) rfl rfl (kk_wl ?_))
                  refine wl_nil ?_
                  refine ex_seq ?_
                  refine cw_ret ?_
                  refine ex_then_ret ?_
                  obtain rfl := Option.some.inj h
                  exact ex_r1 Tb rfl (.tmp rfl) (fun wq hq => ⟨_, rfl, hq.ext, rfl⟩)
                · skip
                  replace h := bf c8 h
                  have q8 := eqb_true.1 (nf c8)
                  refine cw_skip ?_
                  refine ex_seq ?_
                  refine cw_seq ?_
                  refine cw_region ?_
                  refine wl_u rfl (ow_y (yh_move rfl rfl) rfl rfl (kk_wl ?_))
                  obtain ⟨x79, hx79, h⟩ := bd h
                  refine wl_u rfl (ow_cN1 rfl hb31 rfl (fun w hw => c_laws_toFlowS N _ _ hx79 w (Lay.at_ h_u0 hw)) rfl rfl (fun a79 c79 F79 => kk_wl ?_))
                  refine wl_u rfl (ow_y (yh_move rfl rfl) rfl rfl (kk_wl ?_))
                  obtain ⟨x81, hx81, h⟩ := bd h
                  refine wl_u rfl (ow_cN1 rfl hb24 rfl (fun w hw => c_impl_RegistryFind N _ _ _ hx81 w (rdo (A := flowsL) 0 rfl hw)) rfl rfl (fun a81 c81 F81 => kk_wl ?_))
                  refine wl_u rfl (ow_y (yh_move rfl rfl) rfl rfl (kk_wl ?_))
                  refine wl_u rfl (ow_y (yh_extract rfl rfl rfl) rfl rfl (kk_wl ?_))
                  refine wl_u rfl (ow_y (yh_extract rfl rfl rfl) rfl rfl (kk_wl ?_))
                  refine wl_u rfl (ow_allocA Tb rfl rfl rfl rfl (fun g14 => kk_wl ?_))
                  refine wl_u rfl (ow_storeA Tb (k := 0) rfl rfl rfl rfl rfl rfl rfl rfl rfl (kk_wl ?_))
                  refine wl_u rfl (ow_y (yh_assign rfl rfl) rfl rfl (kk_wl ?_))
                  refine wl_nil ?_
                  refine ex_seq ?_
                  refine cw_seq ?_
                  refine cw_seq ?_
                  refine cw_region ?_
                  refine wl_u rfl (ow_y (yh_loadBA Tb (k := 0) rfl rfl rfl rfl rfl rfl) rfl rfl (kk_wl ?_))
                  refine wl_u rfl (ow_y (yh_loadBA Tb (k := 7) rfl rfl rfl rfl rfl rfl) rfl rfl (kk_wl ?_))
                  obtain ⟨x86, hx86, h⟩ := bd h
                  refine wl_u rfl (ow_cV rfl hb32 rfl (fun w hw => c_laws_eqFlow N _ _ _ hx86 w (rdo (A := stepsL) 1 rfl hw) (rdo (A := stepsL) 8 rfl hw)) rfl rfl (kk_wl ?_))
                  refine wl_u rfl (ow_y (yh_not rfl rfl) rfl rfl (kk_wl ?_))
                  refine wl_u rfl (ow_y (yh_move rfl rfl) rfl rfl (kk_wl ?_))
                  refine wl_s rfl rfl (fun c9 => ?_) (fun c9 => ?_)
                  · skip
                    replace h := bt c9 h
                    refine wl_n rfl rfl rfl rfl ?_
                    refine wl_n rfl rfl rfl rfl ?_
                    refine wl_n rfl rfl rfl rfl ?_
                    refine wl_u rfl (ow_y (yh_pickT rfl rfl rfl) rfl rfl (kk_wl ?_))
                    refine wl_nil ?_
                    refine ex_seq ?_
                    refine cw_true rfl ?_
                    refine cw_seq ?_
                    refine cw_region ?_
                    refine wl_u rfl (ow_y (yh_assign rfl rfl) rfl rfl (kk_wl ?_))
                    refine wl_nil ?_
                    refine ex_seq ?_
                    refine cw_ret ?_
                    refine ex_then_ret ?_
                    obtain rfl := Option.some.inj h
                    exact ex_r1 Tb rfl (.tmp rfl) (fun wq hq => ⟨_, rfl, hq.ext, rfl⟩)
                  · skip
                    replace h := bf c9 h
                    refine wl_g rfl rfl (ow_y (yh_move rfl rfl) rfl rfl (kk_wl ?_))
                    refine wl_g rfl rfl (ow_y (yh_move rfl rfl) rfl rfl (kk_wl ?_))
                    refine wl_g rfl rfl (ow_y (yh_cmpB rfl rfl rfl rfl (by kernel_rfl)) rfl rfl (kk_wl ?_))
                    refine wl_u rfl (ow_y (yh_pickF rfl rfl rfl) rfl rfl (kk_wl ?_))
                    refine wl_nil ?_
                    refine ex_seq ?_
                    refine cw_split rfl (fun c10 => ?_) (fun c10 => ?_)
                    · skip
                      replace h := bt c10 h
                      refine cw_seq ?_
                      refine cw_region ?_
                      refine wl_u rfl (ow_y (yh_assign rfl rfl) rfl rfl (kk_wl ?_))
                      refine wl_nil ?_
                      refine ex_seq ?_
                      refine cw_ret ?_
                      refine ex_then_ret ?_
                      obtain rfl := Option.some.inj h
                      exact ex_r1 Tb rfl (.tmp rfl) (fun wq hq => ⟨_, rfl, hq.ext, rfl⟩)
                    · skip
                      replace h := bf c10 h
                      refine cw_skip ?_
                      refine ex_seq ?_
                      refine cw_seq ?_
                      refine cw_region ?_
                      refine wl_u rfl (ow_y (yh_assign rfl rfl) rfl rfl (kk_wl ?_))
                      refine wl_nil ?_
                      refine ex_seq ?_
                      refine cw_seq ?_
                      refine cw_region ?_
                      refine wl_u rfl (ow_y (yh_loadBA Tb (k := 6) rfl rfl rfl rfl rfl rfl) rfl rfl (kk_wl ?_))
                      refine wl_u rfl (ow_y (yh_move rfl rfl) rfl rfl (kk_wl ?_))
                      obtain ⟨x95, hx95, h⟩ := bd h
                      refine wl_u rfl (ow_cV rfl hb36 rfl (fun w hw => c_laws_heldFlow N _ _ _ hx95 w (rdo (A := stepsL) 3 rfl hw)) rfl rfl (kk_wl ?_))
                      refine wl_u rfl (ow_y (yh_assign rfl rfl) rfl rfl (kk_wl ?_))
                      refine wl_nil ?_
                      refine ex_seq ?_
                      refine cw_seq ?_
                      refine cw_seq ?_
                      refine cw_region ?_
                      refine wl_u rfl (ow_y (yh_move rfl rfl) rfl rfl (kk_wl ?_))
                      refine wl_u rfl (ow_y (yh_cmpI rfl rfl rfl rfl) rfl rfl (kk_wl ?_))
                      refine wl_nil ?_
                      refine ex_seq ?_
                      refine cw_split rfl (fun c11 => ?_) (fun c11 => ?_)
                      · skip
                        replace h := bt c11 h
                        have q9 := ltb_true.1 c11
                        refine cw_seq ?_
                        refine cw_region ?_
                        refine wl_u rfl (ow_y (yh_assign rfl rfl) rfl rfl (kk_wl ?_))
                        refine wl_nil ?_
                        refine ex_seq ?_
                        refine cw_ret ?_
                        refine ex_then_ret ?_
                        obtain rfl := Option.some.inj h
                        exact ex_r1 Tb rfl (.tmp rfl) (fun wq hq => ⟨_, rfl, hq.ext, rfl⟩)
                      · skip
                        replace h := bf c11 h
                        have q10 := ltb_false.1 c11
                        refine cw_skip ?_
                        refine ex_seq ?_
                        refine cw_seq ?_
                        refine cw_seq ?_
                        refine cw_region ?_
                        refine wl_u rfl (ow_y (yh_move rfl rfl) rfl rfl (kk_wl ?_))
                        refine wl_u rfl (ow_y (yh_move rfl rfl) rfl rfl (kk_wl ?_))
                        refine wl_u rfl (ow_y (yh_cmpI rfl rfl rfl rfl) rfl rfl (kk_wl ?_))
                        refine wl_nil ?_
                        refine ex_seq ?_
                        refine cw_split rfl (fun c12 => ?_) (fun c12 => ?_)
                        · skip
                          replace h := bt c12 h
                          have q11 := eqb_false.1 (nt c12)
                          refine cw_seq ?_
                          refine cw_region ?_
                          refine wl_u rfl (ow_y (yh_assign rfl rfl) rfl rfl (kk_wl ?_))
                          refine wl_nil ?_
                          refine ex_seq ?_
                          refine cw_ret ?_
                          refine ex_then_ret ?_
                          obtain rfl := Option.some.inj h
                          exact ex_r1 Tb rfl (.tmp rfl) (fun wq hq => ⟨_, rfl, hq.ext, rfl⟩)
                        · skip
                          replace h := bf c12 h
                          have q12 := eqb_true.1 (nf c12)
                          refine cw_skip ?_
                          refine ex_seq ?_
                          refine cw_seq ?_
                          refine cw_region ?_
                          refine wl_u rfl (ow_y (yh_assign rfl rfl) rfl rfl (kk_wl ?_))
                          refine wl_nil ?_
                          refine ex_seq ?_
                          refine cw_ret ?_
                          obtain rfl := Option.some.inj h
                          exact ex_r1 Tb rfl (.tmp rfl) (fun wq hq => ⟨_, rfl, hq.ext, rfl⟩)

end Go.Proofs.Ytlcckcifnpjbpaa
