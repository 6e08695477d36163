/- Mirrors and contracts, printed by a program: what each function computes as a plain term, and that it does. -/
import Derived.Test.YtmnhnldnnniglaaR
import Derived.Test.YtmnhnldnnniglaaK
import Derived.Test.YtmnhnldnnniglaaWD0
import Derived.Test.YtmnhnldnnniglaaWD1
import Derived.Test.YtmnhnldnnniglaaWD2
set_option linter.all false
set_option maxRecDepth 100000
namespace Go.Proofs.Ytmnhnldnnniglaa
open Go.RowKit

def m_laws_FnChangesOfKinds_L17 (N : Nat) (x27 : List Change × Bool) : Nat → (List Str) → (List Str) → Nat → Option (Ex (List Str × List Str × Nat) (Bool))
  | 0, _, _, _ => none
  | n + 1, s9, s10, s11 => (bif ltb ((s11 : Nat) : Int) ((x27.1.length : Nat) : Int) then ((x27.1[s11]?).bind fun y67 => (bif eqb y67.kind 1 then (appd s9 ([y67.step.name] : List Str)).bind fun l79 => some (s9 ++ ([y67.step.name] : List Str))
 else some s9) : Option ((List Str))).bind fun j121 => (x27.1[s11]?).bind fun y82 => (bif eqb y82.kind 2 then (appd s10 ([y82.step.name] : List Str)).bind fun l94 => m_laws_FnChangesOfKinds_L17 N x27 n j121 (s10 ++ ([y82.step.name] : List Str)) (s11 + 1)
 else m_laws_FnChangesOfKinds_L17 N x27 n j121 s10 (s11 + 1))
 else some (Ex.brk (s9, s10, s11)))

def m_laws_FnChangesOfKinds (N : Nat) (u0 : List UInt8) : Option (Bool) := (bif ltb 1048576 ((u0.length : Nat) : Int) then some true
 else (m_spec_DrawChangesOf N u0).bind fun x21 => (m_impl_ChangesOf N x21.1 x21.2).bind fun x27 => (m_spec_ChangesOf N x21.1 x21.2).bind fun x33 => (bif x27.2 != x33.2 then (bif x27.2 == x33.2 then (m_laws_sameChanges N x27.1 x33.1).bind fun x55 => some x55
 else some false)
 else (m_laws_sameChanges N x27.1 x33.1).bind fun x42 => (bif !x42 then (bif x27.2 == x33.2 then (m_laws_sameChanges N x27.1 x33.1).bind fun x55 => some x55
 else some false)
 else (bif !x27.2 then (bif x27.2 == x33.2 then (m_laws_sameChanges N x27.1 x33.1).bind fun x55 => some x55
 else some false)
 else (m_laws_FnChangesOfKinds_L17 N x27 N ([] : List Str) ([] : List Str) 0).bind fun e17 => e17.go (fun r => r) fun b17 => (m_impl_NamesSort N b17.1).bind fun x97 => (m_impl_NamesSort N b17.2.1).bind fun x102 => (bif x97.2 then (bif x102.2 then (m_impl_FitNew N x21.2 x21.1).bind fun x113 => (m_laws_sameTexts N x97.1 x113).bind fun x114 => (bif x114 then (m_impl_FitNew N x21.1 x21.2).bind fun x120 => (m_laws_sameTexts N x102.1 x120).bind fun x121 => (bif x121 then (bif eqb ((x97.1.length : Nat) : Int) ((b17.1.length : Nat) : Int) then some (eqb ((x102.1.length : Nat) : Int) ((b17.2.1.length : Nat) : Int))
 else some false)
 else some false)
 else some false)
 else some false)
 else some false)))))

set_option maxHeartbeats 4000000 in
theorem c_laws_FnChangesOfKinds (N : Nat) (u0 : List UInt8) (res : Bool) (h : m_laws_FnChangesOfKinds N u0 = some res) (w : World) {a_u0 : Option Addr} {c_u0 : Nat} (h_u0 : bytesL.rd w [] [.slice a_u0 u0.length c_u0] u0) : Ret Try.prog 6 [.slice a_u0 u0.length c_u0] w [] fun v w' => v = .bool res := by
  have mh_u0 := rd_max h_u0
  unfold m_laws_FnChangesOfKinds at h
  refine ret_enter Try.func6 rfl Try.ntmps6 rfl (Hp.refl w _) ?_
  refine cw_seq ?_
  refine cw_region ?_
  refine wl_u rfl (ow_y (yh_assign rfl rfl) rfl rfl (kk_wl ?_))
  refine wl_nil ?_
  refine ex_seq ?_
  refine cw_seq ?_
  refine cw_seq ?_
  refine cw_region ?_
  refine wl_u rfl (ow_y (yh_move rfl rfl) rfl rfl (kk_wl ?_))
  refine wl_u rfl (ow_y (yh_lenS Tb rfl rfl rfl rfl) rfl rfl (kk_wl ?_))
  refine wl_u rfl (ow_y (yh_cmpI rfl rfl rfl rfl) rfl rfl (kk_wl ?_))
  refine wl_nil ?_
  refine ex_seq ?_
  refine cw_split rfl (fun c1 => ?_) (fun c1 => ?_)
  · skip
    replace h := bt c1 h
    have q1 := ltb_true.1 c1
    refine cw_seq ?_
    refine cw_region ?_
    refine wl_u rfl (ow_y (yh_assign rfl rfl) rfl rfl (kk_wl ?_))
    refine wl_nil ?_
    refine ex_seq ?_
    refine cw_ret ?_
    refine ex_then_ret ?_
    obtain rfl := Option.some.inj h
    exact ex_r1 Tb rfl (.tmp rfl) (fun wq hq => ⟨_, rfl, hq.ext, rfl⟩)
  · skip
    replace h := bf c1 h
    have q2 := ltb_false.1 c1
    refine cw_skip ?_
    refine ex_seq ?_
    refine cw_seq ?_
    refine cw_region ?_
    refine wl_u rfl (ow_y (yh_move rfl rfl) rfl rfl (kk_wl ?_))
    obtain ⟨x21, hx21, h⟩ := bd h
    refine wl_u rfl (ow_cN2 rfl hb19 rfl (fun w hw => c_spec_DrawChangesOf N _ _ hx21 w (Lay.at_ h_u0 hw)) rfl rfl (fun a21 c21 F21 a21_2 c21_2 F21_2 => kk_wl ?_))
    refine wl_u rfl (ow_y (yh_move rfl rfl) rfl rfl (kk_wl ?_))
    refine wl_u rfl (ow_y (yh_extract rfl rfl rfl) rfl rfl (kk_wl ?_))
    refine wl_u rfl (ow_y (yh_extract rfl rfl rfl) rfl rfl (kk_wl ?_))
    refine wl_u rfl (ow_allocA Tb rfl rfl rfl rfl (fun g3 => kk_wl ?_))
    refine wl_u rfl (ow_allocA Tb rfl rfl rfl rfl (fun g4 => kk_wl ?_))
    refine wl_u rfl (ow_storeA Tb (k := 1) rfl rfl rfl rfl rfl rfl rfl rfl rfl (kk_wl ?_))
    refine wl_u rfl (ow_storeA Tb (k := 1) rfl rfl rfl rfl rfl rfl rfl rfl rfl (kk_wl ?_))
    refine wl_nil ?_
    refine ex_seq ?_
    refine cw_seq ?_
    refine cw_freeze 2 rfl (fun w1 M1 hb1_ hz1 => ?_)
    replace h_u0 := Lay.rb h_u0 hb1_
    have hB1 := hb1_
    have mz1 := rd_max hz1
    refine cw_freeze 2 rfl (fun w2 M2 hb2_ hz2 => ?_)
    replace h_u0 := Lay.rb h_u0 hb2_
    replace hz1 := Lay.rb hz1 hb2_
    have hB2 := hB1.trans hb2_
    have mz2 := rd_max hz2
    refine cw_region ?_
    refine wl_u rfl (ow_y (yh_loadBA Tb (k := 1) rfl rfl rfl rfl rfl rfl) rfl rfl (kk_wl ?_))
    refine wl_u rfl (ow_y (yh_loadBA Tb (k := 0) rfl rfl rfl rfl rfl rfl) rfl rfl (kk_wl ?_))
    obtain ⟨x27, hx27, h⟩ := bd h
    refine wl_u rfl (ow_cN1 rfl hb20 rfl (fun w hw => c_impl_ChangesOf N _ _ _ hx27 w (Lay.at_ hz1 hw) (Lay.at_ hz2 hw)) rfl rfl (fun a27 c27 F27 => kk_wl ?_))
    refine wl_u rfl (ow_y (yh_move rfl rfl) rfl rfl (kk_wl ?_))
    refine wl_u rfl (ow_y (yh_extract rfl rfl rfl) rfl rfl (kk_wl ?_))
    refine wl_u rfl (ow_y (yh_extract rfl rfl rfl) rfl rfl (kk_wl ?_))
    refine wl_u rfl (ow_y (yh_assign rfl rfl) rfl rfl (kk_wl ?_))
    refine wl_u rfl (ow_y (yh_assign rfl rfl) rfl rfl (kk_wl ?_))
    refine wl_nil ?_
    refine ex_seq ?_
    refine cw_seq ?_
    refine cw_freeze 0 rfl (fun w3 M3 hb3_ hz3 => ?_)
    replace h_u0 := Lay.rb h_u0 hb3_
    replace hz1 := Lay.rb hz1 hb3_
    replace hz2 := Lay.rb hz2 hb3_
    have hB3 := hB2.trans hb3_
    have mz3 := rd_max hz3
    refine cw_region ?_
    refine wl_u rfl (ow_y (yh_loadBA Tb (k := 1) rfl rfl rfl rfl rfl rfl) rfl rfl (kk_wl ?_))
    refine wl_u rfl (ow_y (yh_loadBA Tb (k := 0) rfl rfl rfl rfl rfl rfl) rfl rfl (kk_wl ?_))
    obtain ⟨x33, hx33, h⟩ := bd h
    refine wl_u rfl (ow_cN1 rfl hb21 rfl (fun w hw => c_spec_ChangesOf N _ _ _ hx33 w (Lay.at_ hz1 hw) (Lay.at_ hz2 hw)) rfl rfl (fun a33 c33 F33 => kk_wl ?_))
    refine wl_u rfl (ow_y (yh_move rfl rfl) rfl rfl (kk_wl ?_))
    refine wl_u rfl (ow_y (yh_extract rfl rfl rfl) rfl rfl (kk_wl ?_))
    refine wl_u rfl (ow_y (yh_extract rfl rfl rfl) rfl rfl (kk_wl ?_))
    refine wl_u rfl (ow_y (yh_assign rfl rfl) rfl rfl (kk_wl ?_))
    refine wl_u rfl (ow_y (yh_assign rfl rfl) rfl rfl (kk_wl ?_))
    refine wl_nil ?_
    refine ex_seq ?_
    refine cw_seq ?_
    refine cw_seq ?_
    refine cw_freeze 0 rfl (fun w4 M4 hb4_ hz4 => ?_)
    replace h_u0 := Lay.rb h_u0 hb4_
    replace hz1 := Lay.rb hz1 hb4_
    replace hz2 := Lay.rb hz2 hb4_
    replace hz3 := Lay.rb hz3 hb4_
    have hB4 := hB3.trans hb4_
    have mz4 := rd_max hz4
    refine cw_region ?_
    refine wl_u rfl (ow_y (yh_move rfl rfl) rfl rfl (kk_wl ?_))
    refine wl_u rfl (ow_y (yh_move rfl rfl) rfl rfl (kk_wl ?_))
    refine wl_u rfl (ow_y (yh_cmpB rfl rfl rfl rfl (by kernel_rfl)) rfl rfl (kk_wl ?_))
    refine wl_u rfl (ow_y (yh_move rfl rfl) rfl rfl (kk_wl ?_))
    refine wl_s rfl rfl (fun c2 => ?_) (fun c2 => ?_)
    · skip
      replace h := bt c2 h
      refine wl_n rfl rfl rfl rfl ?_
      refine wl_n rfl rfl rfl rfl ?_
      refine wl_n rfl rfl rfl rfl ?_
      refine wl_n rfl rfl rfl rfl ?_
      refine wl_u rfl (ow_y (yh_pickT rfl rfl rfl) rfl rfl (kk_wl ?_))
      refine wl_u rfl (ow_y (yh_move rfl rfl) rfl rfl (kk_wl ?_))
      refine wl_s rfl rfl (fun _ => ?_) nofun
      refine wl_n rfl rfl rfl rfl ?_
      refine wl_n rfl rfl rfl rfl ?_
      refine wl_u rfl (ow_y (yh_pickT rfl rfl rfl) rfl rfl (kk_wl ?_))
      refine wl_nil ?_
      refine ex_seq ?_
      refine cw_true rfl ?_
      refine cw_seq ?_
      refine cw_region ?_
      refine wl_u rfl (ow_y (yh_move rfl rfl) rfl rfl (kk_wl ?_))
      refine wl_u rfl (ow_y (yh_move rfl rfl) rfl rfl (kk_wl ?_))
      refine wl_u rfl (ow_y (yh_cmpB rfl rfl rfl rfl (by kernel_rfl)) rfl rfl (kk_wl ?_))
      refine wl_u rfl (ow_y (yh_move rfl rfl) rfl rfl (kk_wl ?_))
      refine wl_s rfl rfl (fun c3 => ?_) (fun c3 => ?_)
      · skip
        replace h := bt c3 h
        refine wl_g rfl rfl (ow_y (yh_move rfl rfl) rfl rfl (kk_wl ?_))
        refine wl_g rfl rfl (ow_y (yh_move rfl rfl) rfl rfl (kk_wl ?_))
        obtain ⟨x55, hx55, h⟩ := bd h
        refine wl_g rfl rfl (ow_cV rfl hb22 rfl (fun w hw => c_laws_sameChanges N _ _ _ hx55 w (Lay.at_ hz3 hw) (Lay.at_ hz4 hw)) rfl rfl (kk_wl ?_))
        refine wl_u rfl (ow_y (yh_pickT rfl rfl rfl) rfl rfl (kk_wl ?_))
        refine wl_u rfl (ow_y (yh_assign rfl rfl) rfl rfl (kk_wl ?_))
        refine wl_nil ?_
        refine ex_seq ?_
        refine cw_ret ?_
        refine ex_then_ret ?_
        obtain rfl := Option.some.inj h
        exact ex_r1 Tb rfl (.tmp rfl) (fun wq hq => ⟨_, rfl, (hB4.back hq).ext, rfl⟩)
      · skip
        replace h := bf c3 h
        refine wl_n rfl rfl rfl rfl ?_
        refine wl_n rfl rfl rfl rfl ?_
        refine wl_n rfl rfl rfl rfl ?_
        refine wl_u rfl (ow_y (yh_pickF rfl rfl rfl) rfl rfl (kk_wl ?_))
        refine wl_u rfl (ow_y (yh_assign rfl rfl) rfl rfl (kk_wl ?_))
        refine wl_nil ?_
        refine ex_seq ?_
        refine cw_ret ?_
        refine ex_then_ret ?_
        obtain rfl := Option.some.inj h
        exact ex_r1 Tb rfl (.tmp rfl) (fun wq hq => ⟨_, rfl, (hB4.back hq).ext, rfl⟩)
    · skip
      replace h := bf c2 h
      refine wl_g rfl rfl (ow_y (yh_move rfl rfl) rfl rfl (kk_wl ?_))
      refine wl_g rfl rfl (ow_y (yh_move rfl rfl) rfl rfl (kk_wl ?_))
      obtain ⟨x42, hx42, h⟩ := bd h
      refine wl_g rfl rfl (ow_cV rfl hb22 rfl (fun w hw => c_laws_sameChanges N _ _ _ hx42 w (Lay.at_ hz3 hw) (Lay.at_ hz4 hw)) rfl rfl (kk_wl ?_))
      refine wl_g rfl rfl (ow_y (yh_not rfl rfl) rfl rfl (kk_wl ?_))
      refine wl_u rfl (ow_y (yh_pickF rfl rfl rfl) rfl rfl (kk_wl ?_))
      refine wl_u rfl (ow_y (yh_move rfl rfl) rfl rfl (kk_wl ?_))
      refine wl_s rfl rfl (fun c4 => ?_) (fun c4 => ?_)
      · skip
        replace h := bt c4 h
        refine wl_n rfl rfl rfl rfl ?_
        refine wl_n rfl rfl rfl rfl ?_
        refine wl_u rfl (ow_y (yh_pickT rfl rfl rfl) rfl rfl (kk_wl ?_))
        refine wl_nil ?_
        refine ex_seq ?_
        refine cw_true rfl ?_
        refine cw_seq ?_
        refine cw_region ?_
        refine wl_u rfl (ow_y (yh_move rfl rfl) rfl rfl (kk_wl ?_))
        refine wl_u rfl (ow_y (yh_move rfl rfl) rfl rfl (kk_wl ?_))
        refine wl_u rfl (ow_y (yh_cmpB rfl rfl rfl rfl (by kernel_rfl)) rfl rfl (kk_wl ?_))
        refine wl_u rfl (ow_y (yh_move rfl rfl) rfl rfl (kk_wl ?_))
        refine wl_s rfl rfl (fun c5 => ?_) (fun c5 => ?_)
        · skip
          replace h := bt c5 h
          refine wl_g rfl rfl (ow_y (yh_move rfl rfl) rfl rfl (kk_wl ?_))
          refine wl_g rfl rfl (ow_y (yh_move rfl rfl) rfl rfl (kk_wl ?_))
          obtain ⟨x55, hx55, h⟩ := bd h
          refine wl_g rfl rfl (ow_cV rfl hb22 rfl (fun w hw => c_laws_sameChanges N _ _ _ hx55 w (Lay.at_ hz3 hw) (Lay.at_ hz4 hw)) rfl rfl (kk_wl ?_))
          refine wl_u rfl (ow_y (yh_pickT rfl rfl rfl) rfl rfl (kk_wl ?_))
          refine wl_u rfl (ow_y (yh_assign rfl rfl) rfl rfl (kk_wl ?_))
          refine wl_nil ?_
          refine ex_seq ?_
          refine cw_ret ?_
          refine ex_then_ret ?_
          obtain rfl := Option.some.inj h
          exact ex_r1 Tb rfl (.tmp rfl) (fun wq hq => ⟨_, rfl, (hB4.back hq).ext, rfl⟩)
        · skip
          replace h := bf c5 h
          refine wl_n rfl rfl rfl rfl ?_
          refine wl_n rfl rfl rfl rfl ?_
          refine wl_n rfl rfl rfl rfl ?_
          refine wl_u rfl (ow_y (yh_pickF rfl rfl rfl) rfl rfl (kk_wl ?_))
          refine wl_u rfl (ow_y (yh_assign rfl rfl) rfl rfl (kk_wl ?_))
          refine wl_nil ?_
          refine ex_seq ?_
          refine cw_ret ?_
          refine ex_then_ret ?_
          obtain rfl := Option.some.inj h
          exact ex_r1 Tb rfl (.tmp rfl) (fun wq hq => ⟨_, rfl, (hB4.back hq).ext, rfl⟩)
      · skip
        replace h := bf c4 h
        refine wl_g rfl rfl (ow_y (yh_move rfl rfl) rfl rfl (kk_wl ?_))
        refine wl_g rfl rfl (ow_y (yh_not rfl rfl) rfl rfl (kk_wl ?_))
        refine wl_u rfl (ow_y (yh_pickF rfl rfl rfl) rfl rfl (kk_wl ?_))
        refine wl_nil ?_
        refine ex_seq ?_
        refine cw_split rfl (fun c6 => ?_) (fun c6 => ?_)
        · skip
          replace h := bt c6 h
          refine cw_seq ?_
          refine cw_region ?_
          refine wl_u rfl (ow_y (yh_move rfl rfl) rfl rfl (kk_wl ?_))
          refine wl_u rfl (ow_y (yh_move rfl rfl) rfl rfl (kk_wl ?_))
          refine wl_u rfl (ow_y (yh_cmpB rfl rfl rfl rfl (by kernel_rfl)) rfl rfl (kk_wl ?_))
          refine wl_u rfl (ow_y (yh_move rfl rfl) rfl rfl (kk_wl ?_))
          refine wl_s rfl rfl (fun c7 => ?_) (fun c7 => ?_)
          · skip
            replace h := bt c7 h
            refine wl_g rfl rfl (ow_y (yh_move rfl rfl) rfl rfl (kk_wl ?_))
            refine wl_g rfl rfl (ow_y (yh_move rfl rfl) rfl rfl (kk_wl ?_))
            obtain ⟨x55, hx55, h⟩ := bd h
            refine wl_g rfl rfl (ow_cV rfl hb22 rfl (fun w hw => c_laws_sameChanges N _ _ _ hx55 w (Lay.at_ hz3 hw) (Lay.at_ hz4 hw)) rfl rfl (kk_wl ?_))
            refine wl_u rfl (ow_y (yh_pickT rfl rfl rfl) rfl rfl (kk_wl ?_))
            refine wl_u rfl (ow_y (yh_assign rfl rfl) rfl rfl (kk_wl ?_))
            refine wl_nil ?_
            refine ex_seq ?_
            refine cw_ret ?_
            refine ex_then_ret ?_
            obtain rfl := Option.some.inj h
            exact ex_r1 Tb rfl (.tmp rfl) (fun wq hq => ⟨_, rfl, (hB4.back hq).ext, rfl⟩)
          · skip
            replace h := bf c7 h
            refine wl_n rfl rfl rfl rfl ?_
            refine wl_n rfl rfl rfl rfl ?_
            refine wl_n rfl rfl rfl rfl ?_
            refine wl_u rfl (ow_y (yh_pickF rfl rfl rfl) rfl rfl (kk_wl ?_))
            refine wl_u rfl (ow_y (yh_assign rfl rfl) rfl rfl (kk_wl ?_))
            refine wl_nil ?_
            refine ex_seq ?_
            refine cw_ret ?_
            refine ex_then_ret ?_
            obtain rfl := Option.some.inj h
            exact ex_r1 Tb rfl (.tmp rfl) (fun wq hq => ⟨_, rfl, (hB4.back hq).ext, rfl⟩)
        · skip
          replace h := bf c6 h
          refine cw_skip ?_
          refine ex_seq ?_
          refine cw_seq ?_
          refine cw_region ?_
          refine wl_u rfl (ow_lit0 Tb rfl rfl rfl rfl rfl rfl (fun g57 => kk_chg (c' := owC strsL [g57] [.slice (some ⟨g57, 0, none⟩) 0 0] ([] : List Str)) 0 rfl (fun w hA => own_strsL ([] : List Str) hA rfl (by simp [maxLen])) rfl (kk_wl ?_)))
          refine wl_u rfl (ow_y (yh_assign rfl rfl) rfl rfl (kk_wl ?_))
          refine wl_nil ?_
          refine ex_seq ?_
          refine cw_seq ?_
          refine cw_region ?_
          refine wl_u rfl (ow_lit0 Tb rfl rfl rfl rfl rfl rfl (fun g58 => kk_chg (c' := owC strsL [g58] [.slice (some ⟨g58, 0, none⟩) 0 0] ([] : List Str)) 0 rfl (fun w hA => own_strsL ([] : List Str) hA rfl (by simp [maxLen])) rfl (kk_wl ?_)))
          refine wl_u rfl (ow_y (yh_assign rfl rfl) rfl rfl (kk_wl ?_))
          refine wl_nil ?_
          refine ex_seq ?_
          refine cw_seq ?_
          refine cw_seq ?_
          refine cw_region ?_
          refine wl_u rfl (ow_y (yh_assign rfl rfl) rfl rfl (kk_wl ?_))
          refine wl_nil ?_
          refine ex_seq ?_
          refine cw_block ?_
          obtain ⟨e17, he17, hk17⟩ := bd h
          clear h
          refine cw_loopG (σ := Nat × (List Str) × (List Str) × Nat × (Option Addr) × Nat × (List Nat) × (Option Addr) × Nat × (List Nat)) (fun s => m_laws_FnChangesOfKinds_L17 N x27 s.1 s.2.1 s.2.2.1 s.2.2.2.1 = some e17) (fun s => [(3, .pointer (some ⟨g3, 0, none⟩)), (4, .pointer (some ⟨g4, 0, none⟩)), (5, .slice a27 x27.1.length c27), (9, .slice s.2.2.2.2.1 s.2.1.length s.2.2.2.2.2.1), (10, .slice s.2.2.2.2.2.2.2.1 s.2.2.1.length s.2.2.2.2.2.2.2.2.1), (11, .int .i64 ((s.2.2.2.1 : Nat) : Int))]) (fun s => [blkC g3 25 [.int .i64 x21.1.ver, .slice a21 x21.1.steps.length c21], blkC g4 25 [.int .i64 x21.2.ver, .slice a21_2 x21.2.steps.length c21_2], owC strsL s.2.2.2.2.2.2.1 [.slice s.2.2.2.2.1 s.2.1.length s.2.2.2.2.2.1] s.2.1, owC strsL s.2.2.2.2.2.2.2.2.2 [.slice s.2.2.2.2.2.2.2.1 s.2.2.1.length s.2.2.2.2.2.2.2.2.1] s.2.2.1]) (fun s => s.1) (N, ([] : List Str), ([] : List Str), 0, (some ⟨g57, 0, none⟩), 0, [g57], (some ⟨g58, 0, none⟩), 0, [g58]) [3, 2, 1, 0] he17 ⟨rfl, rfl, rfl, rfl, rfl, rfl, trivial⟩ rfl (fun KL s he17 hn17 => ?_)
          obtain ⟨n17, s9, s10, s11, as9, cs9, Fs9, as10, cs10, Fs10⟩ := s
          simp only at he17 hn17 ⊢
          rcases n17 with _ | n17
          · exact nosome he17
          have h := he17; rw [m_laws_FnChangesOfKinds_L17] at h
          refine cw_seq ?_
          refine cw_seq ?_
          refine cw_region ?_
          refine wl_u rfl (ow_y (yh_move rfl rfl) rfl rfl (kk_wl ?_))
          refine wl_u rfl (ow_y (yh_move rfl rfl) rfl rfl (kk_wl ?_))
          refine wl_u rfl (ow_y (yh_lenS Tb rfl rfl rfl rfl) rfl rfl (kk_wl ?_))
          refine wl_u rfl (ow_y (yh_cmpI rfl rfl rfl rfl) rfl rfl (kk_wl ?_))
          refine wl_nil ?_
          refine ex_seq ?_
          refine cw_split rfl (fun c8 => ?_) (fun c8 => ?_)
          · skip
            replace h := bt c8 h
            have q3 := ltb_true.1 c8
            refine cw_skip ?_
            refine ex_seq ?_
            refine cw_seq ?_
            refine cw_block ?_
            obtain ⟨j121, he121, hk121⟩ := bd h
            clear h
            refine cw_cut (σ := (Option Addr) × Nat × (List Nat)) (fun s => True) (fun s => [(3, .pointer (some ⟨g3, 0, none⟩)), (4, .pointer (some ⟨g4, 0, none⟩)), (5, .slice a27 x27.1.length c27), (9, .slice s.1 j121.length s.2.1), (10, .slice as10 s10.length cs10), (11, .int .i64 ((s11 : Nat) : Int))]) (fun s => [blkC g3 25 [.int .i64 x21.1.ver, .slice a21 x21.1.steps.length c21], blkC g4 25 [.int .i64 x21.2.ver, .slice a21_2 x21.2.steps.length c21_2], owC strsL s.2.2 [.slice s.1 j121.length s.2.1] j121, owC strsL Fs10 [.slice as10 s10.length cs10] s10]) (fun s hI => ?_) (fun KL hn121 => ?_)
            · skip
              obtain ⟨ak121_9, ck121_9, Fk121_9⟩ := s
              simp only at ⊢
              have h := hk121
              refine cw_seq ?_
              refine cw_region ?_
              refine wl_u rfl (ow_y (yh_move rfl rfl) rfl rfl (kk_wl ?_))
              refine wl_u rfl (ow_y (yh_move rfl rfl) rfl rfl (kk_wl ?_))
              obtain ⟨y82, hy82, h⟩ := bd h
              obtain ⟨b82, o82, ha82⟩ := sl_addr hz3 hy82
              subst ha82
              obtain ⟨a82, e82, hc82, hf82⟩ := get_change hz3 hy82
              have mx82 := rd_max hf82
              refine wl_u rfl (ow_y (yh_idx Tb (k := s11) rfl rfl rfl rfl (get_lt hy82) rfl rfl) rfl rfl (kk_wl ?_))
              refine wl_u rfl (ow_y (yh_field Tb rfl rfl rfl) rfl rfl (kk_wl ?_))
              refine wl_u rfl (ow_y (yh_loadAF Tb (j := 0) rfl rfl rfl hc82 rfl) rfl rfl (kk_wl ?_))
              refine wl_u rfl (ow_y (yh_cmpI rfl rfl rfl rfl) rfl rfl (kk_wl ?_))
              refine wl_nil ?_
              refine ex_seq ?_
              refine cw_split rfl (fun c9 => ?_) (fun c9 => ?_)
              · skip
                replace h := bt c9 h
                have q4 := eqb_true.1 c9
                refine cw_region ?_
                refine wl_u rfl (ow_y (yh_move rfl rfl) rfl rfl (kk_wl ?_))
                refine wl_u rfl (ow_y (yh_move rfl rfl) rfl rfl (kk_wl ?_))
                refine wl_u rfl (ow_y (yh_move rfl rfl) rfl rfl (kk_wl ?_))
                refine wl_u rfl (ow_y (yh_idx Tb (k := s11) rfl rfl rfl rfl (get_lt hy82) rfl rfl) rfl rfl (kk_wl ?_))
                refine wl_u rfl (ow_y (yh_field Tb rfl rfl rfl) rfl rfl (kk_wl ?_))
                refine wl_u rfl (ow_y (yh_field Tb rfl rfl rfl) rfl rfl (kk_wl ?_))
                refine wl_u rfl (ow_y (yh_loadAF2 Tb 1 0 rfl rfl rfl hc82 rfl) rfl rfl (kk_wl ?_))
                refine wl_u rfl (ow_lit1 Tb rfl rfl rfl rfl rfl rfl rfl rfl rfl rfl (fun g93 => kk_chg (c' := owC strsL [g93] [.slice (some ⟨g93, 0, none⟩) 1 1] ([y82.step.name] : List Str)) 0 rfl (fun w hA => own_strsL ([y82.step.name] : List Str) hA rfl (by simp [maxLen])) rfl (kk_wl ?_)))
                obtain ⟨hll94, h⟩ := bd_appd h
                refine wl_u rfl (ow_appP Tb (i := 4) rfl rfl rfl rfl rfl (fun w hw => rdo (A := strsL) 0 rfl hw) rfl rfl rfl rfl hll94 (by decide) rfl rfl (fun a94 c94 F94 => kk_wl ?_))
                refine wl_u rfl (ow_y (yh_assign rfl rfl) rfl rfl (kk_wl ?_))
                refine wl_nil ?_
                refine ex_block_normal ?_
                refine ex_seq ?_
                refine cw_region ?_
                refine wl_u rfl (ow_y (yh_move rfl rfl) rfl rfl (kk_wl ?_))
                refine wl_u rfl (ow_y (yh_arI rfl rfl rfl rfl (by omega)) rfl rfl (kk_wl ?_))
                refine wl_u rfl (ow_y (yh_assign rfl rfl) rfl rfl (kk_wl ?_))
                refine wl_nil ?_
                exact ex_next [2, 3, 4, 0] (hn17 (n17, j121, (s10 ++ ([y82.step.name] : List Str)), s11 + 1, ak121_9, ck121_9, Fk121_9, a94, c94, F94) (Nat.lt_succ_self _) h) ⟨rfl, rfl, rfl, rfl, rfl, rfl, trivial⟩ (by kernel_rfl)
              · skip
                replace h := bf c9 h
                have q5 := eqb_false.1 c9
                refine cw_skip ?_
                refine ex_block_normal ?_
                refine ex_seq ?_
                refine cw_region ?_
                refine wl_u rfl (ow_y (yh_move rfl rfl) rfl rfl (kk_wl ?_))
                refine wl_u rfl (ow_y (yh_arI rfl rfl rfl rfl (by omega)) rfl rfl (kk_wl ?_))
                refine wl_u rfl (ow_y (yh_assign rfl rfl) rfl rfl (kk_wl ?_))
                refine wl_nil ?_
                exact ex_next [0, 1, 2, 3] (hn17 (n17, j121, s10, s11 + 1, ak121_9, ck121_9, Fk121_9, as10, cs10, Fs10) (Nat.lt_succ_self _) h) ⟨rfl, rfl, rfl, rfl, rfl, rfl, trivial⟩ (by kernel_rfl)
            · skip
              have h := he121
              refine cw_seq ?_
              refine cw_region ?_
              refine wl_u rfl (ow_y (yh_move rfl rfl) rfl rfl (kk_wl ?_))
              refine wl_u rfl (ow_y (yh_move rfl rfl) rfl rfl (kk_wl ?_))
              obtain ⟨y67, hy67, h⟩ := bd h
              obtain ⟨b67, o67, ha67⟩ := sl_addr hz3 hy67
              subst ha67
              obtain ⟨a67, e67, hc67, hf67⟩ := get_change hz3 hy67
              have mx67 := rd_max hf67
              refine wl_u rfl (ow_y (yh_idx Tb (k := s11) rfl rfl rfl rfl (get_lt hy67) rfl rfl) rfl rfl (kk_wl ?_))
              refine wl_u rfl (ow_y (yh_field Tb rfl rfl rfl) rfl rfl (kk_wl ?_))
              refine wl_u rfl (ow_y (yh_loadAF Tb (j := 0) rfl rfl rfl hc67 rfl) rfl rfl (kk_wl ?_))
              refine wl_u rfl (ow_y (yh_cmpI rfl rfl rfl rfl) rfl rfl (kk_wl ?_))
              refine wl_nil ?_
              refine ex_seq ?_
              refine cw_split rfl (fun c10 => ?_) (fun c10 => ?_)
              · skip
                replace h := bt c10 h
                have q6 := eqb_true.1 c10
                refine cw_region ?_
                refine wl_u rfl (ow_y (yh_move rfl rfl) rfl rfl (kk_wl ?_))
                refine wl_u rfl (ow_y (yh_move rfl rfl) rfl rfl (kk_wl ?_))
                refine wl_u rfl (ow_y (yh_move rfl rfl) rfl rfl (kk_wl ?_))
                refine wl_u rfl (ow_y (yh_idx Tb (k := s11) rfl rfl rfl rfl (get_lt hy67) rfl rfl) rfl rfl (kk_wl ?_))
                refine wl_u rfl (ow_y (yh_field Tb rfl rfl rfl) rfl rfl (kk_wl ?_))
                refine wl_u rfl (ow_y (yh_field Tb rfl rfl rfl) rfl rfl (kk_wl ?_))
                refine wl_u rfl (ow_y (yh_loadAF2 Tb 1 0 rfl rfl rfl hc67 rfl) rfl rfl (kk_wl ?_))
                refine wl_u rfl (ow_lit1 Tb rfl rfl rfl rfl rfl rfl rfl rfl rfl rfl (fun g78 => kk_chg (c' := owC strsL [g78] [.slice (some ⟨g78, 0, none⟩) 1 1] ([y67.step.name] : List Str)) 0 rfl (fun w hA => own_strsL ([y67.step.name] : List Str) hA rfl (by simp [maxLen])) rfl (kk_wl ?_)))
                obtain ⟨hll79, h⟩ := bd_appd h
                refine wl_u rfl (ow_appP Tb (i := 3) rfl rfl rfl rfl rfl (fun w hw => rdo (A := strsL) 0 rfl hw) rfl rfl rfl rfl hll79 (by decide) rfl rfl (fun a79 c79 F79 => kk_wl ?_))
                refine wl_u rfl (ow_y (yh_assign rfl rfl) rfl rfl (kk_wl ?_))
                refine wl_nil ?_
                obtain rfl := Option.some.inj h
                exact ex_next [2, 3, 0, 4] (hn121 (a79, c79, F79) trivial) ⟨rfl, rfl, rfl, rfl, rfl, rfl, trivial⟩ (by kernel_rfl)
              · skip
                replace h := bf c10 h
                have q7 := eqb_false.1 c10
                refine cw_skip ?_
                obtain rfl := Option.some.inj h
                exact ex_next [0, 1, 2, 3] (hn121 (as9, cs9, Fs9) trivial) ⟨rfl, rfl, rfl, rfl, rfl, rfl, trivial⟩ (by kernel_rfl)
          · skip
            replace h := bf c8 h
            have q8 := ltb_false.1 c8
            refine cw_exit ?_
            refine ex_then_exit ?_
            refine ex_then_exit ?_
            obtain rfl := Option.some.inj h
            have h := go_brk hk17
            refine ex_block_exit ?_
            refine ex_seq ?_
            refine cw_seq ?_
            refine cw_region ?_
            refine wl_u rfl (ow_y (yh_move rfl rfl) rfl rfl (kk_wl ?_))
            obtain ⟨x97, hx97, h⟩ := bd h
            refine wl_u rfl (ow_cN1 rfl hb23 rfl (fun w hw => c_impl_NamesSort N _ _ hx97 w (rdo (A := strsL) 2 rfl hw)) rfl rfl (fun a97 c97 F97 => kk_wl ?_))
            refine wl_u rfl (ow_y (yh_move rfl rfl) rfl rfl (kk_wl ?_))
            refine wl_u rfl (ow_y (yh_extract rfl rfl rfl) rfl rfl (kk_wl ?_))
            refine wl_u rfl (ow_y (yh_extract rfl rfl rfl) rfl rfl (kk_wl ?_))
            refine wl_u rfl (ow_y (yh_assign rfl rfl) rfl rfl (kk_wl ?_))
            refine wl_u rfl (ow_y (yh_assign rfl rfl) rfl rfl (kk_wl ?_))
            refine wl_nil ?_
            refine ex_seq ?_
            refine cw_seq ?_
            refine cw_freeze 0 rfl (fun w5 M5 hb5_ hz5 => ?_)
            replace h_u0 := Lay.rb h_u0 hb5_
            replace hz1 := Lay.rb hz1 hb5_
            replace hz2 := Lay.rb hz2 hb5_
            replace hz3 := Lay.rb hz3 hb5_
            replace hz4 := Lay.rb hz4 hb5_
            have hB5 := hB4.trans hb5_
            have mz5 := rd_max hz5
            refine cw_region ?_
            refine wl_u rfl (ow_y (yh_move rfl rfl) rfl rfl (kk_wl ?_))
            obtain ⟨x102, hx102, h⟩ := bd h
            refine wl_u rfl (ow_cN1 rfl hb23 rfl (fun w hw => c_impl_NamesSort N _ _ hx102 w (rdo (A := strsL) 3 rfl hw)) rfl rfl (fun a102 c102 F102 => kk_wl ?_))
            refine wl_u rfl (ow_y (yh_move rfl rfl) rfl rfl (kk_wl ?_))
            refine wl_u rfl (ow_y (yh_extract rfl rfl rfl) rfl rfl (kk_wl ?_))
            refine wl_u rfl (ow_y (yh_extract rfl rfl rfl) rfl rfl (kk_wl ?_))
            refine wl_u rfl (ow_y (yh_assign rfl rfl) rfl rfl (kk_wl ?_))
            refine wl_u rfl (ow_y (yh_assign rfl rfl) rfl rfl (kk_wl ?_))
            refine wl_nil ?_
            refine ex_seq ?_
            refine cw_seq ?_
            refine cw_freeze 0 rfl (fun w6 M6 hb6_ hz6 => ?_)
            replace h_u0 := Lay.rb h_u0 hb6_
            replace hz1 := Lay.rb hz1 hb6_
            replace hz2 := Lay.rb hz2 hb6_
            replace hz3 := Lay.rb hz3 hb6_
            replace hz4 := Lay.rb hz4 hb6_
            replace hz5 := Lay.rb hz5 hb6_
            have hB6 := hB5.trans hb6_
            have mz6 := rd_max hz6
            refine cw_region ?_
            refine wl_u rfl (ow_y (yh_move rfl rfl) rfl rfl (kk_wl ?_))
            refine wl_u rfl (ow_y (yh_move rfl rfl) rfl rfl (kk_wl ?_))
            refine wl_s rfl rfl (fun c11 => ?_) (fun c11 => ?_)
            · skip
              replace h := bt c11 h
              refine wl_g rfl rfl (ow_y (yh_move rfl rfl) rfl rfl (kk_wl ?_))
              refine wl_u rfl (ow_y (yh_pickT rfl rfl rfl) rfl rfl (kk_wl ?_))
              refine wl_u rfl (ow_y (yh_move rfl rfl) rfl rfl (kk_wl ?_))
              refine wl_s rfl rfl (fun c12 => ?_) (fun c12 => ?_)
              · skip
                replace h := bt c12 h
                refine wl_g rfl rfl (ow_y (yh_move rfl rfl) rfl rfl (kk_wl ?_))
                refine wl_g rfl rfl (ow_y (yh_loadBA Tb (k := 1) rfl rfl rfl rfl rfl rfl) rfl rfl (kk_wl ?_))
                refine wl_g rfl rfl (ow_y (yh_loadBA Tb (k := 0) rfl rfl rfl rfl rfl rfl) rfl rfl (kk_wl ?_))
                obtain ⟨x113, hx113, h⟩ := bd h
                refine wl_g rfl rfl (ow_cN1 rfl hb24 rfl (fun w hw => c_impl_FitNew N _ _ _ hx113 w (Lay.at_ hz2 hw) (Lay.at_ hz1 hw)) rfl rfl (fun a113 c113 F113 => kk_wl ?_))
                obtain ⟨x114, hx114, h⟩ := bd h
                refine wl_g rfl rfl (ow_cV rfl hb15 rfl (fun w hw => c_laws_sameTexts N _ _ _ hx114 w (Lay.at_ hz5 hw) (rdo (A := strsL) 0 rfl hw)) rfl rfl (kk_wl ?_))
                refine wl_u rfl (ow_y (yh_pickT rfl rfl rfl) rfl rfl (kk_wl ?_))
                refine wl_u rfl (ow_y (yh_move rfl rfl) rfl rfl (kk_wl ?_))
                refine wl_s rfl rfl (fun c13 => ?_) (fun c13 => ?_)
                · skip
                  replace h := bt c13 h
                  refine wl_g rfl rfl (ow_y (yh_move rfl rfl) rfl rfl (kk_wl ?_))
                  refine wl_g rfl rfl (ow_y (yh_loadBA Tb (k := 1) rfl rfl rfl rfl rfl rfl) rfl rfl (kk_wl ?_))
                  refine wl_g rfl rfl (ow_y (yh_loadBA Tb (k := 2) rfl rfl rfl rfl rfl rfl) rfl rfl (kk_wl ?_))
                  obtain ⟨x120, hx120, h⟩ := bd h
                  refine wl_g rfl rfl (ow_cN1 rfl hb24 rfl (fun w hw => c_impl_FitNew N _ _ _ hx120 w (Lay.at_ hz1 hw) (Lay.at_ hz2 hw)) rfl rfl (fun a120 c120 F120 => kk_wl ?_))
                  obtain ⟨x121, hx121, h⟩ := bd h
                  refine wl_g rfl rfl (ow_cV rfl hb15 rfl (fun w hw => c_laws_sameTexts N _ _ _ hx121 w (Lay.at_ hz6 hw) (rdo (A := strsL) 0 rfl hw)) rfl rfl (kk_wl ?_))
                  refine wl_u rfl (ow_y (yh_pickT rfl rfl rfl) rfl rfl (kk_wl ?_))
                  refine wl_u rfl (ow_y (yh_move rfl rfl) rfl rfl (kk_wl ?_))
                  refine wl_s rfl rfl (fun c14 => ?_) (fun c14 => ?_)
                  · skip
                    replace h := bt c14 h
                    refine wl_g rfl rfl (ow_y (yh_move rfl rfl) rfl rfl (kk_wl ?_))
                    refine wl_g rfl rfl (ow_y (yh_lenS Tb rfl rfl rfl rfl) rfl rfl (kk_wl ?_))
                    refine wl_g rfl rfl (ow_y (yh_move rfl rfl) rfl rfl (kk_wl ?_))
                    refine wl_know (s9.length ≤ 9223372036854775807) (fun w hw => own_max 4 rfl hw) (fun mo127 => ?_)
                    refine wl_g rfl rfl (ow_y (yh_lenS Tb rfl rfl rfl rfl) rfl rfl (kk_wl ?_))
                    refine wl_g rfl rfl (ow_y (yh_cmpI rfl rfl rfl rfl) rfl rfl (kk_wl ?_))
                    refine wl_u rfl (ow_y (yh_pickT rfl rfl rfl) rfl rfl (kk_wl ?_))
                    refine wl_u rfl (ow_y (yh_move rfl rfl) rfl rfl (kk_wl ?_))
                    refine wl_s rfl rfl (fun c15 => ?_) (fun c15 => ?_)
                    · skip
                      replace h := bt c15 h
                      have q9 := eqb_true.1 c15
                      refine wl_g rfl rfl (ow_y (yh_move rfl rfl) rfl rfl (kk_wl ?_))
                      refine wl_g rfl rfl (ow_y (yh_lenS Tb rfl rfl rfl rfl) rfl rfl (kk_wl ?_))
                      refine wl_g rfl rfl (ow_y (yh_move rfl rfl) rfl rfl (kk_wl ?_))
                      refine wl_know (s10.length ≤ 9223372036854775807) (fun w hw => own_max 5 rfl hw) (fun mo134 => ?_)
                      refine wl_g rfl rfl (ow_y (yh_lenS Tb rfl rfl rfl rfl) rfl rfl (kk_wl ?_))
                      refine wl_g rfl rfl (ow_y (yh_cmpI rfl rfl rfl rfl) rfl rfl (kk_wl ?_))
                      refine wl_u rfl (ow_y (yh_pickT rfl rfl rfl) rfl rfl (kk_wl ?_))
                      refine wl_u rfl (ow_y (yh_assign rfl rfl) rfl rfl (kk_wl ?_))
                      refine wl_nil ?_
                      refine ex_seq ?_
                      refine cw_ret ?_
                      obtain rfl := Option.some.inj h
                      exact ex_r1 Tb rfl (.tmp rfl) (fun wq hq => ⟨_, rfl, (hB6.back hq).ext, rfl⟩)
                    · skip
                      replace h := bf c15 h
                      have q10 := eqb_false.1 c15
                      refine wl_n rfl rfl rfl rfl ?_
                      refine wl_n rfl rfl rfl rfl ?_
                      refine wl_n rfl rfl rfl rfl ?_
                      refine wl_n rfl rfl rfl rfl ?_
                      refine wl_n rfl rfl rfl rfl ?_
                      refine wl_u rfl (ow_y (yh_pickF rfl rfl rfl) rfl rfl (kk_wl ?_))
                      refine wl_u rfl (ow_y (yh_assign rfl rfl) rfl rfl (kk_wl ?_))
                      refine wl_nil ?_
                      refine ex_seq ?_
                      refine cw_ret ?_
                      obtain rfl := Option.some.inj h
                      exact ex_r1 Tb rfl (.tmp rfl) (fun wq hq => ⟨_, rfl, (hB6.back hq).ext, rfl⟩)
                  · skip
                    replace h := bf c14 h
                    refine wl_n rfl rfl rfl rfl ?_
                    refine wl_n rfl rfl rfl rfl ?_
                    refine wl_n rfl rfl rfl rfl ?_
                    refine wl_n rfl rfl rfl rfl ?_
                    refine wl_n rfl rfl rfl rfl ?_
                    refine wl_u rfl (ow_y (yh_pickF rfl rfl rfl) rfl rfl (kk_wl ?_))
                    refine wl_u rfl (ow_y (yh_move rfl rfl) rfl rfl (kk_wl ?_))
                    refine wl_s rfl rfl nofun (fun _ => ?_)
                    refine wl_n rfl rfl rfl rfl ?_
                    refine wl_n rfl rfl rfl rfl ?_
                    refine wl_n rfl rfl rfl rfl ?_
                    refine wl_n rfl rfl rfl rfl ?_
                    refine wl_n rfl rfl rfl rfl ?_
                    refine wl_u rfl (ow_y (yh_pickF rfl rfl rfl) rfl rfl (kk_wl ?_))
                    refine wl_u rfl (ow_y (yh_assign rfl rfl) rfl rfl (kk_wl ?_))
                    refine wl_nil ?_
                    refine ex_seq ?_
                    refine cw_ret ?_
                    obtain rfl := Option.some.inj h
                    exact ex_r1 Tb rfl (.tmp rfl) (fun wq hq => ⟨_, rfl, (hB6.back hq).ext, rfl⟩)
                · skip
                  replace h := bf c13 h
                  refine wl_n rfl rfl rfl rfl ?_
                  refine wl_n rfl rfl rfl rfl ?_
                  refine wl_n rfl rfl rfl rfl ?_
                  refine wl_n rfl rfl rfl rfl ?_
                  refine wl_n rfl rfl rfl rfl ?_
                  refine wl_u rfl (ow_y (yh_pickF rfl rfl rfl) rfl rfl (kk_wl ?_))
                  refine wl_u rfl (ow_y (yh_move rfl rfl) rfl rfl (kk_wl ?_))
                  refine wl_s rfl rfl nofun (fun _ => ?_)
                  refine wl_n rfl rfl rfl rfl ?_
                  refine wl_n rfl rfl rfl rfl ?_
                  refine wl_n rfl rfl rfl rfl ?_
                  refine wl_n rfl rfl rfl rfl ?_
                  refine wl_n rfl rfl rfl rfl ?_
                  refine wl_u rfl (ow_y (yh_pickF rfl rfl rfl) rfl rfl (kk_wl ?_))
                  refine wl_u rfl (ow_y (yh_move rfl rfl) rfl rfl (kk_wl ?_))
                  refine wl_s rfl rfl nofun (fun _ => ?_)
                  refine wl_n rfl rfl rfl rfl ?_
                  refine wl_n rfl rfl rfl rfl ?_
                  refine wl_n rfl rfl rfl rfl ?_
                  refine wl_n rfl rfl rfl rfl ?_
                  refine wl_n rfl rfl rfl rfl ?_
                  refine wl_u rfl (ow_y (yh_pickF rfl rfl rfl) rfl rfl (kk_wl ?_))
                  refine wl_u rfl (ow_y (yh_assign rfl rfl) rfl rfl (kk_wl ?_))
                  refine wl_nil ?_
                  refine ex_seq ?_
                  refine cw_ret ?_
                  obtain rfl := Option.some.inj h
                  exact ex_r1 Tb rfl (.tmp rfl) (fun wq hq => ⟨_, rfl, (hB6.back hq).ext, rfl⟩)
              · skip
                replace h := bf c12 h
                refine wl_n rfl rfl rfl rfl ?_
                refine wl_n rfl rfl rfl rfl ?_
                refine wl_n rfl rfl rfl rfl ?_
                refine wl_n rfl rfl rfl rfl ?_
                refine wl_n rfl rfl rfl rfl ?_
                refine wl_u rfl (ow_y (yh_pickF rfl rfl rfl) rfl rfl (kk_wl ?_))
                refine wl_u rfl (ow_y (yh_move rfl rfl) rfl rfl (kk_wl ?_))
                refine wl_s rfl rfl nofun (fun _ => ?_)
                refine wl_n rfl rfl rfl rfl ?_
                refine wl_n rfl rfl rfl rfl ?_
                refine wl_n rfl rfl rfl rfl ?_
                refine wl_n rfl rfl rfl rfl ?_
                refine wl_n rfl rfl rfl rfl ?_
                refine wl_u rfl (ow_y (yh_pickF rfl rfl rfl) rfl rfl (kk_wl ?_))
                refine wl_u rfl (ow_y (yh_move rfl rfl) rfl rfl (kk_wl ?_))
                refine wl_s rfl rfl nofun (fun _ => ?_)
                refine wl_n rfl rfl rfl rfl ?_
                refine wl_n rfl rfl rfl rfl ?_
                refine wl_n rfl rfl rfl rfl ?_
                refine wl_n rfl rfl rfl rfl ?_
                refine wl_n rfl rfl rfl rfl ?_
                refine wl_u rfl (ow_y (yh_pickF rfl rfl rfl) rfl rfl (kk_wl ?_))
                refine wl_u rfl (ow_y (yh_move rfl rfl) rfl rfl (kk_wl ?_))
                refine wl_s rfl rfl nofun (fun _ => ?_)
                refine wl_n rfl rfl rfl rfl ?_
                refine wl_n rfl rfl rfl rfl ?_
                refine wl_n rfl rfl rfl rfl ?_
                refine wl_n rfl rfl rfl rfl ?_
                refine wl_n rfl rfl rfl rfl ?_
                refine wl_u rfl (ow_y (yh_pickF rfl rfl rfl) rfl rfl (kk_wl ?_))
                refine wl_u rfl (ow_y (yh_assign rfl rfl) rfl rfl (kk_wl ?_))
                refine wl_nil ?_
                refine ex_seq ?_
                refine cw_ret ?_
                obtain rfl := Option.some.inj h
                exact ex_r1 Tb rfl (.tmp rfl) (fun wq hq => ⟨_, rfl, (hB6.back hq).ext, rfl⟩)
            · skip
              replace h := bf c11 h
              refine wl_n rfl rfl rfl rfl ?_
              refine wl_u rfl (ow_y (yh_pickF rfl rfl rfl) rfl rfl (kk_wl ?_))
              refine wl_u rfl (ow_y (yh_move rfl rfl) rfl rfl (kk_wl ?_))
              refine wl_s rfl rfl nofun (fun _ => ?_)
              refine wl_n rfl rfl rfl rfl ?_
              refine wl_n rfl rfl rfl rfl ?_
              refine wl_n rfl rfl rfl rfl ?_
              refine wl_n rfl rfl rfl rfl ?_
              refine wl_n rfl rfl rfl rfl ?_
              refine wl_u rfl (ow_y (yh_pickF rfl rfl rfl) rfl rfl (kk_wl ?_))
              refine wl_u rfl (ow_y (yh_move rfl rfl) rfl rfl (kk_wl ?_))
              refine wl_s rfl rfl nofun (fun _ => ?_)
              refine wl_n rfl rfl rfl rfl ?_
              refine wl_n rfl rfl rfl rfl ?_
              refine wl_n rfl rfl rfl rfl ?_
              refine wl_n rfl rfl rfl rfl ?_
              refine wl_n rfl rfl rfl rfl ?_
              refine wl_u rfl (ow_y (yh_pickF rfl rfl rfl) rfl rfl (kk_wl ?_))
              refine wl_u rfl (ow_y (yh_move rfl rfl) rfl rfl (kk_wl ?_))
              refine wl_s rfl rfl nofun (fun _ => ?_)
              refine wl_n rfl rfl rfl rfl ?_
              refine wl_n rfl rfl rfl rfl ?_
              refine wl_n rfl rfl rfl rfl ?_
              refine wl_n rfl rfl rfl rfl ?_
              refine wl_n rfl rfl rfl rfl ?_
              refine wl_u rfl (ow_y (yh_pickF rfl rfl rfl) rfl rfl (kk_wl ?_))
              refine wl_u rfl (ow_y (yh_move rfl rfl) rfl rfl (kk_wl ?_))
              refine wl_s rfl rfl nofun (fun _ => ?_)
              refine wl_n rfl rfl rfl rfl ?_
              refine wl_n rfl rfl rfl rfl ?_
              refine wl_n rfl rfl rfl rfl ?_
              refine wl_n rfl rfl rfl rfl ?_
              refine wl_n rfl rfl rfl rfl ?_
              refine wl_u rfl (ow_y (yh_pickF rfl rfl rfl) rfl rfl (kk_wl ?_))
              refine wl_u rfl (ow_y (yh_assign rfl rfl) rfl rfl (kk_wl ?_))
              refine wl_nil ?_
              refine ex_seq ?_
              refine cw_ret ?_
              obtain rfl := Option.some.inj h
              exact ex_r1 Tb rfl (.tmp rfl) (fun wq hq => ⟨_, rfl, (hB6.back hq).ext, rfl⟩)

end Go.Proofs.Ytmnhnldnnniglaa
