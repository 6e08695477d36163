/- Exact laws: all runs are moved, new steps, what is dropped from a registry. -/
import Derived.Test.YthlhkinkcbamgaaP23
import Derived.Test.YthlhkinkcbamgaaP25
import Derived.Test.YthlhkinkcbamgaaP26
set_option linter.all false
namespace Go.Proofs.Ythlhkinkcbamgaa

/-! ## Lists of numbers -/

theorem e_toIntS {N : Nat} {l : List Int} (hl : l.length ≤ 4000000000) (hN : l.length < N) : m_laws_toIntS N l = some l := by
  unfold m_laws_toIntS
  rw [mkl_ok hl, Option.bind_some, copy_list (fun n s k => m_laws_toIntS_L5 N l n s k) l _ (fun k s => (s, k)) N hN (by simp) ?_ ?_]
  · rfl
  · rintro n s k rfl
    simp only [m_laws_toIntS_L5]
    rw [ltb_false.2 (by omega)]; rfl
  · intro n s k h hs
    simp only [m_laws_toIntS_L5]
    rw [ltb_true.2 (by omega), cond_true, List.getElem?_eq_getElem h, Option.bind_some, List.getElem?_eq_getElem (by omega), Option.bind_some]
theorem e_eqIntS_self {N : Nat} {l : List Int} (hN : l.length < N) : m_laws_eqIntS N l l = some true := by
  unfold m_laws_eqIntS
  rw [eqb_true.2 rfl, Bool.not_true, cond_false, all_list (fun _ _ => true) false (fun n k => m_laws_eqIntS_L8 N l l n k) l (fun k => k) N hN ?_ ?_, allIdx_all, List.all_eq_true.2 (fun _ _ => rfl)]
  · rfl
  · rintro n k rfl
    simp only [m_laws_eqIntS_L8]
    rw [ltb_false.2 (by omega)]; rfl
  · intro n k h
    simp only [m_laws_eqIntS_L8]
    rw [ltb_true.2 (by omega), cond_true, List.getElem?_eq_getElem h, Option.bind_some, Option.bind_some, eqb_true.2 rfl]; rfl

def stI (_ : Int) (k : Int) : Int × Int := (k, k + 1)
theorem stI_c (x : Int) (k : Int) : k ≤ (stI x k).2 ∧ (stI x k).2 ≤ k + (fun _ : Int => 1) x := by unfold stI; simp only; omega
theorem mh_IntS {N : Nat} {l : List Int} {k : Int} (hN : 100 < N) (hl : l.length < N) (h0 : 0 ≤ k) (h1 : k + l.length ≤ 4000000000000000000) :
    ∃ k' l', m_laws_markIntS N l k = some (k', l') ∧ m_laws_heldIntS N l' k = some k' ∧ k ≤ k' ∧ k' ≤ k + l.length := by
  have hc := mkAll_le (stI_c) l k
  rw [wsum_one] at hc
  have e := mkAll_len stI l k
  refine ⟨(mkAll stI l k).2, (mkAll stI l k).1, ?_, ?_, hc.1, hc.2⟩
  · unfold m_laws_markIntS
    rw [mark_list stI (fun _ => 1) 4000000000000000000 (fun n s k i => m_laws_markIntS_L4 N l n s k i) l N hl k h0 (by rw [wsum_one]; exact h1) stI_c ?_ ?_, Option.bind_some]
    · rfl
    · rintro n s k i rfl
      simp only [m_laws_markIntS_L4]
      rw [ltb_false.2 (by omega)]; rfl
    · intro n s k i x h hs hx _ hk hB
      simp only [m_laws_markIntS_L4]
      rw [ltb_true.2 (by omega), cond_true, hx, Option.bind_some, w64_id (by omega)]
      rfl
  · unfold m_laws_heldIntS
    rw [held_list stI (fun _ => 1) 4000000000000000000 (fun n k2 i => m_laws_heldIntS_L4 N (mkAll stI l k).1 n k2 i) l N hl k h0 (by rw [wsum_one]; exact h1) stI_c ?_ ?_, Option.bind_some]
    · rfl
    · rintro n k2 i rfl
      simp only [m_laws_heldIntS_L4]
      rw [ltb_false.2 (by omega)]; rfl
    · intro n i x k2 h _ hx hk hB
      simp only [m_laws_heldIntS_L4]
      rw [ltb_true.2 (by omega), cond_true, hx, Option.bind_some, w64_id (by omega)]
      unfold stI
      simp only
      rw [eqb_true.2 rfl]; rfl

/-! ## Lists of runs -/

theorem e_toRunS {N B : Nat} {l : List Run} (hl : smallRs l B) (hB : B ≤ 4000000000) (hN : B < N) : m_laws_toRunS N l = some l := by
  have h0 := hl.1
  unfold m_laws_toRunS
  rw [mkl_ok (by omega), Option.bind_some, copy_list (fun n s k => m_laws_toRunS_L5 N l n s k) l _ (fun k s => (s, k)) N (by omega) (by simp) ?_ ?_]
  · rfl
  · rintro n s k rfl
    simp only [m_laws_toRunS_L5]
    rw [ltb_false.2 (by omega)]; rfl
  · intro n s k h hs
    simp only [m_laws_toRunS_L5]
    have := hl.2 _ (List.getElem_mem h)
    rw [ltb_true.2 (by omega), cond_true, List.getElem?_eq_getElem h, Option.bind_some, e_toRun (by omega) (by omega), Option.bind_some, List.getElem?_eq_getElem (by omega), Option.bind_some]
theorem e_eqRunS_self {N B : Nat} {l : List Run} (hl : smallRs l B) (hN : B < N) : m_laws_eqRunS N l l = some true := by
  have h0 := hl.1
  unfold m_laws_eqRunS
  rw [eqb_true.2 rfl, Bool.not_true, cond_false, all_list (fun _ _ => true) false (fun n k => m_laws_eqRunS_L8 N l l n k) l (fun k => k) N (by omega) ?_ ?_, allIdx_all, List.all_eq_true.2 (fun _ _ => rfl)]
  · rfl
  · rintro n k rfl
    simp only [m_laws_eqRunS_L8]
    rw [ltb_false.2 (by omega)]; rfl
  · intro n k h
    simp only [m_laws_eqRunS_L8]
    rw [ltb_true.2 (by omega), cond_true, List.getElem?_eq_getElem h, Option.bind_some, Option.bind_some, e_eqRun_self (by have := hl.2 _ (List.getElem_mem h); omega)]; rfl
def wRun (r : Run) : Nat := wStrs r.done
theorem e_szRunS {N : Nat} {l : List Run} {left : Int} (h : l.length ≤ 140737488351232 ∧ ∀ r ∈ l, hugeL r.done) (hN : 140737488351232 < N) (h0 : 0 ≤ left) (h1 : left ≤ 1048576) : m_laws_szRunS N l left = some (gz (l.length + wsum wRun l) left) := by
  have hl := h.1
  unfold m_laws_szRunS
  rw [gz_w64 h0 h1 (by omega), gz_b h0]
  by_cases hc : gz l.length left < 0
  · rw [ltb_true.2 hc, gz_one h0 hc]; rfl
  rw [ltb_false.2 (by omega), cond_false, ← gz_rest hc]
  rw [size_list (fun n s k => m_laws_szRunS_L8 N l n s k) l wRun (fun k s => (s, k)) N (by omega) ?_ ?_ (gz l.length left) (by omega) (Int.le_trans (gz_le h0) h1), Option.bind_some, gz_two h0 hc]
  · split
    · rename_i h2; rw [gz_m1 h0 h2]; rfl
    · rfl
  · rintro n s k rfl
    simp only [m_laws_szRunS_L8]
    rw [ltb_false.2 (by omega)]; rfl
  · intro n s k hk s0 s1
    simp only [m_laws_szRunS_L8]
    rw [ltb_true.2 (by omega), cond_true, List.getElem?_eq_getElem hk, Option.bind_some, e_szRun (h.2 _ (List.getElem_mem hk)) hN s0 s1, Option.bind_some]
    rfl
theorem small_runs {l : List Run} {B : Nat} (h : l.length + wsum wRun l ≤ B) : smallRs l B := ⟨by omega, fun r hr => by
  have h1 := wsum_mem (w := wRun) hr
  have h2 : wRun r = r.done.length + wsum (fun x : Str => x.size) r.done := rfl
  omega⟩
theorem cRuns_bd {l : List Run} (h : smallRs l 1048576) : wsum cRun1 l ≤ 1099512676352 := by
  have h1 : wsum cRun1 l ≤ l.length * 1048577 := wsum_bd fun r hr => by
    have := h.2 r hr
    unfold cRun1
    omega
  have h2 : l.length * 1048577 ≤ 1048576 * 1048577 := Nat.mul_le_mul_right _ h.1
  omega

/-- The law. -/
theorem p_FnExactMoveAll (f g : Flow) (l : List Run) (h1 : szF f) (h2 : szF g) (h3 : l.length ≤ 140737488351232 ∧ ∀ r ∈ l, szR r) : ∃ N, m_laws_FnExactMoveAll N f g l = some true := by
  refine ⟨140737488351232 + 2, ?_⟩
  unfold m_laws_FnExactMoveAll
  rw [e_szFlow (hugeF_of h1) (by omega) (by omega) (by omega), Option.bind_some]
  by_cases hc : gz (wFlow f) 1048576 < 0
  · rw [ltb_true.2 hc]; rfl
  rw [ltb_false.2 (by omega), cond_false]
  have c1 := gz_pos (Int.not_lt.1 hc)
  rw [e_szFlow (hugeF_of h2) (by omega) (by omega) (by omega), Option.bind_some]
  by_cases hd : gz (wFlow g) (gz (wFlow f) 1048576) < 0
  · rw [ltb_true.2 hd]; rfl
  rw [ltb_false.2 (by omega), cond_false]
  have c2 := gz_pos (Int.not_lt.1 hd)
  rw [e_szRunS ⟨h3.1, fun r hr => (h3.2 r hr).2⟩ (by omega) (by omega) (by omega), Option.bind_some]
  by_cases he : gz (l.length + wsum wRun l) (gz (wFlow g) (gz (wFlow f) 1048576)) < 0
  · rw [ltb_true.2 he]; rfl
  rw [ltb_false.2 (by omega), cond_false]
  have c3 := gz_pos (Int.not_lt.1 he)
  have s1 : smallF f 1048576 := small_flow (by omega)
  have s2 : smallF g 1048576 := small_flow (by omega)
  have s3 : smallRs l 1048576 := small_runs (by omega)
  have so := move_small (f := f) (g := g) s3
  have l1 := s1.1; have l2 := s2.1; have l3 := s3.1; have l4 := so.2
  have b1 := cFlow_bd s1; have b2 := cFlow_bd s2; have b3 := cRuns_bd s3; have b4 := cRuns_bd so.1
  have t1 := e_toFlow (N := 140737488351232 + 2) s1 (by omega) (by omega)
  have t2 := e_toFlow (N := 140737488351232 + 2) s2 (by omega) (by omega)
  have t3 := e_toRunS (N := 140737488351232 + 2) s3 (by omega) (by omega)
  have fs := e_spec_MoveAll (N := 140737488351232 + 2) s1 s2 s3 (by omega) (by omega)
  have fi := e_impl_MoveAll (N := 140737488351232 + 2) s1 s2 s3 (by omega) (by omega)
  have q1 := e_eqFlow_self (N := 140737488351232 + 2) s1 (by omega)
  have q2 := e_eqFlow_self (N := 140737488351232 + 2) s2 (by omega)
  have q3 := e_eqRunS_self (N := 140737488351232 + 2) s3 (by omega)
  have q4 := e_eqRunS_self (N := 140737488351232 + 2) so.1 (by omega)
  have q5 := e_eqIntS_self (N := 140737488351232 + 2) (l := (moveAll f g l).2.1) (by omega)
  obtain ⟨k1, m1, a1, u1, v1⟩ := mk_Flow (N := 140737488351232 + 2) (f := f) (k := 1) (by omega) (by omega) (fun s hs => by have := (s1.2 s hs).2.1; omega) (by omega) (by omega)
  obtain ⟨k2, m2, a2, u2, v2⟩ := mk_Flow (N := 140737488351232 + 2) (f := g) (k := k1) (by omega) (by omega) (fun s hs => by have := (s2.2 s hs).2.1; omega) (by omega) (by omega)
  obtain ⟨k3, m3, a3, -, u3, v3⟩ := mh_RunS (N := 140737488351232 + 2) (l := l) (k := k2) (by omega) s3 (by omega) (by omega) (by omega)
  obtain ⟨k4, m4, a4, d4, u4, v4⟩ := mh_RunS (N := 140737488351232 + 2) (l := (moveAll f g l).1) (k := 1) (by omega) so.1 (by omega) (by omega) (by omega)
  obtain ⟨k5, m5, a5, d5, u5, v5⟩ := mh_IntS (N := 140737488351232 + 2) (l := (moveAll f g l).2.1) (k := k4) (by omega) (by omega) (by omega) (by omega)
  have n3 : ltb k3 0 = false := ltb_false.2 (by omega)
  have n4 : ltb k4 0 = false := ltb_false.2 (by omega)
  have n5 : ltb k5 0 = false := ltb_false.2 (by omega)
  simp only [t1, t2, t3, fs, fi, q1, q2, q3, q4, q5, a1, a2, a3, a4, a5, d4, d5, n3, n4, n5, eqb_self, Option.bind_some, Bool.not_true, cond_false, bne_self_eq_false, Ex.go]

/-- The law. -/
theorem p_FnExactFitNew (f g : Flow) (h1 : szF f) (h2 : szF g) : ∃ N, m_laws_FnExactFitNew N f g = some true := by
  refine ⟨140737488351232 + 2, ?_⟩
  unfold m_laws_FnExactFitNew
  rw [e_szFlow (hugeF_of h1) (by omega) (by omega) (by omega), Option.bind_some]
  by_cases hc : gz (wFlow f) 1048576 < 0
  · rw [ltb_true.2 hc]; rfl
  rw [ltb_false.2 (by omega), cond_false]
  have c1 := gz_pos (Int.not_lt.1 hc)
  rw [e_szFlow (hugeF_of h2) (by omega) (by omega) (by omega), Option.bind_some]
  by_cases hd : gz (wFlow g) (gz (wFlow f) 1048576) < 0
  · rw [ltb_true.2 hd]; rfl
  rw [ltb_false.2 (by omega), cond_false]
  have c2 := gz_pos (Int.not_lt.1 hd)
  have s1 : smallF f 1048576 := small_flow (by omega)
  have s2 : smallF g 1048576 := small_flow (by omega)
  have l1 := s1.1; have l2 := s2.1
  have lo := newF_len f g
  have b1 := cFlow_bd s1; have b2 := cFlow_bd s2
  have t1 := e_toFlow (N := 140737488351232 + 2) s1 (by omega) (by omega)
  have t2 := e_toFlow (N := 140737488351232 + 2) s2 (by omega) (by omega)
  have fs := e_spec_FitNew (N := 140737488351232 + 2) s1 s2 (by omega) (by omega)
  have fi := e_impl_FitNew (N := 140737488351232 + 2) s1 s2 (by omega) (by omega)
  have q1 := e_eqFlow_self (N := 140737488351232 + 2) s1 (by omega)
  have q2 := e_eqFlow_self (N := 140737488351232 + 2) s2 (by omega)
  have q4 : m_laws_eqStringS (140737488351232 + 2) (newF f g) (newF f g) = some true := by rw [e_eqStringS (by omega), decide_eq_true rfl]
  obtain ⟨k1, m1, a1, u1, v1⟩ := mk_Flow (N := 140737488351232 + 2) (f := f) (k := 1) (by omega) (by omega) (fun s hs => by have := (s1.2 s hs).2.1; omega) (by omega) (by omega)
  obtain ⟨k2, m2, a2, u2, v2⟩ := mk_Flow (N := 140737488351232 + 2) (f := g) (k := k1) (by omega) (by omega) (fun s hs => by have := (s2.2 s hs).2.1; omega) (by omega) (by omega)
  have a4 := e_markStringS (N := 140737488351232 + 2) (l := newF f g) (k := 1) (by omega) (by omega) (by omega) (by omega)
  have d4 := e_heldStringS (N := 140737488351232 + 2) (l := newF f g) (k := 1) (by omega) (by omega) (by omega) (by omega)
  have n3 : ltb k2 0 = false := ltb_false.2 (by omega)
  have n4 : ltb (1 + (((newF f g).length : Nat) : Int)) 0 = false := ltb_false.2 (by omega)
  simp only [t1, t2, fs, fi, q1, q2, q4, a1, a2, a4, d4, n3, n4, eqb_self, Option.bind_some, Bool.not_true, cond_false, bne_self_eq_false, Ex.go]

/-- The law. -/
theorem p_FnExactRegistryDrop (l : List Flow) (v : Int) (u : List Int) (hh : l.length ≤ 140737488351232 ∧ ∀ f ∈ l, szF f) (hv : fits v) (hu : u.length ≤ 140737488351232 ∧ ∀ x ∈ u, fits x) : ∃ N, m_laws_FnExactRegistryDrop N l v u = some true := by
  refine ⟨140737488351232 + 2, ?_⟩
  unfold m_laws_FnExactRegistryDrop
  by_cases c0 : ltb 1048576 ((u.length : Nat) : Int) = true
  · rw [c0, cond_true]
  rw [Bool.not_eq_true] at c0
  rw [c0, cond_false]
  have hul := ltb_false.1 c0
  rw [e_szFlowS ⟨hh.1, fun f hf => hugeF_of (hh.2 f hf)⟩ (by omega) (by omega) (by omega), Option.bind_some]
  by_cases hc : gz (wFlows l) 1048576 < 0
  · rw [ltb_true.2 hc]; rfl
  rw [ltb_false.2 (by omega), cond_false]
  have hs : smallR l 1048576 := small_flows (by have := (gz_pos (Int.not_lt.1 hc)).1; omega)
  have ho : smallR (regDrop l v u).1 1048576 := drop_small hs
  have l1 := hs.1
  have b1 := cFlows_bd hs; have b2 := cFlows_bd ho
  have t1 := e_toFlowS (N := 140737488351232 + 2) hs (by omega) (by omega)
  have t2 := e_toIntS (N := 140737488351232 + 2) (l := u) (by omega) (by omega)
  have fs := e_spec_RegistryDrop (N := 140737488351232 + 2) (v := v) (u := u) hs (by omega) (by omega) (by omega)
  have fi := e_impl_RegistryDrop (N := 140737488351232 + 2) (v := v) (u := u) hs (by omega) (by omega) (by omega)
  have q1 := e_eqFlowS_self (N := 140737488351232 + 2) hs (by omega)
  have q2 := e_eqIntS_self (N := 140737488351232 + 2) (l := u) (by omega)
  have q4 := e_eqFlowS_self (N := 140737488351232 + 2) ho (by omega)
  obtain ⟨k1, m1, a1, -, u1, v1⟩ := mh_FlowS (N := 140737488351232 + 2) (k := 1) (by omega) hs (by omega) (by omega) (by omega)
  obtain ⟨k2, m2, a2, -, u2, v2⟩ := mh_IntS (N := 140737488351232 + 2) (l := u) (k := k1) (by omega) (by omega) (by omega) (by omega)
  obtain ⟨k4, m4, a4, d4, u4, v4⟩ := mh_FlowS (N := 140737488351232 + 2) (l := (regDrop l v u).1) (k := 1) (by omega) ho (by omega) (by omega) (by omega)
  have n1 : ltb k2 0 = false := ltb_false.2 (by omega)
  have n4 : ltb k4 0 = false := ltb_false.2 (by omega)
  simp only [t1, t2, fs, fi, q1, q2, q4, a1, a2, a4, d4, n1, n4, eqb_self, Option.bind_some, Bool.not_true, cond_false, bne_self_eq_false, Ex.go]
end Go.Proofs.Ythlhkinkcbamgaa
