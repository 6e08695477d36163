/- The law: what is new is added, what is gone is dropped. -/
import Derived.Test.YtmnhnldnnniglaaP55
set_option linter.all false
namespace Go.Proofs.Ytmnhnldnnniglaa

theorem e_NamesSort1 {N : Nat} {l : List Str} (hs : ∀ x ∈ l, nameOk x = true) (hl : l.length ≤ 1000) (hN : 2000 < N) : m_impl_NamesSort N l = some (joinL l, true) := by
  unfold m_impl_NamesSort m_slices_ContainsFunc_string m_slices_IndexFunc_string
  rw [find_list (fun _ : Str => false) (fun k => (k : Int)) (fun n k => m_slices_IndexFunc_string_L4 N l (fun x0 => m_impl_NamesSort_f1 N x0) n k) l (fun k => k) N (by omega) ?_ ?_]
  · have e : l.findIdx? (fun _ : Str => false) = none := by
      rw [List.findIdx?_eq_none_iff]
      exact fun _ _ => rfl
    rw [e]
    simp only [Option.bind_some, Ex.go]
    rw [leb_false.2 (by omega), cond_false, e_cloneN (by omega), Option.bind_some]
    have es : m_slices_Sort_string N l = some ((), sortStrs l) := by
      unfold m_slices_Sort_string
      rw [if_pos (by omega)]
    rw [es, Option.bind_some]
    unfold m_slices_Compact_string
    rw [Option.bind_some, sortComp, e_cloneN (by have := join_len l; omega)]
    rfl
  · rintro n k rfl
    simp only [m_slices_IndexFunc_string_L4]
    rw [ltb_false.2 (by omega)]; rfl
  · intro n k h
    simp only [m_slices_IndexFunc_string_L4, m_impl_NamesSort_f1]
    have hk := hs _ (List.getElem_mem h)
    have h5 := nameOk_size hk
    rw [ltb_true.2 (by omega), cond_true, List.getElem?_eq_getElem h, Option.bind_some, e_impl_NameValid (by omega) (by omega), Option.bind_some, hk]
    rfl

theorem kinds_loop {N : Nat} {x : List Change × Bool} (hl : x.1.length ≤ 1000) (hN : 1000 < N) : m_laws_FnChangesOfKinds_L17 N x N [] [] 0 = some (.brk (kindN 1 x.1, kindN 2 x.1, x.1.length)) := by
  rw [loop_inv (fun n (s : List Str × List Str) k => m_laws_FnChangesOfKinds_L17 N x n s.1 s.2 k) x.1 (fun _ c s => .inr (bif eqb c.kind 1 then s.1 ++ [c.step.name] else s.1, bif eqb c.kind 2 then s.2 ++ [c.step.name] else s.2)) (fun k s => (s.1, s.2, k)) N (by omega) (fun k s => s.1.length ≤ k ∧ s.2.length ≤ k) ?_ ?_ ?_ ([], []) (by simp)]
  · rw [goL_fold (fun (c : Change) (s : List Str × List Str) => (bif eqb c.kind 1 then s.1 ++ [c.step.name] else s.1, bif eqb c.kind 2 then s.2 ++ [c.step.name] else s.2)), Nat.zero_add]
    have key : ∀ (t : List Change) (s : List Str × List Str), t.foldl (fun s c => (bif eqb c.kind 1 then s.1 ++ [c.step.name] else s.1, bif eqb c.kind 2 then s.2 ++ [c.step.name] else s.2)) s = (s.1 ++ kindN 1 t, s.2 ++ kindN 2 t) := by
      intro t
      induction t with
      | nil => intro s; simp [kindN]
      | cons c t ih =>
        intro s
        rw [List.foldl_cons, ih]
        unfold kindN
        simp only [List.filter_cons]
        cases eqb c.kind 1 <;> cases eqb c.kind 2 <;> simp
    rw [key]
    rfl
  · rintro n s k rfl _
    simp only [m_laws_FnChangesOfKinds_L17]
    rw [ltb_false.2 (by omega)]; rfl
  · intro n s k h hi
    simp only [m_laws_FnChangesOfKinds_L17]
    have a1 : appd s.1 [x.1[k].step.name] = some (s.1 ++ [x.1[k].step.name]) := appd_ok (by simp; omega)
    have a2 : appd s.2 [x.1[k].step.name] = some (s.2 ++ [x.1[k].step.name]) := appd_ok (by simp; omega)
    rw [ltb_true.2 (by omega), cond_true, List.getElem?_eq_getElem h]
    simp only [Option.bind_some, a1, a2]
    cases eqb x.1[k].kind 1 <;> cases eqb x.1[k].kind 2 <;> rfl
  · intro s k h s' hi he
    injection he with he
    subst he
    cases eqb x.1[k].kind 1 <;> cases eqb x.1[k].kind 2 <;> simp <;> omega

/-- The law. -/
theorem p_FnChangesOfKinds (u0 : List UInt8) : ∃ N, m_laws_FnChangesOfKinds N u0 = some true := by
  refine ⟨3000, ?_⟩
  unfold m_laws_FnChangesOfKinds
  refine begin1 ?_
  obtain ⟨f, g, h1, hf, hg⟩ := e_DrawChangesOf (N := 3000) (code := u0) (by omega)
  have fi := e_impl_ChangesOf (N := 3000) hf hg (by omega) (by omega)
  have fs := e_spec_ChangesOf (N := 3000) hf hg (by omega) (by omega)
  have hl := ch_len hf hg
  have sr := e_sameChanges_self (N := 3000) (l := (chOf f g).1) (by omega) (ch_small hg) (by omega)
  cases hb : (chOf f g).2 with
  | false => simp only [h1, fi, fs, sr, hb, Option.bind_some, bne_self_eq_false, beq_self_eq_true, cond_true, cond_false, Bool.not_true, Bool.not_false]
  | true =>
    obtain ⟨a1, a2, a3⟩ := ch_true hb
    obtain ⟨k1, k2⟩ := kinds_all a1 a2
    have lp := kinds_loop (N := 3000) (x := chOf f g) (by omega) (by omega)
    rw [a3, k1, k2] at lp
    obtain ⟨b1, b2⟩ := added_sort a1 a2
    obtain ⟨c1, c2⟩ := gone_sort a1 a2
    obtain ⟨d1, d2⟩ := added_ok (f := f) a2
    obtain ⟨e1, e2⟩ := gone_ok (g := g) a1
    have s1 := e_NamesSort1 (N := 3000) d1 (by omega) (by omega)
    have s2 := e_NamesSort1 (N := 3000) e1 (by omega) (by omega)
    have n1 := e_impl_FitNew (N := 3000) hg hf (by omega) (by omega)
    have n2 := e_impl_FitNew (N := 3000) hf hg (by omega) (by omega)
    have j1 := join_len (addedL f g)
    have j2 := join_len (goneL f g)
    have t1 : m_laws_sameTexts 3000 (joinL (addedL f g)) (newF g f) = some true := by rw [e_sameTexts (by omega), decide_eq_true b1]
    have t2 : m_laws_sameTexts 3000 (joinL (goneL f g)) (newF f g) = some true := by rw [e_sameTexts (by omega), decide_eq_true c1]
    have q1 : eqb (((joinL (addedL f g)).length : Nat) : Int) (((addedL f g).length : Nat) : Int) = true := eqb_true.2 (by rw [b2])
    have q2 : eqb (((joinL (goneL f g)).length : Nat) : Int) (((goneL f g).length : Nat) : Int) = true := eqb_true.2 (by rw [c2])
    have lp2 : m_laws_FnChangesOfKinds_L17 3000 (chOf f g) 3000 [] [] 0 = some (.brk (addedL f g, goneL f g, (chFree f g ++ chGone f g ++ chMade f g).length)) := lp
    simp only [h1, fi, fs, sr, hb, lp2, s1, s2, n1, n2, t1, t2, q1, q2, Option.bind_some, bne_self_eq_false, beq_self_eq_true, cond_true, cond_false, Bool.not_true, Bool.not_false, Ex.go]
end Go.Proofs.Ytmnhnldnnniglaa
