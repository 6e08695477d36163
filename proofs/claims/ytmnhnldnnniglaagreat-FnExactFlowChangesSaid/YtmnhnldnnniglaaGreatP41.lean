/- Changes of flows: the second text's functions reckon them so. -/
import Derived.Test.YtmnhnldnnniglaaGreatP40
import Derived.Test.YtmnhnldnnniglaaGreatP16
set_option linter.all false
namespace Go.Proofs.YtmnhnldnnniglaaGreat

theorem x_Put {N : Nat} {l : List Str} {x : Str} (hl : l.length ≤ 1000000) : ∀ (m n k : Nat) (a : List Str) (b : Bool), l.length - k = m → k ≤ l.length → m < n → a.length ≤ k + (bif b then 1 else 0) →
    ∃ a' b' k', m_spec_l1Put_L6 N l x n a b k = some (.brk (a', b', k')) ∧ a'.length ≤ l.length + (bif b' then 1 else 0) ∧ (bif b' then a' else a' ++ [x]) = insE id x (l.drop k) a b
  | 0, n, k, a, b, hm, hk, hn, ha => by
    obtain ⟨n, rfl⟩ : ∃ n', n = n' + 1 := ⟨n - 1, by omega⟩
    refine ⟨a, b, k, ?_, by omega, ?_⟩
    · simp only [m_spec_l1Put_L6]
      rw [ltb_false.2 (by omega)]; rfl
    · rw [List.drop_eq_nil_of_le (by omega), insE]
  | m + 1, n, k, a, b, hm, hk, hn, ha => by
    obtain ⟨n, rfl⟩ : ∃ n', n = n' + 1 := ⟨n - 1, by omega⟩
    have hkl : k < l.length := by omega
    simp only [m_spec_l1Put_L6]
    rw [ltb_true.2 (by omega), cond_true, List.getElem?_eq_getElem hkl]
    simp only [Option.bind_some]
    obtain ⟨a1, b1, h1, h2, h3⟩ : ∃ a1 b1, ((bif !b then (bif !(slt l[k] x) then (appd a ([x] : List Str)).bind fun l28 => some ((a ++ ([x] : List Str)), true) else some (a, b)) else some (a, b)) : Option ((List Str) × Bool)) = some (a1, b1) ∧ a1.length ≤ k + (bif b1 then 1 else 0) ∧ a1 = (bif !b && !slt l[k] x then a ++ [x] else a) ∧ b1 = (b || !slt l[k] x) := by
      cases b with
      | true => exact ⟨a, true, rfl, ha, rfl, rfl⟩
      | false =>
        cases slt l[k] x with
        | true => exact ⟨a, false, rfl, ha, rfl, rfl⟩
        | false =>
          simp only [cond_false] at ha
          simp only [Bool.not_false, cond_true]
          rw [appd_ok (by simp; omega)]
          exact ⟨_, true, rfl, by simp; omega, rfl, rfl⟩
    rw [h1, Option.bind_some]
    simp only
    have hb : (bif b1 then 1 else 0) ≤ 1 := by cases b1 <;> simp
    rw [List.drop_eq_getElem_cons hkl, insE]
    simp only [id]
    rw [← h3.1, ← h3.2]
    cases seq l[k] x with
    | true =>
      simp only [Bool.not_true, cond_false, cond_true, List.append_nil]
      exact x_Put hl m n (k + 1) a1 b1 (by omega) (by omega) (by omega) (by omega)
    | false =>
      simp only [Bool.not_false, cond_true, cond_false]
      rw [appd_ok (by simp; omega), Option.bind_some]
      exact x_Put hl m n (k + 1) (a1 ++ [l[k]]) b1 (by omega) (by omega) (by omega) (by simp; omega)

theorem x_l1Put {N : Nat} {l : List Str} {x : Str} (ha : ascK id l) (hl : l.length ≤ 1000000) (hN : l.length < N) : m_spec_l1Put N l x = some (putK id l x) := by
  unfold m_spec_l1Put
  obtain ⟨a, b, k, h1, h2, h3⟩ := x_Put (N := N) (x := x) hl l.length N 0 [] false (by omega) (by omega) hN (by simp)
  rw [h1, Option.bind_some]
  simp only [Ex.go]
  rw [List.drop_zero, insE_eq _ _ _ _ ha, List.nil_append] at h3
  rw [← h3]
  cases b with
  | true => rfl
  | false =>
    simp only [cond_false] at h2
    simp only [Bool.not_false, cond_true, cond_false]
    rw [appd_ok (by simp; omega)]
    rfl

theorem x_With {N B : Nat} {l : List Step} {x : Step} (hB : B ≤ 1000000) (hx : smallS x B) (hs : ∀ y ∈ l, smallS y B) (hl : l.length ≤ 1000000) : ∀ (m n k : Nat) (a : List Step) (b : Bool), l.length - k = m → k ≤ l.length → m < n → a.length ≤ k + (bif b then 1 else 0) →
    ∃ a' b' k', m_spec_l12With_L11 N l x n a b k = some (.brk (a', b', k')) ∧ a'.length ≤ l.length + (bif b' then 1 else 0) ∧ (bif b' then a' else a' ++ [x]) = insE nameK x (l.drop k) a b
  | 0, n, k, a, b, hm, hk, hn, ha => by
    obtain ⟨n, rfl⟩ : ∃ n', n = n' + 1 := ⟨n - 1, by omega⟩
    refine ⟨a, b, k, ?_, by omega, ?_⟩
    · simp only [m_spec_l12With_L11]
      rw [ltb_false.2 (by omega)]; rfl
    · rw [List.drop_eq_nil_of_le (by omega), insE]
  | m + 1, n, k, a, b, hm, hk, hn, ha => by
    obtain ⟨n, rfl⟩ : ∃ n', n = n' + 1 := ⟨n - 1, by omega⟩
    have hkl : k < l.length := by omega
    have hx4 := hx.2.1
    have hk4 := (hs _ (List.getElem_mem hkl)).2.1
    simp only [m_spec_l12With_L11]
    rw [ltb_true.2 (by omega), cond_true, List.getElem?_eq_getElem hkl]
    simp only [Option.bind_some]
    obtain ⟨a1, b1, h1, h2, h3⟩ : ∃ a1 b1, ((bif !b then (bif !(slt l[k].name x.name) then (m_spec_l2Step N x).bind fun x29 => (appd a [x29]).bind fun l31 => some ((a ++ [x29]), true) else some (a, b)) else some (a, b)) : Option ((List Step) × Bool)) = some (a1, b1) ∧ a1.length ≤ k + (bif b1 then 1 else 0) ∧ a1 = (bif !b && !slt (nameK l[k]) (nameK x) then a ++ [x] else a) ∧ b1 = (b || !slt (nameK l[k]) (nameK x)) := by
      unfold nameK
      cases b with
      | true => exact ⟨a, true, rfl, ha, rfl, rfl⟩
      | false =>
        cases slt l[k].name x.name with
        | true => exact ⟨a, false, rfl, ha, rfl, rfl⟩
        | false =>
          simp only [cond_false] at ha
          simp only [Bool.not_false, cond_true]
          rw [e_l2Step (by omega), Option.bind_some, appd_ok (by simp; omega)]
          exact ⟨_, true, rfl, by simp; omega, rfl, rfl⟩
    rw [h1, Option.bind_some]
    simp only
    have hb : (bif b1 then 1 else 0) ≤ 1 := by cases b1 <;> simp
    rw [List.drop_eq_getElem_cons hkl, insE, ← h3.1, ← h3.2]
    simp only [nameK]
    cases seq l[k].name x.name with
    | true =>
      simp only [Bool.not_true, cond_false, cond_true, List.append_nil]
      exact x_With hB hx hs hl m n (k + 1) a1 b1 (by omega) (by omega) (by omega) (by omega)
    | false =>
      simp only [Bool.not_false, cond_true, cond_false]
      rw [e_l2Step (by omega), Option.bind_some, appd_ok (by simp; omega), Option.bind_some]
      exact x_With hB hx hs hl m n (k + 1) (a1 ++ [l[k]]) b1 (by omega) (by omega) (by omega) (by simp; omega)

theorem x_l12With {N B : Nat} {l : List Step} {x : Step} (hB : B ≤ 1000000) (hx : smallS x B) (hs : ∀ y ∈ l, smallS y B) (ha : ascK nameK l) (hl : l.length ≤ 1000000) (hN : l.length < N) : m_spec_l12With N l x = some (withS l x) := by
  unfold m_spec_l12With
  have hx4 := hx.2.1
  obtain ⟨a, b, k, h1, h2, h3⟩ := x_With (N := N) hB hx hs hl l.length N 0 [] false (by omega) (by omega) hN (by simp)
  rw [h1, Option.bind_some]
  simp only [Ex.go]
  rw [List.drop_zero, insE_eq _ _ _ _ ha, List.nil_append] at h3
  unfold withS
  rw [← h3]
  cases b with
  | true => rfl
  | false =>
    simp only [cond_false] at h2
    simp only [Bool.not_false, cond_true, cond_false]
    rw [e_l2Step (by omega), Option.bind_some, appd_ok (by simp; omega)]
    rfl

theorem x_16 {N : Nat} {u : Str} {x : Step} (hx : smallS x 8) (hN : 100 < N) : ∀ (m n k : Nat) (a : List Str), x.after.length - k = m → k ≤ x.after.length → m < n → a.length ≤ k → ascK id a →
    ∃ k', m_spec_l12Without_L16 N u x n a k = some (.brk (((x.after.drop k).filter fun y => !seq y u).foldl (fun a y => putK id a y) a, k'))
  | 0, n, k, a, hm, hk, hn, ha, hs => by
    obtain ⟨n, rfl⟩ : ∃ n', n = n' + 1 := ⟨n - 1, by omega⟩
    refine ⟨k, ?_⟩
    simp only [m_spec_l12Without_L16]
    rw [ltb_false.2 (by omega), List.drop_eq_nil_of_le (by omega)]; rfl
  | m + 1, n, k, a, hm, hk, hn, ha, hs => by
    obtain ⟨n, rfl⟩ : ∃ n', n = n' + 1 := ⟨n - 1, by omega⟩
    have hkl : k < x.after.length := by omega
    have h8 := hx.2.1
    simp only [m_spec_l12Without_L16]
    rw [ltb_true.2 (by omega), cond_true, List.getElem?_eq_getElem hkl, Option.bind_some, List.drop_eq_getElem_cons hkl, List.filter_cons]
    cases seq x.after[k] u with
    | true => simp only [Bool.not_true, cond_false]; exact x_16 hx hN m n (k + 1) a (by omega) (by omega) (by omega) (by omega) hs
    | false =>
      simp only [Bool.not_false, cond_true]
      rw [x_l1Put hs (by omega) (by omega), Option.bind_some]
      have := putK_len (key := id) (l := a) (x := x.after[k])
      exact x_16 hx hN m n (k + 1) _ (by omega) (by omega) (by omega) (by omega) (putK_asc hs)

theorem x_23 {N : Nat} {x : Step} (hx : smallS x 8) (hN : 100 < N) : ∀ (m n k : Nat) (a : List Str), x.after.length - k = m → k ≤ x.after.length → m < n → a.length ≤ k + 8 → ascK id a →
    ∃ k', m_spec_l12Without_L23 N x n a k = some (.brk ((x.after.drop k).foldl (fun a y => putK id a y) a, k'))
  | 0, n, k, a, hm, hk, hn, ha, hs => by
    obtain ⟨n, rfl⟩ : ∃ n', n = n' + 1 := ⟨n - 1, by omega⟩
    refine ⟨k, ?_⟩
    simp only [m_spec_l12Without_L23]
    rw [ltb_false.2 (by omega), List.drop_eq_nil_of_le (by omega)]; rfl
  | m + 1, n, k, a, hm, hk, hn, ha, hs => by
    obtain ⟨n, rfl⟩ : ∃ n', n = n' + 1 := ⟨n - 1, by omega⟩
    have hkl : k < x.after.length := by omega
    have h8 := hx.2.1
    simp only [m_spec_l12Without_L23]
    rw [ltb_true.2 (by omega), cond_true, List.getElem?_eq_getElem hkl, Option.bind_some, List.drop_eq_getElem_cons hkl]
    rw [x_l1Put hs (by omega) (by omega), Option.bind_some]
    have := putK_len (key := id) (l := a) (x := x.after[k])
    exact x_23 hx hN m n (k + 1) _ (by omega) (by omega) (by omega) (by omega) (putK_asc hs)

theorem x_Without {N : Nat} {l : List Step} {u : Str} {y : Step} (hl : l.length ≤ 8) (hs : ∀ s ∈ l, smallS s 8) (hy : smallS y 8) (hN : 100 < N) : ∀ (m n k : Nat) (a : List Step), l.length - k = m → k ≤ l.length → m < n → a.length ≤ k →
    ∃ k', m_spec_l12Without_L6 N l u y n a k = some (.brk (a ++ ((l.drop k).map (dropA u y.after)).filter (fun s => !seq s.name u), k'))
  | 0, n, k, a, hm, hk, hn, ha => by
    obtain ⟨n, rfl⟩ : ∃ n', n = n' + 1 := ⟨n - 1, by omega⟩
    refine ⟨k, ?_⟩
    simp only [m_spec_l12Without_L6]
    rw [ltb_false.2 (by omega), List.drop_eq_nil_of_le (by omega)]; simp
  | m + 1, n, k, a, hm, hk, hn, ha => by
    obtain ⟨n, rfl⟩ : ∃ n', n = n' + 1 := ⟨n - 1, by omega⟩
    have hkl : k < l.length := by omega
    have hk8 := hs _ (List.getElem_mem hkl)
    have hk4 := hk8.2.1
    simp only [m_spec_l12Without_L6]
    rw [ltb_true.2 (by omega), cond_true, List.getElem?_eq_getElem hkl, Option.bind_some, e_l2Step (by omega), Option.bind_some, e_l1At (by omega), Option.bind_some, hasB_pos]
    rw [List.drop_eq_getElem_cons hkl, List.map_cons, List.filter_cons, drop_name]
    cases hh : hasB l[k].after u with
    | true =>
      simp only [cond_true]
      obtain ⟨k1, g1⟩ := x_16 (N := N) (u := u) hk8 hN l[k].after.length N 0 [] (by omega) (by omega) (by omega) (by simp) List.Pairwise.nil
      rw [g1, Option.bind_some]
      simp only [Ex.go]
      have hj := join_from (l[k].after.filter fun y => !seq y u) [] List.Pairwise.nil
      have hf : (l[k].after.filter fun y => !seq y u).length ≤ l[k].after.length := List.length_filter_le _ _
      have h9 : ((l[k].after.filter fun y => !seq y u).foldl (fun a y => putK id a y) []).length ≤ 8 := by
        refine Nat.le_trans hj.2.2 ?_
        rw [List.length_nil, Nat.zero_add]
        exact Nat.le_trans hf hk4
      rw [List.drop_zero]
      obtain ⟨k2, g4⟩ := x_23 (N := N) hy hN y.after.length N 0 ((l[k].after.filter fun y => !seq y u).foldl (fun a y => putK id a y) []) (by omega) (by omega) (by have := hy.2.1; omega) (Nat.le_trans h9 (by omega)) hj.1
      rw [g4, Option.bind_some]
      simp only [Ex.go]
      cases seq l[k].name u with
      | true => simp only [Bool.not_true, cond_false]; exact x_Without hl hs hy hN m n (k + 1) a (by omega) (by omega) (by omega) (by omega)
      | false =>
        simp only [Bool.not_false, cond_true]
        rw [appd_ok (by simp; omega), Option.bind_some]
        obtain ⟨k', g⟩ := x_Without hl hs hy hN m n (k + 1) (a ++ [dropA u y.after l[k]]) (by omega) (by omega) (by omega) (by simp; omega)
        refine ⟨k', ?_⟩
        have e : dropA u y.after l[k] = ⟨l[k].name, (y.after.drop 0).foldl (fun a y => putK id a y) ((l[k].after.filter fun y => !seq y u).foldl (fun a y => putK id a y) []), l[k].undo⟩ := by
          unfold dropA joinL
          rw [hh, cond_true, List.foldl_append, List.drop_zero]
        rw [e] at g
        rw [e]
        simpa using g
    | false =>
      simp only [cond_false]
      have e : dropA u y.after l[k] = l[k] := by unfold dropA; rw [hh]; rfl
      rw [e]
      cases seq l[k].name u with
      | true => simp only [Bool.not_true, cond_false]; exact x_Without hl hs hy hN m n (k + 1) a (by omega) (by omega) (by omega) (by omega)
      | false =>
        simp only [Bool.not_false, cond_true]
        rw [appd_ok (by simp; omega), Option.bind_some]
        obtain ⟨k', g⟩ := x_Without hl hs hy hN m n (k + 1) (a ++ [l[k]]) (by omega) (by omega) (by omega) (by simp; omega)
        exact ⟨k', by simpa using g⟩

theorem get_in {l : List Step} {u : Str} (h : hasS l u = true) : ∃ i, ∃ hi : i < l.length, posOf (·.name) l u = (i : Int) ∧ geti l (posOf (·.name) l u) = some (stepOf l u) ∧ stepOf l u = l[i] ∧ l[i].name = u := by
  obtain ⟨i, hi, e⟩ := at_get h
  have h2 := stepOf_in h
  refine ⟨i, hi, e, ?_, ?_, ?_⟩
  · unfold stepOf
    rw [e, geti_nat, Int.toNat_natCast, List.getElem?_eq_getElem hi]
  · unfold stepOf
    rw [e, Int.toNat_natCast, List.getElem?_eq_getElem hi]
  · have : stepOf l u = l[i] := by
      unfold stepOf
      rw [e, Int.toNat_natCast, List.getElem?_eq_getElem hi]
    rw [← this]; exact h2.2
theorem has_leb2 {l : List Step} {n : Str} : leb 0 (posOf (·.name) l n) = hasS l n := by
  rw [leb_not, hasB_map, Bool.not_not]; rfl

theorem x_l12Without {N : Nat} {l : List Step} {u : Str} (hl : l.length ≤ 8) (hs : ∀ s ∈ l, smallS s 8) (hN : 100 < N) (h : hasS l u = true) : m_spec_l12Without N l u = some (withoutS l u) := by
  unfold m_spec_l12Without
  obtain ⟨i, hi, e1, e2, e3, e4⟩ := get_in h
  rw [e_l2At (by omega), Option.bind_some, e2, Option.bind_some]
  obtain ⟨k, g1⟩ := x_Without (N := N) (u := u) hl hs (hs _ (stepOf_in h).1) hN l.length N 0 [] (by omega) (by omega) (by omega) (by simp)
  rw [g1]
  simp [withoutS, Ex.go]

theorem x_l12Steps {N : Nat} {l : List Step} {c : Change} (hl : l.length ≤ 8) (hs : ∀ s ∈ l, smallS s 8) (hc : smallS c.step 8) (ha : ascK nameK l) (hN : 100 < N) : m_spec_l12Steps N l c = some (match chSteps l c with | some st => (st, true) | none => ([], false)) := by
  unfold m_spec_l12Steps
  rw [e_l2At (by omega), Option.bind_some]
  have mk : ∀ x : Step, smallS x 8 → m_spec_l12With N l x = some (withS l x) := fun x hx => x_l12With (B := 8) (by omega) hx hs ha (by omega) (by omega)
  have part : ∀ (k : Int) (q : Bool), ((bif eqb c.kind k then some q else some false) : Option Bool) = some (eqb c.kind k && q) := fun k q => by cases eqb c.kind k <;> rfl
  rw [part, Option.bind_some, hasB_map, has_leb2]
  show _ = some (match chSteps l c with | some st => (st, true) | none => ([], false))
  unfold chSteps
  have hb : hasB (l.map fun s : Step => s.name) c.step.name = hasS l c.step.name := rfl
  rw [hb]
  cases hh : hasS l c.step.name with
  | false =>
    simp only [Bool.not_false, Bool.and_true, Bool.and_false, cond_false, part, Option.bind_some]
    cases eqb c.kind 1 with
    | true => simp only [cond_true]; rw [mk c.step hc]; rfl
    | false => rfl
  | true =>
    obtain ⟨i, hi, e1, e2, e3, e4⟩ := get_in hh
    have hst := hs _ (stepOf_in hh).1
    simp only [Bool.not_true, Bool.and_true, Bool.and_false, cond_false, part, Option.bind_some]
    cases eqb c.kind 2 with
    | true => simp only [cond_true]; rw [x_l12Without hl hs hN hh]; rfl
    | false =>
      simp only [cond_false]
      cases eqb c.kind 3 with
      | true => simp only [cond_true]; rw [e2, Option.bind_some, mk ⟨c.step.name, c.step.after, (stepOf l c.step.name).undo⟩ hc]; rfl
      | false =>
        simp only [cond_false]
        cases eqb c.kind 4 with
        | true => simp only [cond_true]; rw [e2, Option.bind_some, mk ⟨c.step.name, (stepOf l c.step.name).after, c.step.undo⟩ ⟨hc.1, hst.2⟩]; rfl
        | false => rfl

theorem flow_verB {f : Flow} (h : flowOk f = true) : 1 ≤ f.ver ∧ f.ver ≤ 99 := by
  unfold flowOk at h
  simp only [Bool.and_eq_true] at h
  exact ⟨leb_true.1 h.2.1.1, leb_true.1 h.2.1.2⟩
/-- What a change leads to is small. -/
theorem chSteps_small {f : Flow} {c : Change} (hf : flowOk f = true) (hc : stepOk c.step = true) {st : List Step} (h : chSteps f.steps c = some st) : st.length ≤ 20 ∧ ∀ s ∈ st, smallS s 20 := by
  have sf := flow_small hf
  have sc := step_small hc
  obtain ⟨a, h1, h2, h3⟩ := e_l12Steps (N := 101) (c := c) sf.1 sf.2 sc (by omega)
  rw [x_l12Steps sf.1 sf.2 sc (flow_ascK hf) (by omega), h] at h1
  injection h1 with h1
  subst h1
  exact ⟨h2, h3⟩

theorem e_spec_FlowChange {N B : Nat} {f : Flow} {c : Change} (hf : smallF f B) (hc : smallS c.step B) (hB : B ≤ 1999999999) (hN : B < N) (h100 : 100 < N) : m_spec_FlowChange N f c = some (chF f c) := by
  unfold m_spec_FlowChange chF
  rw [e_spec_FlowValid hf (by omega) (by omega), Option.bind_some]
  cases h1 : flowOk f with
  | false => rfl
  | true =>
    simp only [Bool.not_true, cond_false]
    rw [e_spec_StepValid hc (by omega) (by omega), Option.bind_some]
    cases h2 : stepOk c.step with
    | false => rfl
    | true =>
      have sf := flow_small h1
      simp only [Bool.not_true, cond_false, Bool.and_self, cond_true]
      rw [x_l12Steps sf.1 sf.2 (step_small h2) (flow_ascK h1) h100, Option.bind_some]
      cases h3 : chSteps f.steps c with
      | none => rfl
      | some st =>
        have h4 := chSteps_small h1 h2 h3
        have h5 := flow_verB h1
        have hg : smallF ⟨w64 (f.ver + 1), st⟩ 20 := ⟨h4.1, h4.2⟩
        simp only [Bool.not_true, cond_false]
        rw [e_spec_FlowValid hg (by omega) (by omega), Option.bind_some, w64_id (by omega)]
        cases flowOk ⟨f.ver + 1, st⟩ <;> rfl
end Go.Proofs.YtmnhnldnnniglaaGreat
