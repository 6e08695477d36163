/- What comes behind a step: a drop does not change it. -/
import Derived.Test.YtmnhnldnnniglaaP51
import Derived.Test.YtmnhnldnnniglaaM
set_option linter.all false
namespace Go.Proofs.Ytmnhnldnnniglaa

theorem addS_mem {ks : List Str} {s x : Str} : x ∈ addS ks s ↔ x ∈ ks ∨ x = s := by
  unfold addS
  cases h : ks.any fun u => seq u s with
  | true =>
    rw [cond_true]
    obtain ⟨u, hu, e⟩ := List.any_eq_true.1 h
    rw [seq_dec, decide_eq_true_eq] at e
    subst e
    exact ⟨.inl, fun h => h.elim id (fun e => e ▸ hu)⟩
  | false => rw [cond_false, List.mem_append, List.mem_singleton]
theorem any_mem {ks : List Str} {s : Str} : (ks.any fun u => seq u s) = true ↔ s ∈ ks := by
  rw [List.any_eq_true]
  constructor
  · rintro ⟨u, hu, e⟩
    rw [seq_dec, decide_eq_true_eq] at e
    exact e ▸ hu
  · exact fun h => ⟨s, h, seq_self s⟩
def behIn (n : Str) (ks : List Str) (a : Str) : List Str := bif ks.any (fun u => seq u a) then addS ks n else ks
def behStep (steps : List Step) (ks : List Str) (n : Str) : List Str := (stepOf steps n).after.foldl (behIn n) ks
def behB (f : Flow) (x0 : Str) : List Str := (ordN f.steps f.steps.length []).foldl (behStep f.steps) [x0]

theorem behIn_mem {n : Str} : ∀ (l ks : List Str) (x : Str), x ∈ l.foldl (behIn n) ks ↔ x ∈ ks ∨ (x = n ∧ ∃ a ∈ l, a ∈ ks)
  | [], ks, x => by simp
  | a :: l, ks, x => by
    rw [List.foldl_cons, behIn_mem l]
    unfold behIn
    cases h : ks.any fun u => seq u a with
    | true =>
      have ha := any_mem.1 h
      rw [cond_true]
      constructor
      · rintro (h1 | ⟨rfl, _⟩)
        · rcases addS_mem.1 h1 with h2 | h2
          · exact .inl h2
          · exact .inr ⟨h2, a, by simp, ha⟩
        · exact .inr ⟨rfl, a, by simp, ha⟩
      · rintro (h1 | ⟨rfl, _⟩)
        · exact .inl (addS_mem.2 (.inl h1))
        · exact .inl (addS_mem.2 (.inr rfl))
    | false =>
      have ha : a ∉ ks := fun hm => by rw [any_mem.2 hm] at h; cases h
      rw [cond_false]
      refine or_congr_right (and_congr_right fun _ => ?_)
      constructor
      · rintro ⟨b, hb, hk⟩; exact ⟨b, by simp [hb], hk⟩
      · rintro ⟨b, hb, hk⟩
        rcases List.mem_cons.1 hb with rfl | hb
        · exact absurd hk ha
        · exact ⟨b, hb, hk⟩
theorem behStep_mem {steps : List Step} {ks : List Str} {n x : Str} : x ∈ behStep steps ks n ↔ x ∈ ks ∨ (x = n ∧ ∃ a ∈ (stepOf steps n).after, a ∈ ks) := behIn_mem _ _ _

/-- What is behind a step: itself, and what comes after something behind it. -/
theorem beh_inv {l : List Step} {d : List Str} (hd : d.Nodup) (hsp : ∀ p y q, d = p ++ y :: q → hasS l y = true ∧ ∀ a ∈ (stepOf l y).after, a ∈ p) (x0 : Str) : ∀ (q p : List Str) (B : List Str), d = p ++ q →
    x0 ∈ B → (∀ x ∈ B, x = x0 ∨ x ∈ p) → (∀ n ∈ p, n ∈ B ↔ n = x0 ∨ ∃ a ∈ (stepOf l n).after, a ∈ B) →
    x0 ∈ q.foldl (behStep l) B ∧ ∀ n ∈ d, n ∈ q.foldl (behStep l) B ↔ n = x0 ∨ ∃ a ∈ (stepOf l n).after, a ∈ q.foldl (behStep l) B
  | [], p, B, e, h0, h1, h2 => by
    rw [List.append_nil] at e
    subst e
    exact ⟨h0, h2⟩
  | y :: q, p, B, e, h0, h1, h2 => by
    obtain ⟨_, hb⟩ := hsp p y q e
    have hnd := hd
    rw [e] at hnd
    have hyp : y ∉ p := fun h => (List.nodup_append.1 hnd).2.2 y h y (by simp) rfl
    have hne : ∀ a ∈ p, a ≠ y := fun a ha e2 => hyp (e2 ▸ ha)
    have same : ∀ a ∈ p, a ∈ behStep l B y ↔ a ∈ B := fun a ha => by
      rw [behStep_mem]
      exact ⟨fun h => h.elim id (fun h => absurd h.1 (hne a ha)), .inl⟩
    rw [List.foldl_cons]
    refine beh_inv hd hsp x0 q (p ++ [y]) _ (by rw [e]; simp) (behStep_mem.2 (.inl h0)) (fun x hx => ?_) (fun n hn => ?_)
    · rcases behStep_mem.1 hx with h | ⟨rfl, _⟩
      · exact (h1 x h).elim .inl (fun h => .inr (by simp [h]))
      · exact .inr (by simp)
    · rcases List.mem_append.1 hn with hp | hp
      · have haft : ∀ a ∈ (stepOf l n).after, a ∈ p := fun a ha => by
          obtain ⟨p1, p2, e1⟩ := List.append_of_mem hp
          have := (hsp p1 n (p2 ++ y :: q) (by rw [e, e1]; simp)).2 a ha
          rw [e1]; simp [this]
        rw [same n hp, h2 n hp]
        refine or_congr_right ⟨fun ⟨a, ha, hk⟩ => ⟨a, ha, (same a (haft a ha)).2 hk⟩, fun ⟨a, ha, hk⟩ => ⟨a, ha, (same a (haft a ha)).1 hk⟩⟩
      · rw [List.mem_singleton.1 hp, behStep_mem]
        constructor
        · rintro (h | ⟨_, a, ha, hk⟩)
          · rcases h1 y h with h | h
            · exact .inl h
            · exact absurd h hyp
          · exact .inr ⟨a, ha, (same a (hb a ha)).2 hk⟩
        · rintro (rfl | ⟨a, ha, hk⟩)
          · exact .inl h0
          · exact .inr ⟨rfl, a, ha, (same a (hb a ha)).1 hk⟩

theorem beh_iff {f : Flow} (hf : flowOk f = true) (x0 : Str) {n : Str} (hn : hasS f.steps n = true) : n ∈ behB f x0 ↔ n = x0 ∨ ∃ a ∈ (stepOf f.steps n).after, a ∈ behB f x0 := by
  obtain ⟨hnd, hsp⟩ := ord_split.1 (ord_full hf)
  refine (beh_inv hnd hsp x0 _ [] [x0] (by simp) (by simp) (by simp) (by simp)).2 n ?_
  have := ord_all hf _ (stepOf_in hn).1
  rwa [(stepOf_in hn).2] at this

theorem beh_unique {f : Flow} (hf : flowOk f = true) {P Q : Str → Prop} {x0 : Str} (hP : ∀ n, hasS f.steps n = true → (P n ↔ n = x0 ∨ ∃ a ∈ (stepOf f.steps n).after, P a)) (hQ : ∀ n, hasS f.steps n = true → (Q n ↔ n = x0 ∨ ∃ a ∈ (stepOf f.steps n).after, Q a)) : ∀ n, hasS f.steps n = true → (P n ↔ Q n) := by
  obtain ⟨hnd, hsp⟩ := ord_split.1 (ord_full hf)
  have key : ∀ (q p : List Str), ordN f.steps f.steps.length [] = p ++ q → (∀ n ∈ p, P n ↔ Q n) → ∀ n ∈ ordN f.steps f.steps.length [], P n ↔ Q n := by
    intro q
    induction q with
    | nil => intro p e h n hn; rw [e, List.append_nil] at hn; exact h n hn
    | cons y q ih =>
      intro p e h
      refine ih (p ++ [y]) (by rw [e]; simp) fun n hn => ?_
      rcases List.mem_append.1 hn with h1 | h1
      · exact h n h1
      · rw [List.mem_singleton.1 h1]
        obtain ⟨g1, g2⟩ := hsp p y q e
        rw [hP y g1, hQ y g1]
        refine or_congr_right ⟨fun ⟨a, ha, hk⟩ => ⟨a, ha, (h a (g2 a ha)).1 hk⟩, fun ⟨a, ha, hk⟩ => ⟨a, ha, (h a (g2 a ha)).2 hk⟩⟩
  intro n hn
  refine key (ordN f.steps f.steps.length []) [] rfl (by simp) n ?_
  have := ord_all hf _ (stepOf_in hn).1
  rwa [(stepOf_in hn).2] at this

/-- A drop does not change what is behind what. -/
theorem beh_drop {f : Flow} {v : Int} {m x0 : Str} (hf : flowOk f = true) (hm : hasS f.steps m = true) (hg : flowOk ⟨v, withoutS f.steps m⟩ = true) (hx : x0 ≠ m) {n : Str} (hn : hasS (withoutS f.steps m) n = true) : n ∈ behB ⟨v, withoutS f.steps m⟩ x0 ↔ n ∈ behB f x0 := by
  have ha := flow_ascK hf
  refine beh_unique (f := ⟨v, withoutS f.steps m⟩) hg (x0 := x0) (fun n hn => beh_iff hg x0 hn) (fun n hn => ?_) n hn
  have hne : n ≠ m := fun e => by rw [e] at hn; simp only [without_has] at hn; cases hn
  have hfn : hasS f.steps n = true := by simp only at hn; rwa [without_hasO hne] at hn
  simp only
  rw [beh_iff hf x0 hfn, without_stepO ha hne hfn]
  refine or_congr_right ?_
  have hself : m ∉ (stepOf f.steps m).after := by
    have := (flow_have hf (stepOf_in hm).1).1
    unfold stepOk at this
    simp only [Bool.and_eq_true, Bool.not_eq_true'] at this
    intro h
    rw [(stepOf_in hm).2, hasB_true.2 h] at this
    cases this.1.2
  unfold dropA
  cases hh : hasB (stepOf f.steps n).after m with
  | false => rfl
  | true =>
    simp only [cond_true]
    constructor
    · rintro ⟨a, h1, h2⟩
      by_cases e : a = m
      · rw [e, beh_iff hf x0 hm] at h2
        rcases h2 with h2 | ⟨b, h3, h4⟩
        · exact absurd h2.symm hx
        · exact ⟨b, join_mem.2 (List.mem_append.2 (.inr h3)), h4⟩
      · exact ⟨a, join_mem.2 (List.mem_append.2 (.inl (List.mem_filter.2 ⟨h1, by rw [seq_false.2 e]; rfl⟩))), h2⟩
    · rintro ⟨a, h1, h2⟩
      rcases List.mem_append.1 (join_mem.1 h1) with h3 | h3
      · exact ⟨a, (List.mem_filter.1 h3).1, h2⟩
      · exact ⟨m, hasB_true.1 hh, (beh_iff hf x0 hm).2 (.inr ⟨a, h3, h2⟩)⟩
end Go.Proofs.Ytmnhnldnnniglaa
