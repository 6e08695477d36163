/- Changes of flows: the program's own functions reckon them so. -/
import Derived.Test.YtmnhnldnnniglaaP41
import Derived.Test.YtmnhnldnnniglaaP43
import Derived.Test.YtmnhnldnnniglaaP9
set_option linter.all false
namespace Go.Proofs.Ytmnhnldnnniglaa

/-! ## Sorted and each once -/

theorem slt_lt {a b : Str} : slt a b = true ↔ sbs a < sbs b := by
  unfold slt sbs
  rw [ByteArray.toList_eq, ByteArray.toList_eq, bytesLess_eq, decide_eq_true_iff]
theorem ascS_iff {l : List Step} : ascS l ↔ ascK nameK l := by
  unfold ascS ascK
  constructor
  · exact fun h => h.imp fun h => slt_lt.2 h
  · exact fun h => h.imp fun h => slt_lt.1 h

theorem compact_mem {zs : List (List UInt8)} {x : List UInt8} : x ∈ Lib.compact zs ↔ x ∈ zs := by
  unfold Lib.compact Lib.compactUpTo
  constructor
  · intro h
    obtain ⟨i, hi, rfl⟩ := List.mem_map.1 h
    have hi' : i < zs.length := List.mem_range.1 (List.mem_filter.1 hi).1
    simp [getElem!_pos, hi']
  · intro h
    obtain ⟨j, hj, rfl⟩ := List.getElem_of_mem h
    have key : ∀ j (hj : j < zs.length), zs[j] ∈ List.map (fun x => zs.toArray[x]!) (List.filter (Lib.keeps zs.toArray) (List.range zs.length)) := by
      intro j
      induction j with
      | zero =>
        intro hj
        exact List.mem_map.2 ⟨0, List.mem_filter.2 ⟨List.mem_range.2 hj, by simp [Lib.keeps]⟩, by simp [getElem!_pos, hj]⟩
      | succ j ih =>
        intro hj
        by_cases e : zs[j + 1] = zs[j]
        · rw [e]; exact ih (by omega)
        · refine List.mem_map.2 ⟨j + 1, List.mem_filter.2 ⟨List.mem_range.2 hj, ?_⟩, by simp [getElem!_pos, hj]⟩
          have h1 : zs.toArray[j + 1]! = zs[j + 1] := by simp [getElem!_pos, hj]
          have h2 : zs.toArray[j]! = zs[j]'(by omega) := by simp [getElem!_pos, show j < zs.length by omega]
          simp only [Lib.keeps, Nat.add_sub_cancel, h1, h2, decide_eq_true_eq]
          exact .inr e
    exact key j hj
theorem compact_asc {zs : List (List UInt8)} (h : zs.Pairwise fun a b => ¬ b < a) : (Lib.compact zs).Pairwise fun a b => a < b := by
  unfold Lib.compact Lib.compactUpTo
  rw [List.pairwise_map]
  refine List.Pairwise.imp_of_mem ?_ (List.pairwise_lt_range.filter _)
  intro i j hi hj hij
  have hj2 := List.mem_filter.1 hj
  have hjl : j < zs.length := List.mem_range.1 hj2.1
  have hk := hj2.2
  have g1 : zs.toArray[i]! = zs[i]'(by omega) := by simp [getElem!_pos, show i < zs.length by omega]
  have g2 : zs.toArray[j]! = zs[j] := by simp [getElem!_pos, hjl]
  have g3 : zs.toArray[j - 1]! = zs[j - 1]'(by omega) := by simp [getElem!_pos, show j - 1 < zs.length by omega]
  simp only [Lib.keeps, decide_eq_true_eq, g2, g3] at hk
  rw [g1, g2]
  have hp := List.pairwise_iff_getElem.1 h
  have a1 : zs[j - 1]'(by omega) < zs[j] := by
    rcases List.le_iff_lt_or_eq.1 (List.not_lt.1 (hp (j - 1) j (by omega) hjl (by omega))) with h5 | h5
    · exact h5
    · rcases hk with h6 | h6
      · omega
      · exact absurd h5.symm h6
  rcases Nat.lt_or_ge i (j - 1) with h2 | h2
  · rcases List.le_iff_lt_or_eq.1 (List.not_lt.1 (hp i (j - 1) (by omega) (by omega) h2)) with h5 | h5
    · exact List.lt_trans h5 a1
    · rw [h5]; exact a1
  · obtain rfl : i = j - 1 := by omega
    exact a1
theorem sortComp (l : List Str) : compStrs (sortStrs l) = joinL l := by
  have e1 : (sortStrs l).map sbs = (l.map sbs).mergeSort fun x y => decide (x ≤ y) := by
    unfold sortStrs
    rw [List.map_map]
    have : (sbs ∘ sob) = id := by funext x; exact sbs_sob x
    rw [this, List.map_id]
  unfold compStrs
  rw [e1]
  have hs : ((l.map sbs).mergeSort fun x y => decide (x ≤ y)).Pairwise fun a b => ¬ b < a := by
    have := List.pairwise_mergeSort (le := fun x y : List UInt8 => decide (x ≤ y)) (fun a b c h4 h5 => by
      simp only [decide_eq_true_eq] at h4 h5 ⊢
      exact List.le_trans h4 h5) (fun a b => by
      simp only [Bool.or_eq_true, decide_eq_true_eq]
      exact List.le_total _ _) (l.map sbs)
    exact this.imp fun {a b} hab => by
      simp only [decide_eq_true_eq] at hab
      exact List.not_lt.2 hab
  refine ascK_unique (key := id) ?_ (join_asc l) fun x => ?_
  · unfold ascK
    rw [List.pairwise_map]
    exact (compact_asc hs).imp fun {a b} hab => by
      simp only [id]
      rw [slt_lt, sbs_sob, sbs_sob]; exact hab
  · rw [join_mem, List.mem_map]
    constructor
    · rintro ⟨z, hz, rfl⟩
      rw [compact_mem, List.mem_mergeSort, List.mem_map] at hz
      obtain ⟨y, hy, rfl⟩ := hz
      rw [sob_sbs]; exact hy
    · intro hx
      exact ⟨sbs x, compact_mem.2 (List.mem_mergeSort.2 (List.mem_map_of_mem hx)), sob_sbs x⟩

/-! ## A step is dropped -/

theorem filter_at {l : List Step} {i : Nat} {u : Str} (ha : ascK nameK l) (hi : i < l.length) (e : l[i].name = u) : l.filter (fun s => !seq s.name u) = l.take i ++ l.drop (i + 1) := by
  rw [← List.eraseIdx_eq_take_drop_succ]
  refine ascK_unique (ha.filter _) (List.Pairwise.sublist (List.eraseIdx_sublist l i) ha) fun x => ?_
  rw [List.mem_filter, List.mem_eraseIdx_iff_getElem]
  constructor
  · rintro ⟨h1, h2⟩
    obtain ⟨j, hj, rfl⟩ := List.getElem_of_mem h1
    refine ⟨j, hj, fun e2 => ?_, rfl⟩
    subst e2
    rw [e, seq_self] at h2; cases h2
  · rintro ⟨j, hj, hne, rfl⟩
    refine ⟨List.getElem_mem hj, ?_⟩
    rw [seq_false.2 (fun e2 => ?_)]; rfl
    have hp := List.pairwise_iff_getElem.1 ha
    rcases Nat.lt_or_gt_of_ne hne with h1 | h1
    · have := slt_ne (hp j i hj hi h1)
      exact this (e2.trans e.symm)
    · have := slt_ne (hp i j hi hj h1)
      exact this (e.trans e2.symm)

/-! ## A change is made -/

theorem e_cloneN {N : Nat} {l : List Str} (h : l.length ≤ 4000000000) : m_impl_cloneNames N l = some l := by unfold m_impl_cloneNames; rw [appd_ok (by simp; omega)]; rfl
theorem e_cloneS {N : Nat} {s : Step} (h : s.after.length ≤ 4000000000) : m_impl_Step_clone N s = some s := by unfold m_impl_Step_clone; rw [e_cloneN h]; rfl

end Go.Proofs.Ytmnhnldnnniglaa
