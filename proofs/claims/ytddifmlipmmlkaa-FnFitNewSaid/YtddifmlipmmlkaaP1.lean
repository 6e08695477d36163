/- What the mirrors of the timers' functions compute. -/
import Derived.Test.YtddifmlipmmlkaaP0
import Derived.Test.YtddifmlipmmlkaaWA0
set_option linter.all false
namespace Go.Proofs.Ytddifmlipmmlkaa

theorem e_impl_NameValid {N : Nat} {s : Str} (hs : s.size ≤ 4611686018427387904) (hN : s.size < N) : m_impl_NameValid N s = some (nameOk s) := by
  unfold m_impl_NameValid
  rw [ssz_ok hs, Option.bind_some]
  by_cases h1 : s.size < 1
  · rw [ltb_true.2 (by omega), cond_true, nameOk_false (by omega)]
  by_cases h2 : 5 < s.size
  · rw [ltb_false.2 (by omega), cond_false, ltb_true.2 (by omega), cond_true, nameOk_false (by omega)]
  rw [ltb_false.2 (by omega), cond_false, ltb_false.2 (by omega), cond_false]
  rw [loop0 (fun n (_ : Unit) k => m_impl_NameValid_L8 N s n k) s.data.toList (fun k x _ => bif lower x then .inr () else .inl false) (fun k _ => k) N (by rw [size_toList]; exact hN) ?_ ?_ ()]
  · rw [goL_all (fun _ x => lower x)]
    split
    · rename_i h
      refine congrArg some ((nameOk_iff s).2 ⟨by omega, by omega, fun k hk => ?_⟩).symm
      have := h k (by rw [size_toList]; exact hk)
      rw [getElem_toList s k hk] at this
      simpa [lower] using this
    · rename_i h
      refine congrArg some (nameOk_false (fun hc => h fun i hi => ?_)).symm
      have hi' : i < s.size := by rw [← size_toList]; exact hi
      have := hc.2.2 i hi'
      rw [getElem_toList s i hi']
      simpa [lower] using this
  · rintro n _ k rfl
    simp only [m_impl_NameValid_L8]
    rw [ltb_false.2 (by rw [size_toList]; omega)]; rfl
  · intro n _ k hk
    have hk' : k < s.size := by rw [← size_toList]; exact hk
    simp only [m_impl_NameValid_L8]
    rw [ltb_true.2 (by omega), cond_true, bget_ok hk', Option.bind_some, Option.bind_some, getElem_toList s k hk']
    have hb : (s[k]'hk').toNat < 256 := UInt8.toNat_lt _
    unfold lower
    by_cases a1 : (s[k]'hk').toNat < 97
    · rw [ltb_true.2 (by omega)]; simp [show ¬ 97 ≤ (s[k]'hk').toNat by omega]
    · by_cases a2 : 122 < (s[k]'hk').toNat
      · rw [ltb_false.2 (by omega), ltb_true.2 (by omega)]; simp [show ¬ (s[k]'hk').toNat ≤ 122 by omega]
      · rw [ltb_false.2 (by omega), ltb_false.2 (by omega)]; simp [show 97 ≤ (s[k]'hk').toNat by omega, show (s[k]'hk').toNat ≤ 122 by omega]

theorem e_spec_l6In {N : Nat} {n a b : Int} : m_spec_l6In N n a b = some (leb a n && leb n b) := by
  unfold m_spec_l6In
  cases leb a n <;> rfl

theorem e_spec_NameValid {N : Nat} {s : Str} (hs : s.size ≤ 4611686018427387904) (hN : s.size < N) : m_spec_NameValid N s = some (nameOk s) := by
  unfold m_spec_NameValid
  rw [loop0 (fun n (_ : Unit) k => m_spec_NameValid_L4 N s n k) s.data.toList (fun k x _ => bif lower x then .inr () else .inl false) (fun k _ => k) N (by rw [size_toList]; exact hN) ?_ ?_ ()]
  · rw [goL_all (fun _ x => lower x)]
    split
    · rename_i h
      rw [Option.bind_some]
      simp only [Ex.go, e_spec_l6In, Option.bind_some]
      refine congrArg some ?_
      rw [Bool.eq_iff_iff, nameOk_iff, Bool.and_eq_true, leb_true, leb_true]
      constructor
      · rintro ⟨h1, h2⟩
        refine ⟨by omega, by omega, fun k hk => ?_⟩
        have := h k (by rw [size_toList]; exact hk)
        rw [getElem_toList s k hk] at this
        simpa [lower] using this
      · rintro ⟨h1, h2, _⟩
        omega
    · rename_i h
      refine congrArg some (nameOk_false (fun hc => h fun i hi => ?_)).symm
      have hi' : i < s.size := by rw [← size_toList]; exact hi
      have := hc.2.2 i hi'
      rw [getElem_toList s i hi']
      simpa [lower] using this
  · rintro n _ k rfl
    simp only [m_spec_NameValid_L4, ssz_ok hs, Option.bind_some]
    rw [ltb_false.2 (by rw [size_toList]; omega)]; rfl
  · intro n _ k hk
    have hk' : k < s.size := by rw [← size_toList]; exact hk
    simp only [m_spec_NameValid_L4, ssz_ok hs, Option.bind_some]
    rw [ltb_true.2 (by omega), cond_true, bget_ok hk', Option.bind_some, Option.bind_some, getElem_toList s k hk']
    have hb : (s[k]'hk').toNat < 256 := UInt8.toNat_lt _
    unfold lower
    by_cases a1 : (s[k]'hk').toNat < 97
    · rw [ltb_true.2 (by omega)]; simp [show ¬ 97 ≤ (s[k]'hk').toNat by omega]
    · by_cases a2 : 122 < (s[k]'hk').toNat
      · rw [ltb_false.2 (by omega), ltb_true.2 (by omega)]; simp [show ¬ (s[k]'hk').toNat ≤ 122 by omega]
      · rw [ltb_false.2 (by omega), ltb_false.2 (by omega)]; simp [show 97 ≤ (s[k]'hk').toNat by omega, show (s[k]'hk').toNat ≤ 122 by omega]

theorem e_impl_timerValid {N : Nat} {t : Timer} (hs : t.name.size ≤ 4611686018427387904) (hN : t.name.size < N) : m_impl_timerValid N t = some (timerOk t) := by
  unfold m_impl_timerValid m_impl_isTime timerOk
  rw [e_impl_NameValid hs hN]
  cases leb 0 t.at_ <;> cases leb t.at_ 9999 <;> rfl

theorem e_Compare_int {N : Nat} {a b : Int} : m_cmp_Compare_int N a b = some (cmpInt a b) := by
  unfold m_cmp_Compare_int m_cmp_isNaN_int cmpInt
  rw [eqb_true.2 rfl, eqb_true.2 rfl]
  simp only [Bool.not_true, Option.bind_some, cond_false, ltb_dec]
  by_cases h1 : a < b
  · simp [h1]
  · by_cases h2 : b < a <;> simp [h1, h2]
theorem e_Compare_string {N : Nat} {a b : Str} : m_cmp_Compare_string N a b = some (cmpStr a b) := by
  unfold m_cmp_Compare_string m_cmp_isNaN_string cmpStr
  rw [seq_self, seq_self]
  simp only [Bool.not_true, Option.bind_some, cond_false]
  cases h : slt a b with
  | true => simp
  | false =>
    by_cases e : a = b
    · subst e; simp [h, seq_self]
    · simp [h, seq_false.2 e, e]
theorem e_compareTimers {N : Nat} {a b : Timer} (hN : 2 < N) : m_impl_compareTimers N a b = some (cmpTimer a b) := by
  obtain ⟨n, rfl⟩ : ∃ n, N = n + 3 := ⟨N - 3, by omega⟩
  unfold m_impl_compareTimers m_cmp_Or_int cmpTimer
  rw [e_Compare_int, e_Compare_string]
  simp only [Option.bind_some, m_cmp_Or_int_L5]
  by_cases h : cmpInt a.at_ b.at_ = 0
  · by_cases h2 : cmpStr a.name b.name = 0
    · simp [h, h2, ltb_dec, eqb_dec, Ex.go]
    · simp [h, h2, ltb_dec, eqb_dec, Ex.go]
  · simp [h, ltb_dec, eqb_dec, Ex.go]

/-- The timers' names are short. -/
def ShortT (l : List Timer) (B : Nat) : Prop := ∀ t ∈ l, t.name.size ≤ B

theorem e_impl_TimersValid {N B : Nat} {l : List Timer} (hs : ShortT l B) (hB : B ≤ 4611686018427387904) (hN : l.length < N) (hBN : B < N) (hN2 : 2 < N) : m_impl_TimersValid N l = some (timersOk l) := by
  unfold m_impl_TimersValid
  rw [loop0 (fun n (s : List Str) k => m_impl_TimersValid_L6 N l n s k) l (fun k x s => bif timerOk x && (!(s.any fun u => seq u x.name) && (decide (k = 0) || match l[k-1]? with | some y => decide (cmpTimer y x < 0) | none => false)) then .inr (s ++ [x.name]) else .inl false) (fun k s => (s, k)) N hN ?_ ?_ []]
  · have key : ∀ (t : List Timer) (k : Nat) (s : List Str), l.drop k = t → k ≤ l.length → s = (l.take k).map (·.name) → (∀ i (h : i < l.length), i < k → timerOk l[i] = true) → (∀ i j (hi : i < l.length) (hj : j < i), i < k → l[j].name ≠ l[i].name) → (∀ i (h : i < l.length) (h0 : 0 < i), i < k → before l[i-1] l[i]) →
        (goL (fun k (x : Timer) (s : List Str) => bif timerOk x && (!(s.any fun u => seq u x.name) && (decide (k = 0) || match l[k-1]? with | some y => decide (cmpTimer y x < 0) | none => false)) then Sum.inr (s ++ [x.name]) else Sum.inl false) (fun k s => (s, k)) t k s).go (fun r => r) (fun b => some (leb ((l.length : Nat) : Int) 8)) = some (timersOk l) := by
      intro t
      induction t with
      | nil =>
        intro k s ht hk hsx h1 h2 h3
        have : k = l.length := by have := List.drop_eq_nil_iff.1 ht; omega
        subst this
        simp only [goL, Ex.go]
        rw [timersOk_end (fun i h hi => h1 i h hi) (fun i j hi hj hx => h2 i j hi hj hx) (fun i h h0 hx => h3 i h h0 hx)]
      | cons x t ih =>
        intro k s ht hk hsx h1 h2 h3
        have hkl : k < l.length := by
          rcases Nat.lt_or_ge k l.length with h | h
          · exact h
          · rw [List.drop_of_length_le h] at ht; cases ht
        have hd := List.drop_eq_getElem_cons hkl
        rw [ht] at hd
        injection hd with hx hd
        subst hx
        unfold goL
        cases c1 : timerOk l[k] with
        | false => simp only [Bool.false_and, cond_false, Ex.go]; rw [timersOk_false.2 (fun h => by have := h.ok k hkl; rw [c1] at this; cases this)]
        | true =>
          cases c2 : s.any fun u => seq u l[k].name with
          | true =>
            simp only [Bool.true_and, Bool.not_true, Bool.false_and, cond_false, Ex.go]
            rw [timersOk_false.2 (fun h => ?_)]
            rw [hsx] at c2
            obtain ⟨j, hj, he⟩ := (any_take l (·.name) k _ hk).1 c2
            exact h.ne k j hkl hj he
          | false =>
            have hne := (any_take_f l (·.name) k _ hk).1 (by rw [← hsx]; exact c2)
            rcases Nat.eq_zero_or_pos k with h0 | h0
            · subst h0
              simp only [Bool.true_and, Bool.not_false, decide_true, Bool.true_or, cond_true]
              exact ih 1 _ hd.symm (by omega) (by rw [hsx, map_take_succ _ _ _ hkl]) (fun i h hi => by have e0 : i = 0 := (by omega); subst e0; exact c1) (fun i j hi hj hx => by omega) (fun i h h0 hx => by omega)
            · have hk1 : l[k-1]? = some l[k-1] := List.getElem?_eq_getElem (by omega)
              simp only [Bool.true_and, Bool.not_false, show decide (k = 0) = false by simp; omega, Bool.false_or, hk1]
              by_cases c3 : cmpTimer l[k-1] l[k] < 0
              · simp only [c3, decide_true, cond_true]
                refine ih (k + 1) _ hd.symm (by omega) (by rw [hsx, map_take_succ _ _ _ hkl]) (fun i h hi => ?_) (fun i j hi hj hx => ?_) (fun i h h0' hx => ?_)
                · rcases Nat.lt_or_ge i k with h4 | h4
                  · exact h1 i h h4
                  · obtain rfl : i = k := by omega
                    exact c1
                · rcases Nat.lt_or_ge i k with h4 | h4
                  · exact h2 i j hi hj h4
                  · obtain rfl : i = k := by omega
                    exact hne j hj
                · rcases Nat.lt_or_ge i k with h4 | h4
                  · exact h3 i h h0' h4
                  · obtain rfl : i = k := by omega
                    exact (cmpTimer_neg _ _).1 c3
              · simp only [c3, decide_false, cond_false, Ex.go]
                rw [timersOk_false.2 (fun h => c3 ((cmpTimer_neg _ _).2 (h.asc k hkl h0)))]
    exact key l 0 [] rfl (Nat.zero_le _) rfl (fun i _ h => by omega) (fun i j _ _ h => by omega) (fun i _ _ h => by omega)
  · rintro n s k rfl
    simp only [m_impl_TimersValid_L6]
    rw [ltb_false.2 (by omega)]; rfl
  · intro n s k hk
    simp only [m_impl_TimersValid_L6]
    have hsz := hs l[k] (List.getElem_mem hk)
    rw [ltb_true.2 (by omega), cond_true, List.getElem?_eq_getElem hk, Option.bind_some, e_impl_timerValid (by omega) (by omega), Option.bind_some]
    cases timerOk l[k] with
    | false => rfl
    | true =>
      cases s.any fun u => seq u l[k].name with
      | true => rfl
      | false =>
        rcases Nat.eq_zero_or_pos k with h0 | h0
        · subst h0
          rw [ltb_false.2 (by omega)]
          simp
        · rw [ltb_true.2 (by omega), show ((k : Nat) : Int) - 1 = ((k - 1 : Nat) : Int) by omega, geti_nat, List.getElem?_eq_getElem (by omega), Option.bind_some, e_compareTimers hN2, Option.bind_some]
          by_cases c3 : cmpTimer l[k-1] l[k] < 0
          · rw [leb_false.2 (by omega)]; simp [c3]
          · rw [leb_true.2 (by omega)]; simp [c3, show ¬ k = 0 by omega]

theorem e_spec_l15At {N : Nat} {l : List Timer} {s : Str} (hN : l.length < N) : m_spec_l15At N l s = some (posOf (·.name) l s) := by
  unfold m_spec_l15At
  rw [loop0 (fun n (_ : Unit) k => m_spec_l15At_L4 N l s n k) l (fun k x _ => bif decide (x.name = s) then .inl (k : Int) else .inr ()) (fun k _ => k) N hN ?_ ?_ ()]
  · rw [goL_find (fun x : Timer => decide (x.name = s)) (fun k => (k : Int))]
    unfold posOf
    cases l.findIdx? (fun x => decide (x.name = s)) with
    | none => rfl
    | some i => simp [Ex.go]
  · rintro n _ k rfl
    simp only [m_spec_l15At_L4]
    rw [ltb_false.2 (by omega)]; rfl
  · intro n _ k hk
    simp only [m_spec_l15At_L4]
    rw [ltb_true.2 (by omega), cond_true, List.getElem?_eq_getElem hk, Option.bind_some, seq_dec]
    by_cases h : l[k].name = s
    · simp [h]
    · simp [h]

theorem e_spec_l15Before {N : Nat} {a b : Timer} : m_spec_l15Before N a b = some (decide (cmpTimer a b < 0)) := by
  unfold m_spec_l15Before
  have h := cmpTimer_neg a b
  unfold before at h
  by_cases h1 : a.at_ < b.at_
  · rw [ltb_true.2 h1, cond_true, decide_eq_true (h.2 (.inl h1))]
  · rw [ltb_false.2 (by omega), cond_false]
    by_cases h2 : a.at_ = b.at_
    · rw [eqb_true.2 h2, cond_true]
      refine congrArg some ?_
      rw [Bool.eq_iff_iff, decide_eq_true_eq, h]
      exact ⟨fun h3 => .inr ⟨h2, h3⟩, fun h3 => h3.elim (fun h4 => absurd h4 h1) (fun h4 => h4.2)⟩
    · rw [eqb_false.2 h2, cond_false, decide_eq_false (fun h3 => (h.1 h3).elim (fun h4 => h1 h4) (fun h4 => h2 h4.1))]

theorem e_spec_TimersValid {N B : Nat} {l : List Timer} (hs : ShortT l B) (hB : B ≤ 4611686018427387904) (hN : l.length < N) (hBN : B < N) : m_spec_TimersValid N l = some (timersOk l) := by
  unfold m_spec_TimersValid
  rw [loop0 (fun n (_ : Unit) k => m_spec_TimersValid_L5 N l n k) l (fun k x _ => bif timerOk x && (!decide (posOf (·.name) l x.name < (k : Int)) && (decide (k = 0) || match l[k-1]? with | some y => decide (cmpTimer y x < 0) | none => false)) then .inr () else .inl false) (fun k _ => k) N hN ?_ ?_ ()]
  · rw [goL_all (fun k x => timerOk x && (!decide (posOf (·.name) l x.name < (k : Int)) && (decide (k = 0) || match l[k-1]? with | some y => decide (cmpTimer y x < 0) | none => false)))]
    have pr : ∀ i (h : i < l.length), (timerOk l[i] && (!decide (posOf (·.name) l l[i].name < ((0 + i : Nat) : Int)) && (decide (0 + i = 0) || match l[0 + i-1]? with | some y => decide (cmpTimer y l[i] < 0) | none => false))) = true ↔ (timerOk l[i] = true ∧ (∀ j (hj : j < i), l[j].name ≠ l[i].name) ∧ ∀ (h0 : 0 < i), before l[i-1] l[i]) := by
      intro i hi
      simp only [Nat.zero_add, Bool.and_eq_true, Bool.not_eq_true', decide_eq_false_iff_not, Bool.or_eq_true, decide_eq_true_eq]
      rw [posOf_lt (·.name) l i hi]
      refine and_congr_right fun _ => and_congr ?_ ?_
      · exact ⟨fun h j hj he => h ⟨j, hj, he⟩, fun h ⟨j, hj, he⟩ => h j hj he⟩
      · rcases Nat.eq_zero_or_pos i with h0 | h0
        · subst h0; simp
        · rw [List.getElem?_eq_getElem (by omega)]
          simp only [decide_eq_true_eq, cmpTimer_neg]
          exact ⟨fun h _ => h.elim (fun h => by omega) id, fun h => .inr (h h0)⟩
    split
    · rename_i h
      simp only [Option.bind_some, Ex.go]
      refine congrArg some (timersOk_end (fun i h1 _ => ((pr i h1).1 (h i h1)).1) (fun i j h1 h2 _ => ((pr i h1).1 (h i h1)).2.1 j h2) (fun i h1 h2 _ => ((pr i h1).1 (h i h1)).2.2 h2)).symm
    · rename_i h
      simp only [Option.bind_some, Ex.go]
      refine congrArg some (timersOk_false.2 fun hc => h fun i hi => (pr i hi).2 ⟨hc.ok i hi, fun j hj => hc.ne i j hi hj, fun h0 => hc.asc i hi h0⟩).symm
  · rintro n _ k rfl
    simp only [m_spec_TimersValid_L5]
    rw [ltb_false.2 (by omega)]; rfl
  · intro n _ k hk
    simp only [m_spec_TimersValid_L5]
    have hsz := hs l[k] (List.getElem_mem hk)
    rw [ltb_true.2 (by omega), cond_true, List.getElem?_eq_getElem hk, Option.bind_some, e_spec_l6In, Option.bind_some]
    unfold timerOk
    cases (leb 0 l[k].at_ && leb l[k].at_ 9999) with
    | false => rfl
    | true =>
      simp only [Bool.not_true, cond_false, Bool.true_and]
      rw [e_spec_NameValid (by omega) (by omega), Option.bind_some]
      cases nameOk l[k].name with
      | false => rfl
      | true =>
        simp only [Bool.not_true, cond_false, Bool.true_and]
        rw [e_spec_l15At hN, Option.bind_some]
        by_cases c2 : posOf (·.name) l l[k].name < (k : Int)
        · rw [ltb_true.2 c2]; simp [c2]
        · rw [ltb_false.2 (by omega), cond_false]
          rcases Nat.eq_zero_or_pos k with h0 | h0
          · subst h0
            rw [ltb_false.2 (by omega)]
            have c2' : ¬ posOf (·.name) l l[0].name < 0 := by simpa using c2
            simp [c2']
          · rw [ltb_true.2 (by omega), cond_true, show ((k : Nat) : Int) - 1 = ((k - 1 : Nat) : Int) by omega, geti_nat, List.getElem?_eq_getElem (by omega), Option.bind_some, e_spec_l15Before, Option.bind_some]
            by_cases c3 : cmpTimer l[k-1] l[k] < 0
            · simp [c2, c3]
            · simp [c2, c3, show ¬ k = 0 by omega]

/-! ## Drawn timers -/

theorem e_l92Timers_loop {N : Nat} {cd : List UInt8} : ∀ (m n p k : Nat) (l : List Timer) (x : Int), 9 - k = m → k ≤ 9 → m < n → p + 3 * m ≤ 1000000000 → l.length ≤ k → ShortT l 8 → -1000000 * k ≤ x → x ≤ 1000000 * k + 20 →
    ∃ p' l' x' k', m_spec_l92Timers_L7 N cd n p l x k = some (.brk (p', l', x', k')) ∧ p' ≤ p + 3 * m ∧ l'.length ≤ 9 ∧ ShortT l' 8
  | 0, n, p, k, l, x, hm, hk, hn, hp, hl, hs, hx1, hx2 => by
    obtain ⟨n, rfl⟩ : ∃ n', n = n' + 1 := ⟨n - 1, by omega⟩
    refine ⟨p, l, x, k, ?_, by omega, by omega, hs⟩
    simp only [m_spec_l92Timers_L7]
    rw [ltb_false.2 (by omega)]; rfl
  | m + 1, n, p, k, l, x, hm, hk, hn, hp, hl, hs, hx1, hx2 => by
    obtain ⟨n, rfl⟩ : ∃ n', n = n' + 1 := ⟨n - 1, by omega⟩
    have hk9 : k < 9 := by omega
    simp only [m_spec_l92Timers_L7]
    rw [ltb_true.2 (by omega), cond_true, pick_ok (by omega)]
    obtain ⟨q, b, hqb, hq⟩ : ∃ q b, ((some (((pickv cd p 3 : Nat) : Int), p + 1)).bind fun x18 : Int × Nat => (bif eqb x18.1 0 then (bif ltb ((l.length : Nat) : Int) 8 then some (x18.2, true)
 else (m_spec_l6Rd_pick N cd x18.2 40).bind fun x27 => some (x27.2, eqb x27.1 0))
 else (m_spec_l6Rd_pick N cd x18.2 40).bind fun x27 => some (x27.2, eqb x27.1 0))) = some (q, b) ∧ q ≤ p + 2 := by
      simp only [Option.bind_some]
      rw [pick_ok (by omega)]
      simp only [Option.bind_some]
      cases eqb ((pickv cd p 3 : Nat) : Int) 0 with
      | false => exact ⟨_, _, rfl, by omega⟩
      | true =>
        cases ltb ((l.length : Nat) : Int) 8 with
        | false => exact ⟨_, _, rfl, by omega⟩
        | true => exact ⟨_, _, rfl, by omega⟩
    rw [hqb, Option.bind_some]
    cases b with
    | false =>
      simp only [cond_false]
      obtain ⟨p', l', x', k', h1, h2, h3, h4⟩ := e_l92Timers_loop (N := N) (cd := cd) m n q (k + 1) l x (by omega) (by omega) (by omega) (by omega) (by omega) hs (by omega) (by omega)
      exact ⟨p', l', x', k', h1, by omega, h3, h4⟩
    | true =>
      simp only [cond_true]
      have hy : ∃ y : Str, ([(⟨#[97]⟩ : Str), (⟨#[98]⟩ : Str), (⟨#[99]⟩ : Str), (⟨#[100]⟩ : Str), (⟨#[101]⟩ : Str), (⟨#[102]⟩ : Str), (⟨#[103]⟩ : Str), (⟨#[104]⟩ : Str), (⟨#[105]⟩ : Str)] : List Str)[k]? = some y ∧ y.size ≤ 8 := by
        rcases (by omega : k = 0 ∨ k = 1 ∨ k = 2 ∨ k = 3 ∨ k = 4 ∨ k = 5 ∨ k = 6 ∨ k = 7 ∨ k = 8) with rfl | rfl | rfl | rfl | rfl | rfl | rfl | rfl | rfl <;> exact ⟨_, rfl, by decide⟩
      obtain ⟨y, hy1, hy2⟩ := hy
      rw [hy1, Option.bind_some, appd_ok (by simp; omega), Option.bind_some, pick_ok (by omega), Option.bind_some]
      have hpv := pickv_lt (cd := cd) (p := q) (m := 30) (by omega)
      have hw : w64 (x + ((pickv cd q 30 : Nat) : Int)) = x + ((pickv cd q 30 : Nat) : Int) := w64_id (by omega)
      simp only
      rw [hw]
      obtain ⟨p', l', x', k', h1, h2, h3, h4⟩ := e_l92Timers_loop (N := N) (cd := cd) m n (q + 1) (k + 1) (l ++ [⟨x, y⟩]) (x + ((pickv cd q 30 : Nat) : Int)) (by omega) (by omega) (by omega) (by omega) (by simp; omega) (fun t ht => by
        rcases List.mem_append.1 ht with h | h
        · exact hs t h
        · simp only [List.mem_singleton] at h; subst h; exact hy2) (by omega) (by omega)
      exact ⟨p', l', x', k', h1, by omega, h3, h4⟩

theorem e_l92Timers {N : Nat} {cd : List UInt8} {p : Nat} (hN : 10 < N) (hp : p + 40 ≤ 1000000000) : ∃ l p', m_spec_l92Timers N cd p = some (l, p') ∧ p' ≤ p + 40 ∧ l.length ≤ 9 ∧ ShortT l 8 := by
  unfold m_spec_l92Timers
  rw [pick_ok (by omega), Option.bind_some]
  have hpv := pickv_lt (cd := cd) (p := p) (m := 20) (by omega)
  obtain ⟨p', l', x', k', h1, h2, h3, h4⟩ := e_l92Timers_loop (N := N) (cd := cd) 9 N (p + 1) 0 [] ((pickv cd p 20 : Nat) : Int) rfl (by omega) (by omega) (by omega) (by simp) (by intro t ht; simp at ht) (by omega) (by omega)
  simp only
  rw [h1, Option.bind_some]
  simp only [Ex.go]
  by_cases hl : 1 < l'.length
  · rw [ltb_true.2 (by omega), cond_true, pick_ok (by omega), Option.bind_some]
    simp only
    cases eqb ((pickv cd p' 24 : Nat) : Int) 0 with
    | false => exact ⟨_, _, rfl, by omega, h3, h4⟩
    | true =>
      simp only [cond_true]
      rw [List.getElem?_eq_getElem (by omega), Option.bind_some, List.getElem?_eq_getElem (by omega), Option.bind_some]
      refine ⟨_, _, rfl, by omega, by simpa using h3, fun t ht => ?_⟩
      rcases List.mem_or_eq_of_mem_set ht with h | h
      · exact h4 t h
      · rw [h]; simp only; exact h4 _ (List.getElem_mem _)
  · rw [ltb_false.2 (by omega), cond_false]
    exact ⟨_, _, rfl, by omega, h3, h4⟩

theorem e_DrawTimersValid {N : Nat} {code : List UInt8} (hN : 10 < N) : ∃ l, m_spec_DrawTimersValid N code = some l ∧ l.length ≤ 9 ∧ ShortT l 8 := by
  unfold m_spec_DrawTimersValid
  obtain ⟨l, p', h1, h2, h3, h4⟩ := e_l92Timers (N := N) (cd := code.take 2000) (p := 0) hN (by omega)
  rw [h1, Option.bind_some]
  simp only
  by_cases hl : 0 < l.length
  · rw [ltb_true.2 (by omega), cond_true, pick_ok (by omega), Option.bind_some, Option.bind_some]
    simp only
    cases eqb ((pickv (code.take 2000) p' 12 : Nat) : Int) 0 with
    | false => exact ⟨_, rfl, h3, h4⟩
    | true =>
      simp only [cond_true]
      have q1 := pickv_lt (cd := code.take 2000) (p := p' + 1) (m := ((l.length : Nat) : Int)) (by omega)
      have q2 := pickv_lt (cd := code.take 2000) (p := p' + 1 + 1) (m := 3) (by omega)
      rw [pick_ok (by omega), Option.bind_some, pick_ok (by omega), Option.bind_some, geti_nat, geti_nat]
      rw [List.getElem?_eq_getElem (by simp; omega), Option.bind_some, List.getElem?_eq_getElem (by omega), Option.bind_some]
      refine ⟨_, rfl, by simpa using h3, fun t ht => ?_⟩
      rcases List.mem_or_eq_of_mem_set ht with h | h
      · exact h4 t h
      · rw [h]; simp only; exact h4 _ (List.getElem_mem _)
  · rw [ltb_false.2 (by omega), cond_false, Option.bind_some]
    exact ⟨_, rfl, h3, h4⟩
end Go.Proofs.Ytddifmlipmmlkaa
