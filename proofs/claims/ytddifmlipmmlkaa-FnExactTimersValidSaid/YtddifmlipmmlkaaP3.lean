/- The laws about timers, in plain words. -/
import Derived.Test.YtddifmlipmmlkaaP1
import Derived.Test.YtddifmlipmmlkaaP2
import Derived.Test.YtddifmlipmmlkaaO
import Derived.Test.YtddifmlipmmlkaaWA1
set_option linter.all false
namespace Go.Proofs.Ytddifmlipmmlkaa

theorem before_trans {a b c : Timer} (h : before a b) (k : before b c) : before a c := by
  unfold before at *
  rcases h with h | ⟨h, h'⟩
  · rcases k with k | ⟨k, _⟩ <;> left <;> omega
  · rcases k with k | ⟨k, k'⟩
    · left; omega
    · right; exact ⟨by omega, slt_trans h' k'⟩

structure TimersPw (l : List Timer) : Prop where
  ok : ∀ t ∈ l, timerOk t = true
  ne : l.Pairwise fun a b => a.name ≠ b.name
  asc : l.Pairwise before
  len : l.length ≤ 8

theorem timers_pw {l : List Timer} : timersOk l = true ↔ TimersPw l := by
  rw [timersOk_true]
  constructor
  · intro h
    refine ⟨fun t ht => ?_, ?_, ?_, h.len⟩
    · obtain ⟨i, hi, rfl⟩ := List.getElem_of_mem ht
      exact h.ok i hi
    · rw [List.pairwise_iff_getElem]
      exact fun i j hi hj hij => h.ne j i hj hij
    · rw [List.pairwise_iff_getElem]
      intro i j
      induction j with
      | zero => intro _ _ h; omega
      | succ j ih =>
        intro hi hj hij
        have a := h.asc (j + 1) hj (by omega)
        simp only [Nat.add_sub_cancel] at a
        rcases Nat.lt_or_ge i j with h1 | h1
        · exact before_trans (ih hi (by omega) h1) a
        · obtain rfl : i = j := by omega
          exact a
  · intro h
    refine ⟨fun i hi => h.ok _ (List.getElem_mem hi), fun i j hi hj => ?_, fun i hi h0 => ?_, h.len⟩
    · exact List.pairwise_iff_getElem.1 h.ne j i (by omega) hi hj
    · exact List.pairwise_iff_getElem.1 h.asc (i - 1) i (by omega) hi (by omega)

theorem timers_sub {l m : List Timer} (h : timersOk l = true) (hs : m.Sublist l) : timersOk m = true := by
  rw [timers_pw] at h ⊢
  exact ⟨fun t ht => h.ok t (hs.subset ht), h.ne.sublist hs, h.asc.sublist hs, Nat.le_trans hs.length_le h.len⟩

theorem timers_twice {l : List Timer} {k : Nat} (hk : k < l.length) : timersOk (l.take (k + 1) ++ l.drop k) = false := by
  rw [Bool.eq_false_iff]
  intro h
  rw [timers_pw] at h
  have := (List.pairwise_append.1 h.ne).2.2 l[k] (by rw [List.mem_take_iff_getElem]; exact ⟨k, by omega, rfl⟩) l[k] (by rw [List.mem_drop_iff_getElem]; exact ⟨0, by omega, rfl⟩)
  exact this rfl

theorem ShortT.sub {l m : List Timer} {B : Nat} (h : ShortT l B) (hs : ∀ t ∈ m, t ∈ l) : ShortT m B := fun t ht => h t (hs t ht)

/-- The law. -/
theorem p_FnTimersPart (u0 u1 : List UInt8) : ∃ N, m_laws_FnTimersPart N u0 u1 = some true := by
  refine ⟨100, ?_⟩
  unfold m_laws_FnTimersPart
  by_cases c0 : ltb 1048576 ((u0.length : Nat) : Int) = true
  · rw [c0, cond_true]
  rw [Bool.not_eq_true] at c0
  rw [c0, cond_false]
  by_cases c1 : ltb 1048576 ((u1.length : Nat) : Int) = true
  · rw [c1, cond_true]
  rw [Bool.not_eq_true] at c1
  rw [c1, cond_false]
  obtain ⟨l, h1, hl, hs⟩ := e_DrawTimersValid (N := 100) (code := u0) (by omega)
  rw [h1, Option.bind_some, e_impl_TimersValid hs (by omega) (by omega) (by omega) (by omega), Option.bind_some, e_spec_TimersValid hs (by omega) (by omega) (by omega), Option.bind_some]
  cases hv : timersOk l with
  | false => rfl
  | true =>
    rcases Nat.eq_zero_or_pos l.length with h0 | h0
    · rw [eqb_true.2 (by omega)]
      simp
    · rw [eqb_false.2 (by omega)]
      simp only [bne_self_eq_false, cond_false, Bool.not_true]
      have hk := Nat.mod_lt u1.length h0
      generalize u1.length % l.length = k at hk
      have hw : w64 (((k : Nat) : Int) + 1) = ((k + 1 : Nat) : Int) := by rw [w64_id (by omega)]; rfl
      rw [hw, slTo_nat (by omega), Option.bind_some, slFrom_nat (by omega), Option.bind_some, slTo_nat (by omega), Option.bind_some, slFrom_nat (by omega), Option.bind_some]
      rw [appd_ok (by simp; omega), Option.bind_some, appd_ok (by simp; omega), Option.bind_some, Option.bind_some, appd_ok (by simp; omega), Option.bind_some, appd_ok (by simp; omega), Option.bind_some, Option.bind_some]
      simp only [List.nil_append]
      have hs1 : (l.take k ++ l.drop (k + 1)).Sublist l := by
        have : (l.take k ++ l.drop (k + 1)).Sublist (l.take k ++ l.drop k) := List.Sublist.append_left (by
          rw [List.drop_eq_getElem_cons hk]; exact List.sublist_cons_self _ _) _
        rwa [List.take_append_drop] at this
      have hm2 : ∀ t ∈ l.take (k + 1) ++ l.drop k, t ∈ l := fun t ht => (List.mem_append.1 ht).elim (fun h => List.mem_of_mem_take h) (fun h => List.mem_of_mem_drop h)
      rw [e_impl_TimersValid (hs.sub fun t ht => hs1.subset ht) (by omega) (by simp; omega) (by omega) (by omega), Option.bind_some, timers_sub hv hs1, cond_true,
        e_impl_TimersValid (hs.sub hm2) (by omega) (by simp; omega) (by omega) (by omega), Option.bind_some, timers_twice hk]
      rfl

/-! ## Copied, compared, measured -/

theorem e_toTimerS {N : Nat} {l : List Timer} (hl : l.length ≤ 4000000000) (hN : l.length < N) : m_laws_toTimerS N l = some l := by
  unfold m_laws_toTimerS
  rw [mkl_ok hl, Option.bind_some, copy_list (fun n s k => m_laws_toTimerS_L5 N l n s k) l _ (fun k s => (s, k)) N hN (by simp) ?_ ?_]
  · rfl
  · rintro n s k rfl
    simp only [m_laws_toTimerS_L5]
    rw [ltb_false.2 (by omega)]; rfl
  · intro n s k h hs
    simp only [m_laws_toTimerS_L5]
    rw [ltb_true.2 (by omega), cond_true, List.getElem?_eq_getElem h, Option.bind_some]
    unfold m_laws_toTimer
    rw [Option.bind_some, List.getElem?_eq_getElem (by omega), Option.bind_some]

theorem e_eqTimer {N : Nat} {a b : Timer} : m_laws_eqTimer N a b = some ((eqb a.at_ b.at_) && (seq a.name b.name)) := by
  unfold m_laws_eqTimer
  cases eqb a.at_ b.at_ <;> cases seq a.name b.name <;> rfl
theorem timer_eq (a b : Timer) : ((eqb a.at_ b.at_) && (seq a.name b.name)) = true ↔ a = b := by
  rw [Bool.and_eq_true, eqb_true, seq_iff]
  cases a; cases b
  simp

theorem e_eqTimerS_self {N : Nat} {l : List Timer} (hN : l.length < N) : m_laws_eqTimerS N l l = some true := by
  unfold m_laws_eqTimerS
  rw [eqb_true.2 rfl, Bool.not_true, cond_false, (same_list (fun a b : Timer => (eqb a.at_ b.at_) && (seq a.name b.name)) timer_eq (fun n k => m_laws_eqTimerS_L8 N l l n k) l l (fun k => k) N hN rfl ?_ ?_).1 rfl]
  · rfl
  · rintro n k rfl
    simp only [m_laws_eqTimerS_L8]
    rw [ltb_false.2 (by omega)]; rfl
  · intro n k h h2
    simp only [m_laws_eqTimerS_L8]
    rw [ltb_true.2 (by omega), cond_true, List.getElem?_eq_getElem h, Option.bind_some, Option.bind_some, e_eqTimer, Option.bind_some]
theorem e_sameTimers_self {N : Nat} {l : List Timer} (hN : l.length < N) : m_laws_sameTimers N l l = some true := by
  unfold m_laws_sameTimers
  rw [eqb_true.2 rfl, Bool.not_true, cond_false, (same_list (fun a b : Timer => (eqb a.at_ b.at_) && (seq a.name b.name)) timer_eq (fun n k => m_laws_sameTimers_L8 N l l n k) l l (fun k => k) N hN rfl ?_ ?_).1 rfl]
  · rfl
  · rintro n k rfl
    simp only [m_laws_sameTimers_L8]
    rw [ltb_false.2 (by omega)]; rfl
  · intro n k h h2
    simp only [m_laws_sameTimers_L8]
    rw [ltb_true.2 (by omega), cond_true, List.getElem?_eq_getElem h, Option.bind_some, Option.bind_some]
theorem e_sameTexts_self {N : Nat} {l : List Str} (hN : l.length < N) : m_laws_sameTexts N l l = some true := by
  unfold m_laws_sameTexts
  rw [eqb_true.2 rfl, Bool.not_true, cond_false, (same_list seq (fun _ _ => seq_iff) (fun n k => m_laws_sameTexts_L8 N l l n k) l l (fun k => k) N hN rfl ?_ ?_).1 rfl]
  · rfl
  · rintro n k rfl
    simp only [m_laws_sameTexts_L8]
    rw [ltb_false.2 (by omega)]; rfl
  · intro n k h h2
    simp only [m_laws_sameTexts_L8]
    rw [ltb_true.2 (by omega), cond_true, List.getElem?_eq_getElem h, Option.bind_some, Option.bind_some]

theorem e_szTimer {N : Nat} {a : Timer} {left : Int} (h : a.name.size ≤ 4611686018427387904) (h0 : 0 ≤ left) (h1 : left ≤ 1048576) : m_laws_szTimer N a left = some (gz a.name.size left) := by
  unfold m_laws_szTimer
  rw [ssz_ok h, Option.bind_some, gz_w64 h0 h1 h]
  unfold gz
  split
  · rw [ltb_false.2 (by omega)]; rfl
  · rw [ltb_true.2 (by omega)]; rfl
theorem e_szTimerS {N : Nat} {l : List Timer} {left : Int} (h : ∀ t ∈ l, t.name.size ≤ 4611686018427387904) (hl : l.length ≤ 4611686018427387904) (hN : l.length < N) (h0 : 0 ≤ left) (h1 : left ≤ 1048576) : m_laws_szTimerS N l left = some (gz (l.length + wsum (fun t => t.name.size) l) left) := by
  unfold m_laws_szTimerS
  rw [gz_w64 h0 h1 hl, ← gz_add h0]
  by_cases hc : gz l.length left < 0
  · rw [if_pos hc]; unfold gz at hc; split at hc
    · omega
    · rw [ltb_true.2 (by omega)]; rfl
  rw [← (gz_pos (Int.not_lt.1 hc)).2]
  rw [ltb_false.2 (by omega), cond_false, if_neg hc]
  rw [size_list (fun n s k => m_laws_szTimerS_L8 N l n s k) l (fun t => t.name.size) (fun k s => (s, k)) N hN ?_ ?_ (gz l.length left) (by omega) (Int.le_trans (gz_le h0) h1), Option.bind_some]
  · split
    · rename_i h2
      rcases gz_neg h2 with h3 | h3
      · rw [h3]; rfl
      · omega
    · rfl
  · rintro n s k rfl
    simp only [m_laws_szTimerS_L8]
    rw [ltb_false.2 (by omega)]; rfl
  · intro n s k hk s0 s1
    simp only [m_laws_szTimerS_L8]
    rw [ltb_true.2 (by omega), cond_true, List.getElem?_eq_getElem hk, Option.bind_some, e_szTimer (h _ (List.getElem_mem hk)) s0 s1, Option.bind_some]

/-- The law. -/
theorem p_FnExactTimersValid (l : List Timer) (hh : l.length ≤ 140737488351232 ∧ ∀ t ∈ l, szT t) : ∃ N, m_laws_FnExactTimersValid N l = some true := by
  have hl := hh.1
  have h : ∀ t ∈ l, t.name.size ≤ 140737488351232 := fun t ht => (hh.2 t ht).2
  refine ⟨140737488351232 + 2, ?_⟩
  unfold m_laws_FnExactTimersValid
  rw [e_szTimerS (fun t ht => Nat.le_trans (h t ht) (by omega)) (by omega) (by omega) (by omega) (by omega), Option.bind_some]
  by_cases hc : gz (l.length + wsum (fun t => t.name.size) l) 1048576 < 0
  · rw [ltb_true.2 hc]; rfl
  rw [ltb_false.2 (by omega), cond_false]
  have hb := (gz_pos (Int.not_lt.1 hc)).1
  have hs : ShortT l 1048576 := fun t ht => by
    have := wsum_mem (w := fun t : Timer => t.name.size) ht
    omega
  rw [e_toTimerS (by omega) (by omega), Option.bind_some, e_spec_TimersValid hs (by omega) (by omega) (by omega), Option.bind_some, Option.bind_some,
    e_impl_TimersValid hs (by omega) (by omega) (by omega) (by omega), Option.bind_some]
  simp only [bne_self_eq_false, cond_false, Option.bind_some]
  rw [e_eqTimerS_self (by omega)]
  rfl

/-! ## What is due -/

def dueN (now : Int) (l : List Timer) : List Str := (l.filter fun t => leb t.at_ now).map (·.name)
def dueR (now : Int) (l : List Timer) : List Timer := l.filter fun t => !leb t.at_ now

theorem due_fold (now : Int) : ∀ (l : List Timer) (s : List Str × List Timer), l.foldl (fun s t => bif leb t.at_ now then (s.1 ++ [t.name], s.2) else (s.1, s.2 ++ [t])) s = (s.1 ++ dueN now l, s.2 ++ dueR now l)
  | [], s => by simp [dueN, dueR]
  | t :: l, s => by
    rw [List.foldl_cons, due_fold now l]
    unfold dueN dueR
    cases h : leb t.at_ now <;> simp [h]

theorem e_impl_TimersDue {N B : Nat} {l : List Timer} {now : Int} (hs : ShortT l B) (hB : B ≤ 4611686018427387904) (hN : l.length < N) (hBN : B < N) (hN2 : 2 < N) (hl : l.length ≤ 1000000) : m_impl_TimersDue N l now = some (bif timersOk l && (leb 0 now && leb now 9999) then (dueN now l, dueR now l, true) else ([], [], false)) := by
  unfold m_impl_TimersDue m_impl_isTime
  rw [e_impl_TimersValid hs hB hN hBN hN2, Option.bind_some]
  cases timersOk l with
  | false => rfl
  | true =>
    rw [show (bif leb 0 now then some (leb now 9999) else some false) = some (leb 0 now && leb now 9999) by cases leb 0 now <;> rfl]
    simp only [Bool.not_true, cond_false, Option.bind_some, Bool.true_and]
    cases (leb 0 now && leb now 9999) with
    | false => rfl
    | true =>
      simp only [Bool.not_true, cond_false, cond_true]
      rw [loop_inv (fun n (s : List Str × List Timer) k => m_impl_TimersDue_L10 N l now n s.1 s.2 k) l (fun _ t s => .inr (bif leb t.at_ now then (s.1 ++ [t.name], s.2) else (s.1, s.2 ++ [t]))) (fun k s => (s.1, s.2, k)) N hN (fun k s => s.1.length ≤ k ∧ s.2.length ≤ k) ?_ ?_ ?_ ([], []) ⟨Nat.le_refl _, Nat.le_refl _⟩]
      · rw [goL_fold (fun (t : Timer) (s : List Str × List Timer) => bif leb t.at_ now then (s.1 ++ [t.name], s.2) else (s.1, s.2 ++ [t])), due_fold]
        rfl
      · rintro n s k rfl _
        simp only [m_impl_TimersDue_L10]
        rw [ltb_false.2 (by omega)]; rfl
      · intro n s k h hi
        simp only [m_impl_TimersDue_L10]
        rw [ltb_true.2 (by omega), cond_true, List.getElem?_eq_getElem h, Option.bind_some]
        cases leb l[k].at_ now with
        | true => rw [cond_true, appd_ok (by simp; omega)]; rfl
        | false => rw [cond_false, appd_ok (by simp; omega)]; rfl
      · intro s k h s' hi he
        injection he with he
        subst he
        cases leb l[k].at_ now <;> simp <;> omega

theorem e_spec_TimersDue {N B : Nat} {l : List Timer} {now : Int} (hs : ShortT l B) (hB : B ≤ 4611686018427387904) (hN : l.length < N) (hBN : B < N) (hl : l.length ≤ 1000000) : m_spec_TimersDue N l now = some (bif timersOk l && (leb 0 now && leb now 9999) then (dueN now l, dueR now l, true) else ([], [], false)) := by
  unfold m_spec_TimersDue
  rw [e_spec_TimersValid hs hB hN hBN, Option.bind_some]
  cases timersOk l with
  | false => rfl
  | true =>
    rw [e_spec_l6In]
    simp only [Bool.not_true, cond_false, Option.bind_some, Bool.true_and]
    cases (leb 0 now && leb now 9999) with
    | false => rfl
    | true =>
      simp only [Bool.not_true, cond_false, cond_true]
      rw [loop_inv (fun n (s : List Str × List Timer) k => m_spec_TimersDue_L10 N l now n s.1 s.2 k) l (fun _ t s => .inr (bif leb t.at_ now then (s.1 ++ [t.name], s.2) else (s.1, s.2 ++ [t]))) (fun k s => (s.1, s.2, k)) N hN (fun k s => s.1.length ≤ k ∧ s.2.length ≤ k) ?_ ?_ ?_ ([], []) ⟨Nat.le_refl _, Nat.le_refl _⟩]
      · rw [goL_fold (fun (t : Timer) (s : List Str × List Timer) => bif leb t.at_ now then (s.1 ++ [t.name], s.2) else (s.1, s.2 ++ [t])), due_fold]
        rfl
      · rintro n s k rfl _
        simp only [m_spec_TimersDue_L10]
        rw [ltb_false.2 (by omega)]; rfl
      · intro n s k h hi
        simp only [m_spec_TimersDue_L10]
        rw [ltb_true.2 (by omega), cond_true, List.getElem?_eq_getElem h, Option.bind_some]
        cases leb l[k].at_ now with
        | true => rw [cond_true, appd_ok (by simp; omega)]; rfl
        | false => rw [cond_false, appd_ok (by simp; omega)]; rfl
      · intro s k h s' hi he
        injection he with he
        subst he
        cases leb l[k].at_ now <;> simp <;> omega

theorem due_split (now : Int) : ∀ {l : List Timer}, l.Pairwise before → ∃ k, k ≤ l.length ∧ dueN now l = (l.take k).map (·.name) ∧ dueR now l = l.drop k ∧ (∀ t ∈ l.take k, t.at_ ≤ now) ∧ ∀ t ∈ l.drop k, now < t.at_
  | [], _ => ⟨0, by simp, rfl, rfl, by simp, by simp⟩
  | t :: l, h => by
    rw [List.pairwise_cons] at h
    obtain ⟨k, h0, h1, h2, h3, h4⟩ := due_split now h.2
    by_cases hc : t.at_ ≤ now
    · refine ⟨k + 1, by simpa using h0, ?_, ?_, ?_, ?_⟩
      · unfold dueN at *; simp [leb_true.2 hc, h1]
      · unfold dueR at *; simp [leb_true.2 hc, h2]
      · intro u hu; simp at hu; rcases hu with rfl | hu
        · exact hc
        · exact h3 u hu
      · simpa using h4
    · have hall : ∀ u ∈ l, now < u.at_ := fun u hu => by
        have := h.1 u hu
        unfold before at this
        omega
      refine ⟨0, by simp, ?_, ?_, by simp, ?_⟩
      · unfold dueN
        rw [List.filter_eq_nil_iff.2 (fun u hu => by
          have : now < u.at_ := by
            rcases List.mem_cons.1 hu with rfl | hu
            · omega
            · exact hall u hu
          rw [leb_false.2 (by omega)]; simp)]
        rfl
      · unfold dueR
        rw [List.filter_eq_self.2 (fun u hu => by
          have : now < u.at_ := by
            rcases List.mem_cons.1 hu with rfl | hu
            · omega
            · exact hall u hu
          rw [leb_false.2 (by omega)]; rfl)]
        rfl
      · intro u hu
        rcases List.mem_cons.1 (by simpa using hu) with rfl | hu
        · omega
        · exact hall u hu

theorem e_DrawTimersDue {N : Nat} {code : List UInt8} (hN : 10 < N) : ∃ r, m_spec_DrawTimersDue N code = some r ∧ r.1.length ≤ 9 ∧ ShortT r.1 8 := by
  unfold m_spec_DrawTimersDue
  obtain ⟨l, p, h1, h2, h3, h4⟩ := e_l92Timers (N := N) (cd := code.take 2000) (p := 0) hN (by omega)
  rw [h1, Option.bind_some]
  simp only
  obtain ⟨q, b, hq, hb⟩ : ∃ q b, ((bif ltb 0 ((l.length : Nat) : Int) then (m_spec_l6Rd_pick N (code.take 2000) p 3).bind fun x15 => some (x15.2, eqb x15.1 0)
 else some (p, false)) : Option (Nat × Bool)) = some (q, b) ∧ q ≤ p + 1 ∧ (b = true → 0 < l.length) := by
    by_cases hl : 0 < l.length
    · rw [ltb_true.2 (by omega), cond_true, pick_ok (by omega), Option.bind_some]
      exact ⟨_, _, rfl, by omega, fun _ => hl⟩
    · rw [ltb_false.2 (by omega), cond_false]
      exact ⟨_, _, rfl, by omega, fun h => by cases h⟩
  rw [hq, Option.bind_some]
  cases b with
  | true =>
    have hl := hb.2 rfl
    simp only [cond_true]
    have q1 := pickv_lt (cd := code.take 2000) (p := q) (m := ((l.length : Nat) : Int)) (by omega)
    rw [pick_ok (by omega), Option.bind_some, geti_nat, List.getElem?_eq_getElem (by omega)]
    exact ⟨_, rfl, h3, h4⟩
  | false =>
    simp only [cond_false, Option.bind_some, Ex.go]
    rw [pick_ok (by omega), Option.bind_some, pick_ok (by omega), Option.bind_some]
    exact ⟨_, rfl, h3, h4⟩

/-- The law. -/
theorem p_FnDue (u0 : List UInt8) : ∃ N, m_laws_FnDue N u0 = some true := by
  refine ⟨100, ?_⟩
  unfold m_laws_FnDue
  by_cases c0 : ltb 1048576 ((u0.length : Nat) : Int) = true
  · rw [c0, cond_true]
  rw [Bool.not_eq_true] at c0
  rw [c0, cond_false]
  obtain ⟨⟨l, now⟩, h1, hl, hs⟩ := e_DrawTimersDue (N := 100) (code := u0) (by omega)
  have hl : l.length ≤ 9 := hl
  have hs : ShortT l 8 := hs
  rw [h1, Option.bind_some]
  simp only
  rw [e_impl_TimersDue hs (by omega) (by omega) (by omega) (by omega) (by omega), Option.bind_some, e_spec_TimersDue hs (by omega) (by omega) (by omega) (by omega), Option.bind_some]
  cases hv : timersOk l with
  | false => simp only [Bool.false_and, cond_false, bne_self_eq_false, Bool.not_false, cond_true, beq_self_eq_true]; rw [e_sameTexts_self (by simp), Option.bind_some]; simp only [Bool.not_true, cond_false, cond_true]; rw [e_sameTimers_self (by simp)]; rfl
  | true =>
    cases hn : (leb 0 now && leb now 9999) with
    | false => simp only [Bool.and_false, cond_false, bne_self_eq_false, Bool.not_false, cond_true, beq_self_eq_true]; rw [e_sameTexts_self (by simp), Option.bind_some]; simp only [Bool.not_true, cond_false, cond_true]; rw [e_sameTimers_self (by simp)]; rfl
    | true =>
      obtain ⟨k, h0, e1, e2, a1, a2⟩ := due_split now (timers_pw.1 hv).asc
      simp only [Bool.true_and, cond_true, bne_self_eq_false, cond_false, Bool.not_true]
      have hlen : (dueN now l).length = k := by rw [e1]; simp [Nat.min_eq_left h0]
      have hlen2 : (dueR now l).length ≤ 9 := by rw [e2]; simp; omega
      rw [e_sameTexts_self (by omega), Option.bind_some]
      simp only [Bool.not_true, cond_false]
      rw [e_sameTimers_self (by omega), Option.bind_some]
      simp only [Bool.not_true, cond_false]
      rw [loop0 (fun n (_ : Unit) j => m_laws_FnDue_L18 100 (l, now) (dueN now l, dueR now l, true) n j) (l.take k) (fun _ _ _ => .inr ()) (fun j _ => j) 100 (by simp; omega) ?_ ?_ ()]
      · rw [goL_fold (fun (_ : Timer) (s : Unit) => s)]
        simp only [Option.bind_some, Ex.go]
        rw [hlen, slFrom_nat h0, Option.bind_some, e2, e_sameTimers_self (by simp; omega), Option.bind_some, cond_true]
        rcases Nat.eq_zero_or_pos (l.drop k).length with hz | hz
        · rw [eqb_true.2 (by omega)]; rfl
        · rw [eqb_false.2 (by omega), cond_false, List.getElem?_eq_getElem hz, Option.bind_some, ltb_true.2 (a2 _ (List.getElem_mem hz))]
      · rintro n _ j rfl
        simp only [m_laws_FnDue_L18]
        rw [ltb_false.2 (by simp; omega)]; rfl
      · intro n _ j hj
        have hj' : j < k := by simp at hj; omega
        simp only [m_laws_FnDue_L18]
        rw [ltb_true.2 (by omega), cond_true, List.getElem?_eq_getElem (by omega), Option.bind_some]
        have hat : l[j].at_ ≤ now := a1 _ (by rw [List.mem_take_iff_getElem]; exact ⟨j, by omega, rfl⟩)
        rw [ltb_false.2 (by omega), cond_false]
        have hg : (dueN now l)[j]? = some l[j].name := by
          rw [e1, List.getElem?_map, List.getElem?_take_of_lt hj', List.getElem?_eq_getElem (by omega)]; rfl
        rw [hg, Option.bind_some, seq_self]
        rfl
end Go.Proofs.Ytddifmlipmmlkaa
