/- Journals: both programs write them and tell them alike. -/
import Derived.Test.YtacecnffggffmaaDoorP76
set_option linter.all false
namespace Go.Proofs.YtacecnffggffmaaDoor

/-! ## Writing -/

def namesS (l : List Event) : Prop := ∀ d ∈ l, d.name.size ≤ 2000000
theorem e_eventValid {N : Nat} {d : Event} (hs : d.name.size ≤ 2000000) (hN : 3000000 < N) : m_impl_eventValid N d = some (evB d) := by
  unfold m_impl_eventValid evB
  cases leb 1 d.kind with
  | false => rfl
  | true =>
    rw [cond_true]
    cases leb d.kind 3 with
    | false => rfl
    | true => rw [cond_true, e_impl_NameValid (by omega) (by omega)]; rfl
theorem leb20 {n : Nat} : leb ((n : Nat) : Int) 20 = decide (n ≤ 20) := leb_nat (b := 20)
theorem e_impl_EventsValid {N : Nat} {l : List Event} (hs : namesS l) (hN : 3000000 < N) (hl : l.length < N) : m_impl_EventsValid N l = some (evsOk l) := by
  unfold m_impl_EventsValid
  rw [all_list (fun _ d => evB d) false (fun n k => m_impl_EventsValid_L4 N l n k) l (fun k => k) N hl ?_ ?_, allIdx_all, Option.bind_some, leb20]
  · unfold evsOk
    cases l.all evB <;> rfl
  · rintro n k rfl
    simp only [m_impl_EventsValid_L4]
    rw [ltb_false.2 (by omega)]; rfl
  · intro n k h
    simp only [m_impl_EventsValid_L4]
    rw [ltb_true.2 (by omega), cond_true, List.getElem?_eq_getElem h, Option.bind_some, e_eventValid (hs _ (List.getElem_mem h)) hN, Option.bind_some]
    cases evB l[k] <;> rfl
theorem e_spec_EventsValid {N : Nat} {l : List Event} (hs : namesS l) (hN : 3000000 < N) (hl : l.length < N) : m_spec_EventsValid N l = some (evsOk l) := by
  unfold m_spec_EventsValid
  rw [all_list (fun _ d => evB d) false (fun n k => m_spec_EventsValid_L4 N l n k) l (fun k => k) N hl ?_ ?_, allIdx_all, Option.bind_some, leb20]
  · unfold evsOk
    cases l.all evB <;> rfl
  · rintro n k rfl
    simp only [m_spec_EventsValid_L4]
    rw [ltb_false.2 (by omega)]; rfl
  · intro n k h
    have hsz := hs _ (List.getElem_mem h)
    simp only [m_spec_EventsValid_L4]
    rw [ltb_true.2 (by omega), cond_true, List.getElem?_eq_getElem h, Option.bind_some, e_spec_l6In, Option.bind_some, e_spec_NameValid (by omega) (by omega)]
    unfold evB
    cases leb 1 l[k].kind <;> cases leb l[k].kind 3 <;> cases nameOk l[k].name <;> rfl

theorem evT_ok {k : Nat} {d : Event} (h : evOk ((k : Int) + 1) d) : evT ((k : Int) + 1) d = ofB (lineB (k + 1) d.kind (toB d.name)) := by
  unfold evT
  rw [if_pos h, show ((k : Int) + 1).toNat = k + 1 by omega]
theorem bcat_B {a b : Bs} (h : a.length + b.length ≤ 140737488355328) : bcat (ofB a) (ofB b) = some (ofB (a ++ b)) := by
  unfold bcat
  rw [if_pos (by rw [ofB_size, ofB_size]; exact h), ofB_append]
theorem name_two {k : Int} {d : Event} (h : evOk k d) : d.name.size ≤ 2000000 := by
  have := nameOk_size h.2.2.2.2
  omega
theorem drop_cons {α : Type} {l t : List α} {x : α} {k : Nat} (h : l.drop k = x :: t) : ∃ hk : k < l.length, l[k] = x ∧ l.drop (k + 1) = t := by
  have hkl : k < l.length := by
    rcases Nat.lt_or_ge k l.length with h1 | h1
    · exact h1
    · rw [List.drop_of_length_le h1] at h; cases h
  have hd := List.drop_eq_getElem_cons hkl
  rw [h] at hd
  injection hd with h1 h2
  exact ⟨hkl, h1.symm, h2.symm⟩

theorem jt_impl {N : Nat} (hN : 3000000 < N) {l : List Event} : ∀ (t : List Event) (n k : Nat) (s : Bs), l.drop k = t → k ≤ l.length → t.length < n → jOk k t → s.length + 50 * t.length ≤ 2000000 →
    m_impl_JournalText_L8 N l n (ofB s) k = some (.brk (ofB (s ++ jB k t), l.length))
  | [], n, k, s, ht, hk, hn, ho, hb => by
    obtain ⟨m, rfl⟩ : ∃ m, n = m + 1 := ⟨n - 1, by simp at hn; omega⟩
    have hkl : k = l.length := by have := List.drop_eq_nil_iff.1 ht; omega
    simp only [m_impl_JournalText_L8]
    rw [ltb_false.2 (by omega), cond_false, hkl, jB, List.append_nil]
  | d :: t, n, k, s, ht, hk, hn, ho, hb => by
    obtain ⟨m, rfl⟩ : ∃ m, n = m + 1 := ⟨n - 1, by simp at hn; omega⟩
    obtain ⟨hkl, hx, hd⟩ := drop_cons ht
    have hlen := line_len (n := k + 1) (k := d.kind) (s := d.name) (by have := ho.1.2.1; omega) ho.1.2.2.2.2
    simp only [List.length_cons] at hb hn
    simp only [m_impl_JournalText_L8]
    rw [ltb_true.2 (by omega), cond_true, List.getElem?_eq_getElem hkl, Option.bind_some, hx, e_impl_EventText (name_two ho.1) hN, Option.bind_some, evT_ok ho.1]
    rw [show (⟨#[10]⟩ : Str) = ofB [10] from rfl, cat_B (by simp only [List.length_singleton]; omega), Option.bind_some, bcat_B (by simp only [List.length_append, List.length_singleton]; omega), Option.bind_some]
    rw [jt_impl hN t m (k + 1) _ hd (by omega) (by omega) ho.2 (by simp only [List.length_append, List.length_singleton]; omega)]
    simp [jB]
theorem e_impl_JournalText {N : Nat} {l : List Event} (hs : namesS l) (hN : 3000000 < N) (hl : l.length ≤ 2000000) : m_impl_JournalText N l = some (jT l) := by
  unfold m_impl_JournalText
  rw [e_impl_EventsValid hs hN (by omega), Option.bind_some]
  unfold jT
  cases h : evsOk l with
  | false => rfl
  | true =>
    have hk := evsOk_jOk.1 h
    have h20 : l.length ≤ 20 := by
      unfold evsOk at h
      rw [Bool.and_eq_true, decide_eq_true_eq] at h
      exact h.2
    rw [Bool.not_true, cond_false, if_pos rfl, show (⟨#[]⟩ : Str) = ofB [] from rfl, jt_impl hN l N 0 [] rfl (Nat.zero_le _) (by omega) hk (by simp only [List.length_nil]; omega)]
    rfl
theorem jt_spec {N : Nat} (hN : 3000000 < N) {l : List Event} (hs : namesS l) (hl : l.length ≤ 20) (hv : evsOk l = true) : ∀ (t : List Event) (n k : Nat) (s : Bs), l.drop k = t → k ≤ l.length → t.length < n → jOk k t → s.length + 50 * t.length ≤ 2000000 →
    m_spec_JournalText_L5 N l n (ofB s) k = some (.brk (ofB (s ++ jB k t), l.length))
  | [], n, k, s, ht, hk, hn, ho, hb => by
    obtain ⟨m, rfl⟩ : ∃ m, n = m + 1 := ⟨n - 1, by simp at hn; omega⟩
    have hkl : k = l.length := by have := List.drop_eq_nil_iff.1 ht; omega
    simp only [m_spec_JournalText_L5]
    rw [ltb_false.2 (by omega), cond_false, hkl, jB, List.append_nil]
  | d :: t, n, k, s, ht, hk, hn, ho, hb => by
    obtain ⟨m, rfl⟩ : ∃ m, n = m + 1 := ⟨n - 1, by simp at hn; omega⟩
    obtain ⟨hkl, hx, hd⟩ := drop_cons ht
    have hlen := line_len (n := k + 1) (k := d.kind) (s := d.name) (by have := ho.1.2.1; omega) ho.1.2.2.2.2
    simp only [List.length_cons] at hb hn
    simp only [m_spec_JournalText_L5]
    rw [ltb_true.2 (by omega), cond_true, e_spec_EventsValid hs hN (by omega), Option.bind_some, hv, cond_true, List.getElem?_eq_getElem hkl, Option.bind_some, hx, e_spec_EventText (name_two ho.1) hN, Option.bind_some, evT_ok ho.1]
    rw [show (⟨#[10]⟩ : Str) = ofB [10] from rfl, cat_B (by omega), Option.bind_some, cat_B (by simp only [List.length_append, List.length_singleton]; omega), Option.bind_some]
    rw [jt_spec hN hs hl hv t m (k + 1) _ hd (by omega) (by omega) ho.2 (by simp only [List.length_append, List.length_singleton]; omega)]
    simp [jB]
theorem e_spec_JournalText {N : Nat} {l : List Event} (hs : namesS l) (hN : 3000000 < N) (hl : l.length ≤ 2000000) : m_spec_JournalText N l = some (jT l) := by
  unfold m_spec_JournalText jT
  cases h : evsOk l with
  | false =>
    obtain ⟨M, rfl⟩ : ∃ M, N = M + 1 := ⟨N - 1, by omega⟩
    simp only [m_spec_JournalText_L5]
    cases ltb ((0 : Nat) : Int) ((l.length : Nat) : Int) with
    | false => rfl
    | true => rw [cond_true, e_spec_EventsValid hs hN (by omega), Option.bind_some, h]; rfl
  | true =>
    have hk := evsOk_jOk.1 h
    have h20 : l.length ≤ 20 := by
      have h' := h
      unfold evsOk at h'
      rw [Bool.and_eq_true, decide_eq_true_eq] at h'
      exact h'.2
    rw [if_pos rfl, show (⟨#[]⟩ : Str) = ofB [] from rfl, jt_spec hN hs h20 h l N 0 [] rfl (Nat.zero_le _) (by omega) hk (by simp only [List.length_nil]; omega)]
    rfl

/-! ## Telling -/

theorem cut_hit {N : Nat} {t l r : Bs} (e : t = l ++ 10 :: r) (h : (10 : UInt8) ∉ l) (hs : t.length ≤ 2000000) : ∃ b, m_strings_Cut N (ofB t) (⟨#[10]⟩ : Str) = some (ofB l, b, true) := by
  unfold m_strings_Cut
  rw [if_pos (by rw [ofB_size]; omega)]
  have h1 : Lib.index t [10] = l.length := by
    rw [Lib.index_one]
    have hge := Lib.indexByte_ge t 10
    have hat : t[l.length]? = some 10 := by rw [e, List.getElem?_append_right (Nat.le_refl _), Nat.sub_self]; rfl
    by_cases h0 : Lib.indexByte t 10 = -1
    · exact absurd hat (Lib.indexByte_none h0 _)
    · obtain ⟨i, hi⟩ : ∃ i : Nat, Lib.indexByte t 10 = i := ⟨(Lib.indexByte t 10).toNat, by omega⟩
      obtain ⟨h2, h3⟩ := Lib.indexByte_some hi
      rcases Nat.lt_trichotomy i l.length with h4 | h4 | h4
      · rw [e, List.getElem?_append_left h4] at h2
        exact absurd (List.mem_of_getElem? h2) h
      · rw [hi, h4]
      · exact absurd hat (h3 _ h4)
  have h2 : Lib.cut t [10] = (l, t.drop (l.length + 1), true) := by
    unfold Lib.cut
    rw [h1, if_pos (by omega), Int.toNat_natCast, List.length_singleton]
    rw [show t.take l.length = l by rw [e, List.take_left]]
  refine ⟨ofB (t.drop (l.length + 1)), ?_⟩
  show some ((⟨(Lib.cut t [10]).1.toArray⟩ : Str), (⟨(Lib.cut t [10]).2.1.toArray⟩ : Str), (Lib.cut t [10]).2.2) = _
  rw [h2]
  rfl
theorem cut_miss {N : Nat} {t : Bs} (h : (10 : UInt8) ∉ t) (hs : t.length ≤ 2000000) : ∃ a b, m_strings_Cut N (ofB t) (⟨#[10]⟩ : Str) = some (a, b, false) := by
  unfold m_strings_Cut
  rw [if_pos (by rw [ofB_size]; omega)]
  have h1 : Lib.index t [10] = -1 := by
    rw [Lib.index_one]
    have hge := Lib.indexByte_ge t 10
    by_cases h0 : Lib.indexByte t 10 = -1
    · exact h0
    · obtain ⟨i, hi⟩ : ∃ i : Nat, Lib.indexByte t 10 = i := ⟨(Lib.indexByte t 10).toNat, by omega⟩
      exact absurd (List.mem_of_getElem? (Lib.indexByte_some hi).1) h
  have h2 : Lib.cut t [10] = (t, [], false) := by
    unfold Lib.cut
    rw [h1, if_neg (by omega)]
  refine ⟨ofB t, ofB [], ?_⟩
  show some ((⟨(Lib.cut t [10]).1.toArray⟩ : Str), (⟨(Lib.cut t [10]).2.1.toArray⟩ : Str), (Lib.cut t [10]).2.2) = _
  rw [h2]
  rfl

theorem bgeti_nat {s : Str} {k : Nat} (h : k < s.size) : bgeti s (k : Int) = some (s[k]'h).toNat := by
  unfold bgeti
  rw [if_pos (by omega), Int.toNat_natCast, bget_ok h]
theorem end_go {N : Nat} {s : Str} (hs : s.size ≤ 2000000) : ∀ (t : Bs) (n k : Nat), (toB s).drop k = t → k ≤ s.size → t.length < n →
    (∀ l r, t = l ++ 10 :: r → (10 : UInt8) ∉ l → m_spec_l5End_L4 N s n (k : Int) = some (.ret ((k + l.length : Nat) : Int))) ∧ ((10 : UInt8) ∉ t → m_spec_l5End_L4 N s n (k : Int) = some (.brk ((s.size : Nat) : Int)))
  | [], n, k, ht, hk, hn => by
    obtain ⟨m, rfl⟩ : ∃ m, n = m + 1 := ⟨n - 1, by simp at hn; omega⟩
    have hsz := toB_len s
    have hkl : k = s.size := by have := List.drop_eq_nil_iff.1 ht; omega
    refine ⟨fun l r e _ => absurd (nl_in e) (by simp), fun _ => ?_⟩
    simp only [m_spec_l5End_L4]
    rw [ssz_ok (by omega), Option.bind_some, ltb_false.2 (by omega), cond_false, hkl]
  | x :: t, n, k, ht, hk, hn => by
    obtain ⟨m, rfl⟩ : ∃ m, n = m + 1 := ⟨n - 1, by simp at hn; omega⟩
    have hsz := toB_len s
    obtain ⟨hkl, hx, hd⟩ := drop_cons ht
    have hk' : k < s.size := by omega
    have hxk : (s[k]'hk') = x := by rw [← hx]; exact (getElem_toList s k hk').symm
    simp only [List.length_cons] at hn
    have go : m_spec_l5End_L4 N s (m + 1) (k : Int) = bif eqb ((x.toNat : Nat) : Int) 10 then some (.ret ((k : Nat) : Int)) else m_spec_l5End_L4 N s m (((k + 1 : Nat)) : Int) := by
      simp only [m_spec_l5End_L4]
      rw [ssz_ok (by omega), Option.bind_some, ltb_true.2 (by omega), cond_true, bgeti_nat hk', Option.bind_some, hxk, w64_id (by omega), show ((k + 1 : Nat) : Int) = (k : Int) + 1 by omega]
    rw [go]
    by_cases h10 : x = 10
    · subst h10
      rw [show eqb (((10 : UInt8).toNat : Nat) : Int) 10 = true from eqb_true.2 rfl, cond_true]
      refine ⟨fun l r e hl => ?_, fun h => absurd (by simp) h⟩
      obtain ⟨rfl, _⟩ := nl_one (a := []) (b := t) (by simp) hl e
      rfl
    · have hne : ¬ ((x.toNat : Nat) : Int) = 10 := fun e => h10 (UInt8.toNat_inj.1 (by
        have : x.toNat = 10 := by omega
        rw [this]; rfl))
      rw [eqb_false.2 hne, cond_false]
      obtain ⟨g1, g2⟩ := end_go hs t m (k + 1) hd (by omega) (by omega)
      refine ⟨fun l r e hl => ?_, fun h => g2 (fun h2 => h (by simp [h2]))⟩
      cases l with
      | nil =>
        simp only [List.nil_append, List.cons.injEq] at e
        exact absurd e.1 h10
      | cons y l =>
        simp only [List.cons_append, List.cons.injEq] at e
        rw [g1 l r e.2 (fun h => hl (by simp [h])), List.length_cons, show k + 1 + l.length = k + (l.length + 1) by omega]
theorem end_hit {N : Nat} {s : Str} (hs : s.size ≤ 2000000) (hN : 3000000 < N) {k : Nat} (hk : k ≤ s.size) {l r : Bs} (e : (toB s).drop k = l ++ 10 :: r) (h : (10 : UInt8) ∉ l) : m_spec_l5End N s (k : Int) = some ((k + l.length : Nat) : Int) := by
  unfold m_spec_l5End
  rw [(end_go hs _ N k rfl hk (by rw [List.length_drop, toB_len]; omega)).1 l r e h]
  rfl
theorem end_miss {N : Nat} {s : Str} (hs : s.size ≤ 2000000) (hN : 3000000 < N) {k : Nat} (hk : k ≤ s.size) (h : (10 : UInt8) ∉ (toB s).drop k) : m_spec_l5End N s (k : Int) = some (-1) := by
  unfold m_spec_l5End
  rw [(end_go hs _ N k rfl hk (by rw [List.length_drop, toB_len]; omega)).2 h]
  rfl

theorem jr_total : ∀ (m : Nat) (t : Bs) (out : List Event) (k : Nat), t.length ≤ m → ∃ res, Jr t out k res
  | m, t, out, k, hm => by
    by_cases h0 : t = []
    · exact ⟨_, .fine h0⟩
    by_cases h1 : (10 : UInt8) ∈ t
    · obtain ⟨l, r, e, hl⟩ := List.eq_append_cons_of_mem h1
      by_cases h2 : ∃ d, isLine (ofB l) ((out.length : Int) + 1) d
      · obtain ⟨d, h2⟩ := h2
        cases m with
        | zero => exact absurd (List.length_eq_zero_iff.1 (by omega)) h0
        | succ m =>
          obtain ⟨res, h3⟩ := jr_total m r (out ++ [d]) (k + (l.length + 1)) (by rw [e, List.length_append, List.length_cons] at hm; omega)
          exact ⟨res, .step e hl h2 h3⟩
      · exact ⟨_, .bad e hl (fun d hd => h2 ⟨d, hd⟩)⟩
    · exact ⟨_, .torn h0 h1⟩

theorem tail_sub {s : Str} {k : Nat} (hk : k ≤ s.size) : ssub s (k : Int) ((s.size : Nat) : Int) = some (ofB ((toB s).drop k)) := by
  rw [ssub_B hk (Nat.le_refl _), List.take_of_length_le (by rw [List.length_drop, toB_len]; omega)]
theorem ofB_ne {t : Bs} (h : t ≠ []) : seq (ofB t) (⟨#[]⟩ : Str) = false := seq_false.2 fun e => h (ofB_inj (b := []) e)
theorem sub_line {s : Str} {k : Nat} {l r : Bs} (e : (toB s).drop k = l ++ 10 :: r) (hk : k ≤ s.size) : k + (l.length + 1) ≤ s.size ∧ ssub s (k : Int) ((k + l.length : Nat) : Int) = some (ofB l) ∧ (toB s).drop (k + (l.length + 1)) = r := by
  have hsz := toB_len s
  have hlen := congrArg List.length e
  rw [List.length_drop, List.length_append, List.length_cons] at hlen
  refine ⟨by omega, ?_, ?_⟩
  · rw [ssub_B (by omega) (by omega), e, show k + l.length - k = l.length by omega, List.take_left]
  · rw [← List.drop_drop, e, show l.length + 1 = (l ++ [10]).length by simp, show l ++ 10 :: r = (l ++ [10]) ++ r by simp, List.drop_left]

abbrev jrI (res : List Event × Nat × Int) : List Event × Int × Int := (res.1, ((res.2.1 : Nat) : Int), res.2.2)
theorem tell_impl {N : Nat} {s : Str} (hs : s.size ≤ 2000000) (hN : 3000000 < N) {t : Bs} {out : List Event} {k : Nat} {res : List Event × Nat × Int} (h : Jr t out k res) : ∀ n, (toB s).drop k = t → k ≤ s.size → t.length < n → out.length + t.length ≤ 2000000 → m_impl_JournalFrom_L4 N s n out (k : Int) = some (.ret (jrI res)) := by
  induction h with
  | @fine t out k h =>
    intro n ht hk hn _
    obtain ⟨m, rfl⟩ : ∃ m, n = m + 1 := ⟨n - 1, by omega⟩
    simp only [m_impl_JournalFrom_L4]
    rw [tail_sub hk, Option.bind_some, ht, h, show seq (ofB []) (⟨#[]⟩ : Str) = true from seq_self _]; rfl
  | @torn t out k h h2 =>
    intro n ht hk hn hb
    obtain ⟨m, rfl⟩ : ∃ m, n = m + 1 := ⟨n - 1, by omega⟩
    obtain ⟨a, b, hc⟩ := cut_miss (N := N) h2 (by omega)
    simp only [m_impl_JournalFrom_L4]
    rw [tail_sub hk, Option.bind_some, ht, ofB_ne h, cond_false, hc, Option.bind_some]; rfl
  | @bad t l r out k e h h2 =>
    intro n ht hk hn hb
    obtain ⟨m, rfl⟩ : ∃ m, n = m + 1 := ⟨n - 1, by omega⟩
    obtain ⟨b, hc⟩ := cut_hit (N := N) e h (by omega)
    have hl : l.length ≤ 2000000 := by have := congrArg List.length e; rw [List.length_append, List.length_cons] at this; omega
    simp only [m_impl_JournalFrom_L4]
    rw [tail_sub hk, Option.bind_some, ht, ofB_ne (by rw [e]; simp), cond_false, hc, Option.bind_some, Bool.not_true, cond_false]
    obtain ⟨x, h3, _, h4⟩ := from_both (N := N) (s := ofB l) (by rw [ofB_size]; exact hl) hN
    rw [h3, Option.bind_some]
    rcases h4 with ⟨rfl, _⟩ | ⟨n', d, rfl, h5⟩
    · rfl
    · simp only [Bool.not_true, cond_false]
      rw [lsz_ok (by omega), Option.bind_some, eqb_false.2 (fun e => h2 d (by rw [← e]; exact h5))]; rfl
  | @step t l r out k d res e h h2 h3 ih =>
    intro n ht hk hn hb
    obtain ⟨m, rfl⟩ : ∃ m, n = m + 1 := ⟨n - 1, by omega⟩
    obtain ⟨b, hc⟩ := cut_hit (N := N) e h (by omega)
    have hlen := congrArg List.length e
    rw [List.length_append, List.length_cons] at hlen
    obtain ⟨g1, _, g2⟩ := sub_line (ht.trans e) hk
    simp only [m_impl_JournalFrom_L4]
    rw [tail_sub hk, Option.bind_some, ht, ofB_ne (by rw [e]; simp), cond_false, hc, Option.bind_some, Bool.not_true, cond_false, (from_line (by rw [ofB_size]; omega) hN h2).1, Option.bind_some]
    simp only [Bool.not_true, cond_false]
    rw [lsz_ok (by omega), Option.bind_some, eqb_true.2 rfl, Bool.not_true, cond_false, appd_ok (by rw [List.length_singleton]; omega), Option.bind_some, ssz_ok (by rw [ofB_size]; omega), Option.bind_some, lsz_ok (by rw [ofB_size]; omega), Option.bind_some, ofB_size]
    rw [show w64 ((k : Int) + (((l.length : Nat) : Int) + 1)) = ((k + (l.length + 1) : Nat) : Int) by rw [w64_id (by omega)]; omega]
    exact ih m g2 g1 (by omega) (by rw [List.length_append, List.length_singleton]; omega)
theorem tell_spec {N : Nat} {s : Str} (hs : s.size ≤ 2000000) (hN : 3000000 < N) {t : Bs} {out : List Event} {k : Nat} {res : List Event × Nat × Int} (h : Jr t out k res) : ∀ n, (toB s).drop k = t → k ≤ s.size → t.length < n → out.length + t.length ≤ 2000000 →
    ∃ x, m_spec_JournalFrom_L5 N s n out (k : Int) = some x ∧ (x.go (fun r => r) fun b => some (b.1, b.2, 0)) = some (jrI res) := by
  induction h with
  | @fine t out k h =>
    intro n ht hk hn _
    obtain ⟨m, rfl⟩ : ∃ m, n = m + 1 := ⟨n - 1, by omega⟩
    have hkl : s.size ≤ k := by rw [h] at ht; have := List.drop_eq_nil_iff.1 ht; rw [toB_len] at this; exact this
    refine ⟨.brk (out, (k : Int)), ?_, rfl⟩
    simp only [m_spec_JournalFrom_L5]
    rw [ssz_ok (by omega), Option.bind_some, ltb_false.2 (by omega), cond_false]
  | @torn t out k h h2 =>
    intro n ht hk hn hb
    obtain ⟨m, rfl⟩ : ∃ m, n = m + 1 := ⟨n - 1, by omega⟩
    have hkl : k < s.size := by
      rcases Nat.lt_or_ge k s.size with h1 | h1
      · exact h1
      · rw [List.drop_of_length_le (by rw [toB_len]; exact h1)] at ht; exact absurd ht.symm h
    refine ⟨.ret (jrI (out, k, 1)), ?_, rfl⟩
    simp only [m_spec_JournalFrom_L5]
    rw [ssz_ok (by omega), Option.bind_some, ltb_true.2 (by omega), cond_true, end_miss hs hN hk (by rw [ht]; exact h2), Option.bind_some, ltb_true.2 (by omega)]
    rfl
  | @bad t l r out k e h h2 =>
    intro n ht hk hn hb
    obtain ⟨m, rfl⟩ : ∃ m, n = m + 1 := ⟨n - 1, by omega⟩
    have hlen := congrArg List.length e
    rw [List.length_append, List.length_cons] at hlen
    obtain ⟨g1, g3, g2⟩ := sub_line (ht.trans e) hk
    refine ⟨.ret (jrI (out, k, 2)), ?_, rfl⟩
    simp only [m_spec_JournalFrom_L5]
    rw [ssz_ok (by omega), Option.bind_some, ltb_true.2 (by omega), cond_true, end_hit hs hN hk (ht.trans e) h, Option.bind_some, ltb_false.2 (by omega), cond_false, g3, Option.bind_some]
    obtain ⟨x, _, h3, h4⟩ := from_both (N := N) (s := ofB l) (by rw [ofB_size]; omega) hN
    rw [h3, Option.bind_some]
    rcases h4 with ⟨rfl, _⟩ | ⟨n', d, rfl, h5⟩
    · rfl
    · simp only [Bool.not_true, cond_false]
      rw [lsz_ok (by omega), Option.bind_some, eqb_false.2 (fun e => h2 d (by rw [← e]; exact h5))]; rfl
  | @step t l r out k d res e h h2 h3 ih =>
    intro n ht hk hn hb
    obtain ⟨m, rfl⟩ : ∃ m, n = m + 1 := ⟨n - 1, by omega⟩
    have hlen := congrArg List.length e
    rw [List.length_append, List.length_cons] at hlen
    obtain ⟨g1, g3, g2⟩ := sub_line (ht.trans e) hk
    obtain ⟨x, h4, h5⟩ := ih m g2 g1 (by omega) (by rw [List.length_append, List.length_singleton]; omega)
    refine ⟨x, ?_, h5⟩
    simp only [m_spec_JournalFrom_L5]
    rw [ssz_ok (by omega), Option.bind_some, ltb_true.2 (by omega), cond_true, end_hit hs hN hk (ht.trans e) h, Option.bind_some, ltb_false.2 (by omega), cond_false, g3, Option.bind_some, (from_line (by rw [ofB_size]; omega) hN h2).2, Option.bind_some]
    simp only [Bool.not_true, cond_false]
    rw [lsz_ok (by omega), Option.bind_some, eqb_true.2 rfl, Bool.not_true, cond_false, appd_ok (by rw [List.length_singleton]; omega), Option.bind_some]
    rw [show w64 (((k + l.length : Nat) : Int) + 1) = ((k + (l.length + 1) : Nat) : Int) by rw [w64_id (by omega)]; omega]
    exact h4
theorem journal_both {N : Nat} {s : Str} (hs : s.size ≤ 2000000) (hN : 3000000 < N) : ∃ res, Jr (toB s) [] 0 res ∧ m_impl_JournalFrom N s = some (jrI res) ∧ m_spec_JournalFrom N s = some (jrI res) := by
  obtain ⟨res, h⟩ := jr_total _ (toB s) [] 0 (Nat.le_refl _)
  have hsz := toB_len s
  have h1 := tell_impl hs hN h N rfl (Nat.zero_le _) (by omega) (by rw [List.length_nil]; omega)
  obtain ⟨x, h2, h3⟩ := tell_spec hs hN h N rfl (Nat.zero_le _) (by omega) (by rw [List.length_nil]; omega)
  refine ⟨res, h, ?_, ?_⟩
  · unfold m_impl_JournalFrom
    rw [show ((0 : Nat) : Int) = 0 from rfl] at h1
    rw [h1]; rfl
  · unfold m_spec_JournalFrom
    rw [show ((0 : Nat) : Int) = 0 from rfl] at h2
    rw [h2, Option.bind_some]
    exact h3
theorem journal_impl {N : Nat} {s : Str} (hs : s.size ≤ 2000000) (hN : 3000000 < N) {res : List Event × Nat × Int} (h : Jr (toB s) [] 0 res) : m_impl_JournalFrom N s = some (jrI res) := by
  obtain ⟨r2, h1, h2, _⟩ := journal_both hs hN
  rw [h2, jr_det h h1]
end Go.Proofs.YtacecnffggffmaaDoor
