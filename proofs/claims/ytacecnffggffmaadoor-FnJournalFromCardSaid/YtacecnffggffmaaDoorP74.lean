/- Lines of events: both programs tell them again alike. -/
import Derived.Test.YtacecnffggffmaaDoorP73
set_option linter.all false
namespace Go.Proofs.YtacecnffggffmaaDoor

def isLine (s : Str) (n : Int) (e : Event) : Prop := evOk n e ∧ toB s = lineB n.toNat e.kind (toB e.name)

theorem name_blank {s : Str} (h : nameOk s = true) : ∀ b ∈ toB s, b ≠ 32 := by
  intro b hb e
  subst e
  unfold nameOk at h
  rw [Bool.and_eq_true, List.all_eq_true] at h
  exact absurd (h.2 _ hb) (by decide)
theorem line_words {s : Str} {n : Int} {e : Event} (h : isLine s n e) : splitW (toB s) = [Lib.decDigits n.toNat, wordB e.kind, toB e.name, Lib.decDigits (checkB (headB n.toNat e.kind (toB e.name)))] := by
  rw [h.2]
  exact split_line (name_blank h.1.2.2.2.2)
theorem line_one {s : Str} {n m : Int} {e d : Event} (h : isLine s n e) (k : isLine s m d) : n = m ∧ e = d := by
  have e1 := (line_words h).symm.trans (line_words k)
  simp only [List.cons.injEq] at e1
  obtain ⟨a1, a2, a3, a4⟩ := e1
  refine ⟨dec_inj h.1.1 h.1.2.1 k.1.1 k.1.2.1 a1, ?_⟩
  have b1 := word_inj h.1.2.2.1 h.1.2.2.2.1 k.1.2.2.1 k.1.2.2.2.1 a2
  have b2 := toB_inj a3
  cases e; cases d
  simp only at b1 b2
  rw [b1, b2]
theorem evT_line {s : Str} {n : Int} {e : Event} (h : isLine s n e) : evT n e = s := by
  unfold evT
  rw [if_pos h.1, ← h.2, ofB_toB]
theorem line_ne {s : Str} {n : Int} {e : Event} (h : isLine s n e) : s ≠ ⟨#[]⟩ := fun hs => by
  have e1 := line_words h
  rw [hs] at e1
  exact absurd (congrArg List.length e1) (by simp [toB, splitW])
theorem line_evT {s : Str} {n : Int} {e : Event} (h : evT n e = s) (hs : s ≠ ⟨#[]⟩) : isLine s n e := by
  unfold evT at h
  by_cases hk : evOk n e
  · rw [if_pos hk] at h
    exact ⟨hk, by rw [← h, toB_ofB]⟩
  · rw [if_neg hk] at h
    exact absurd h.symm hs

def hitB (s : Str) (x : Int) (w : Str) (k : Int) : Bool := decide (evT x ⟨k, w⟩ = s ∧ s ≠ ⟨#[]⟩)
theorem hitB_line {s : Str} {x : Int} {w : Str} {k : Int} : hitB s x w k = true ↔ isLine s x ⟨k, w⟩ := by
  unfold hitB
  rw [decide_eq_true_eq]
  exact ⟨fun h => line_evT h.1 h.2, fun h => ⟨evT_line h, line_ne h⟩⟩

theorem step_impl {N : Nat} (hN : 3000000 < N) {s : Str} {ws : List Str} {x : Int × Bool} {w1 w2 : Str} (h1 : ws[1]? = some w1) (h2 : ws[2]? = some w2) (hsz : w2.size ≤ 2000000) {k : Nat} (hk1 : 1 ≤ k) (hk3 : k ≤ 3) (hw : isLine s x.1 ⟨(k : Int), w2⟩ → w1 = ofB (wordB (k : Int))) (n : Nat) :
    m_impl_EventFrom_L14 N s ws x (n + 1) k = bif hitB s x.1 w2 (k : Int) then some (.ret (x.1, ⟨(k : Int), w2⟩, true)) else m_impl_EventFrom_L14 N s ws x n (k + 1) := by
  have ek : evWords[k]? = some (ofB (wordB (k : Int))) := by
    have := word_at (k := (k : Int)) (by omega) (by omega)
    rw [geti_nat] at this
    exact this
  simp only [m_impl_EventFrom_L14]
  rw [leb_true.2 (by omega), cond_true, h2, Option.bind_some, ek, Option.bind_some, h1, Option.bind_some, e_impl_EventText hsz hN, Option.bind_some]
  by_cases hh : isLine s x.1 ⟨(k : Int), w2⟩
  · rw [hitB_line.2 hh, cond_true, hw hh, seq_self, cond_true, seq_false.2 (line_ne hh), Bool.not_false, cond_true, evT_line hh, seq_self, cond_true]
  · have hb : hitB s x.1 w2 (k : Int) = false := by rw [← Bool.not_eq_true, hitB_line]; exact hh
    rw [hb, cond_false]
    cases h3 : seq (ofB (wordB (k : Int))) w1 with
    | false => rfl
    | true =>
      rw [cond_true]
      cases h4 : seq s (⟨#[]⟩ : Str) with
      | true => rfl
      | false =>
        rw [Bool.not_false, cond_true]
        cases h5 : seq (evT x.1 ⟨(k : Int), w2⟩) s with
        | false => rfl
        | true => exact absurd (line_evT (seq_iff.1 h5) (seq_false.1 h4)) hh
theorem step_spec {N : Nat} (hN : 3000000 < N) {s : Str} {ws : List Str} {x : Int} {w2 : Str} (h2 : ws[2]? = some w2) (hsz : w2.size ≤ 2000000) {k : Nat} (hk1 : 1 ≤ k) (hk3 : k ≤ 3) (n : Nat) :
    m_spec_EventFrom_L10 N s ws x (n + 1) k = bif hitB s x w2 (k : Int) then some (.ret (x, ⟨(k : Int), w2⟩, true)) else m_spec_EventFrom_L10 N s ws x n (k + 1) := by
  simp only [m_spec_EventFrom_L10]
  rw [leb_true.2 (by omega), cond_true, h2, Option.bind_some, e_spec_EventText hsz hN, Option.bind_some]
  by_cases hh : isLine s x ⟨(k : Int), w2⟩
  · rw [hitB_line.2 hh, cond_true, evT_line hh, seq_self, cond_true, seq_false.2 (line_ne hh), Bool.not_false, cond_true]
  · have hb : hitB s x w2 (k : Int) = false := by rw [← Bool.not_eq_true, hitB_line]; exact hh
    rw [hb, cond_false]
    cases h5 : seq (evT x ⟨(k : Int), w2⟩) s with
    | false => rfl
    | true =>
      rw [cond_true]
      cases h4 : seq s (⟨#[]⟩ : Str) with
      | true => rfl
      | false => exact absurd (line_evT (seq_iff.1 h5) (seq_false.1 h4)) hh

abbrev pickX (s : Str) (x : Int) (w : Str) : Ex Nat (Int × Event × Bool) := bif hitB s x w 1 then .ret (x, ⟨1, w⟩, true) else bif hitB s x w 2 then .ret (x, ⟨2, w⟩, true) else bif hitB s x w 3 then .ret (x, ⟨3, w⟩, true) else .brk 4
theorem loop_impl {N : Nat} (hN : 3000000 < N) {s : Str} {ws : List Str} {x : Int × Bool} {w1 w2 : Str} (h1 : ws[1]? = some w1) (h2 : ws[2]? = some w2) (hsz : w2.size ≤ 2000000) (hw : ∀ k, isLine s x.1 ⟨k, w2⟩ → w1 = ofB (wordB k)) :
    m_impl_EventFrom_L14 N s ws x N 1 = some (pickX s x.1 w2) := by
  obtain ⟨M, hM⟩ : ∃ M, N = M + 1 + 1 + 1 + 1 := ⟨N - 4, by omega⟩
  have go : m_impl_EventFrom_L14 N s ws x (M + 1 + 1 + 1 + 1) 1 = some (pickX s x.1 w2) := by
    rw [step_impl hN h1 h2 hsz (k := 1) (by omega) (by omega) (hw _), step_impl hN h1 h2 hsz (k := 1 + 1) (by omega) (by omega) (hw _), step_impl hN h1 h2 hsz (k := 1 + 1 + 1) (by omega) (by omega) (hw _)]
    have e4 : m_impl_EventFrom_L14 N s ws x (M + 1) (1 + 1 + 1 + 1) = some (.brk 4) := by
      simp only [m_impl_EventFrom_L14]
      rw [leb_false.2 (by omega)]; rfl
    rw [e4]
    unfold pickX
    cases hitB s x.1 w2 1 <;> cases hitB s x.1 w2 2 <;> cases hitB s x.1 w2 3 <;> rfl
  rw [← hM] at go
  exact go
theorem loop_spec {N : Nat} (hN : 3000000 < N) {s : Str} {ws : List Str} {x : Int} {w2 : Str} (h2 : ws[2]? = some w2) (hsz : w2.size ≤ 2000000) :
    m_spec_EventFrom_L10 N s ws x N 1 = some (pickX s x w2) := by
  obtain ⟨M, hM⟩ : ∃ M, N = M + 1 + 1 + 1 + 1 := ⟨N - 4, by omega⟩
  have go : m_spec_EventFrom_L10 N s ws x (M + 1 + 1 + 1 + 1) 1 = some (pickX s x w2) := by
    rw [step_spec hN h2 hsz (k := 1) (by omega) (by omega), step_spec hN h2 hsz (k := 1 + 1) (by omega) (by omega), step_spec hN h2 hsz (k := 1 + 1 + 1) (by omega) (by omega)]
    have e4 : m_spec_EventFrom_L10 N s ws x (M + 1) (1 + 1 + 1 + 1) = some (.brk 4) := by
      simp only [m_spec_EventFrom_L10]
      rw [leb_false.2 (by omega)]; rfl
    rw [e4]
    unfold pickX
    cases hitB s x w2 1 <;> cases hitB s x w2 2 <;> cases hitB s x w2 3 <;> rfl
  rw [← hM] at go
  exact go
theorem pick_line {s : Str} {n : Int} {e : Event} (h : isLine s n e) : pickX s n e.name = .ret (n, e, true) := by
  have hit : ∀ k : Int, hitB s n e.name k = decide (k = e.kind) := fun k => by
    rw [Bool.eq_iff_iff, hitB_line, decide_eq_true_eq]
    constructor
    · intro hk
      exact (congrArg Event.kind (line_one hk h).2 :)
    · rintro rfl
      exact h
  unfold pickX
  rw [hit, hit, hit]
  obtain ⟨k, w⟩ := e
  have h1 := h.1.2.2.1
  have h3 := h.1.2.2.2.1
  simp only at h1 h3 ⊢
  rcases (show k = 1 ∨ k = 2 ∨ k = 3 by omega) with rfl | rfl | rfl <;> rfl
theorem pick_none {s : Str} {x : Int} {w : Str} (h : ∀ n e, ¬ isLine s n e) : pickX s x w = .brk 4 := by
  have hit : ∀ k : Int, hitB s x w k = false := fun k => by rw [← Bool.not_eq_true, hitB_line]; exact h _ _
  unfold pickX
  rw [hit, hit, hit]; rfl

theorem word_len : ∀ (l : Bs), ∀ w ∈ splitW l, w.length ≤ l.length
  | [], w, h => by simp [splitW] at h; subst h; simp
  | x :: t, w, h => by
    have ih := word_len t
    rw [splitW_eq] at h
    split at h
    · rcases List.mem_cons.1 h with rfl | h
      · simp
      · have := ih w h; simp only [List.length_cons]; omega
    · cases hs : splitW t with
      | nil => exact absurd hs (splitW_ne t)
      | cons v r =>
        rw [hs] at h ih
        simp only at h
        rcases List.mem_cons.1 h with rfl | h
        · have := ih v (by simp); simp only [List.length_cons]; omega
        · have := ih w (by simp [h]); simp only [List.length_cons]; omega
theorem e_Number {N : Nat} {s : Str} (hs : s.size ≤ 2000000) (hN : 3000000 < N) : ∃ x, m_spec_l5Number N s = some x := by
  unfold m_spec_l5Number
  rw [ssz_ok (by omega), Option.bind_some, e_spec_l6In, Option.bind_some]
  cases (leb 1 ((s.size : Nat) : Int) && leb ((s.size : Nat) : Int) 4) with
  | false => exact ⟨_, rfl⟩
  | true =>
    rw [Bool.not_true, cond_false, loop0 (fun n (c : Int) k => m_spec_l5Number_L8 N s n c k) s.data.toList (fun _ x c => bif ltb ((x.toNat : Nat) : Int) 48 then .inl (-1) else bif ltb 57 ((x.toNat : Nat) : Int) then .inl (-1) else .inr (w64 ((w64 (10 * c)) + (u8w (((x.toNat : Nat) : Int) - 48))))) (fun k c => (c, k)) N (by rw [size_toList]; omega) ?_ ?_ 0]
    · rw [Option.bind_some]
      generalize goL _ _ _ _ _ = g
      cases g with
      | brk b => exact ⟨_, rfl⟩
      | ret r => exact ⟨_, rfl⟩
    · rintro n c k rfl
      simp only [m_spec_l5Number_L8]
      rw [ltb_false.2 (by rw [size_toList]; omega)]; rfl
    · intro n c k hk
      have hk' : k < s.size := by rw [← size_toList]; exact hk
      simp only [m_spec_l5Number_L8]
      rw [ltb_true.2 (by omega), cond_true, bget_ok hk', Option.bind_some, Option.bind_some, Option.bind_some, getElem_toList s k hk']
      cases ltb (((s[k]'hk').toNat : Nat) : Int) 48 with
      | true => rfl
      | false =>
        cases ltb 57 (((s[k]'hk').toNat : Nat) : Int) with
        | true => rfl
        | false => rfl
theorem e_Atoi {N : Nat} {s : Str} (hs : s.size ≤ 2000000) : ∃ x, m_strconv_Atoi N s = some x := by
  unfold m_strconv_Atoi
  rw [if_pos (by omega)]
  generalize Lib.atoiAll s.data.toList = a
  rcases a with v | _ | _
  · exact ⟨_, rfl⟩
  · exact ⟨_, rfl⟩
  · exact ⟨_, rfl⟩

abbrev noLine : Int × Event × Bool := (0, ⟨0, ⟨#[]⟩⟩, false)
theorem from_line {N : Nat} {s : Str} {n : Int} {e : Event} (hs : s.size ≤ 2000000) (hN : 3000000 < N) (h : isLine s n e) : m_impl_EventFrom N s = some (n, e, true) ∧ m_spec_EventFrom N s = some (n, e, true) := by
  have hw := line_words h
  have hn := (nameOk_size h.1.2.2.2.2).2
  have m2 : ((splitW (toB s)).map ofB)[2]? = some e.name := by rw [hw]; simp only [List.map_cons, List.getElem?_cons_succ, List.getElem?_cons_zero, ofB_toB]
  constructor
  · unfold m_impl_EventFrom
    rw [e_Split hs, Option.bind_some]
    rw [show eqb ((((splitW (toB s)).map ofB).length : Nat) : Int) 4 = true from eqb_true.2 (by rw [hw]; rfl), Bool.not_true, cond_false]
    rw [show ((splitW (toB s)).map ofB)[0]? = some (ofB (Lib.decDigits n.toNat)) by rw [hw]; rfl, Option.bind_some, atoi_dec h.1.1 h.1.2.1, Option.bind_some, Bool.not_true, cond_false]
    rw [loop_impl hN (w1 := ofB (wordB e.kind)) (w2 := e.name) (x := (n, true)) (by rw [hw]; rfl) m2 (by omega) (fun k hk => by rw [← (congrArg Event.kind (line_one hk h).2 :)]), Option.bind_some, pick_line h]
    rfl
  · unfold m_spec_EventFrom
    rw [e_Cut hs (by omega), Option.bind_some]
    rw [show eqb ((((splitW (toB s)).map ofB).length : Nat) : Int) 4 = true from eqb_true.2 (by rw [hw]; rfl), Bool.not_true, cond_false]
    rw [show ((splitW (toB s)).map ofB)[0]? = some (ofB (Lib.decDigits n.toNat)) by rw [hw]; rfl, Option.bind_some, num_dec h.1.1 h.1.2.1 (by omega), Option.bind_some]
    rw [loop_spec hN (w2 := e.name) m2 (by omega), Option.bind_some, pick_line h]
    rfl
theorem from_none {N : Nat} {s : Str} (hs : s.size ≤ 2000000) (hN : 3000000 < N) (h : ∀ n e, ¬ isLine s n e) : m_impl_EventFrom N s = some noLine ∧ m_spec_EventFrom N s = some noLine := by
  have hlen : ∀ w ∈ (splitW (toB s)).map ofB, w.size ≤ 2000000 := fun w hw => by
    obtain ⟨v, hv, rfl⟩ := List.mem_map.1 hw
    have := word_len _ v hv
    rw [toB_len] at this
    rw [ofB_size]; omega
  unfold m_impl_EventFrom m_spec_EventFrom
  rw [e_Split hs, Option.bind_some, e_Cut hs (by omega), Option.bind_some]
  generalize (splitW (toB s)).map ofB = ws at hlen
  by_cases h4 : ws.length = 4
  · match ws, h4 with
    | [w0, w1, w2, w3], _ =>
      have b0 := hlen w0 (by simp)
      have b2 := hlen w2 (by simp)
      obtain ⟨x, hx⟩ := e_Atoi (N := N) b0
      obtain ⟨y, hy⟩ := e_Number b0 hN
      constructor
      · rw [show eqb ((([w0, w1, w2, w3] : List Str).length : Nat) : Int) 4 = true from eqb_true.2 rfl, Bool.not_true, cond_false, show ([w0, w1, w2, w3] : List Str)[0]? = some w0 from rfl, Option.bind_some, hx, Option.bind_some]
        cases x.2 with
        | false => rfl
        | true =>
          rw [Bool.not_true, cond_false, loop_impl hN (w1 := w1) (w2 := w2) rfl rfl b2 (fun k hk => absurd hk (h _ _)), Option.bind_some, pick_none h]
          rfl
      · rw [show eqb ((([w0, w1, w2, w3] : List Str).length : Nat) : Int) 4 = true from eqb_true.2 rfl, Bool.not_true, cond_false, show ([w0, w1, w2, w3] : List Str)[0]? = some w0 from rfl, Option.bind_some, hy, Option.bind_some]
        rw [loop_spec hN (w2 := w2) rfl b2, Option.bind_some, pick_none h]
        rfl
  · have e4 : eqb ((ws.length : Nat) : Int) 4 = false := eqb_false.2 (by omega)
    rw [e4, Bool.not_false, cond_true, cond_true]
    exact ⟨rfl, rfl⟩
theorem from_both {N : Nat} {s : Str} (hs : s.size ≤ 2000000) (hN : 3000000 < N) : ∃ r, m_impl_EventFrom N s = some r ∧ m_spec_EventFrom N s = some r ∧ (r = noLine ∧ (∀ n e, ¬ isLine s n e) ∨ ∃ n e, r = (n, e, true) ∧ isLine s n e) := by
  by_cases h : ∃ n e, isLine s n e
  · obtain ⟨n, e, h⟩ := h
    have := from_line hs hN h
    exact ⟨_, this.1, this.2, .inr ⟨n, e, rfl, h⟩⟩
  · have h' : ∀ n e, ¬ isLine s n e := fun n e hn => h ⟨n, e, hn⟩
    have := from_none hs hN h'
    exact ⟨_, this.1, this.2, .inl ⟨rfl, h'⟩⟩
end Go.Proofs.YtacecnffggffmaaDoor
