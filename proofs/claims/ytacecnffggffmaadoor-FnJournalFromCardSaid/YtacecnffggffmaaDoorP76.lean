/- Journals: lines one behind the other, and what such a text tells. -/
import Derived.Test.YtacecnffggffmaaDoorP74
import Derived.Test.YtacecnffggffmaaDoorP22
set_option linter.all false
namespace Go.Proofs.YtacecnffggffmaaDoor

/-! ## What a text of lines tells: the events, the place up to which they go, and why they end there -/

inductive Jr : Bs → List Event → Nat → List Event × Nat × Int → Prop
  | fine {t : Bs} {out : List Event} {k : Nat} (h : t = []) : Jr t out k (out, k, 0)
  | torn {t : Bs} {out : List Event} {k : Nat} (h : t ≠ []) (h2 : (10 : UInt8) ∉ t) : Jr t out k (out, k, 1)
  | bad {t l r : Bs} {out : List Event} {k : Nat} (e : t = l ++ 10 :: r) (h : (10 : UInt8) ∉ l) (h2 : ∀ d, ¬ isLine (ofB l) ((out.length : Int) + 1) d) : Jr t out k (out, k, 2)
  | step {t l r : Bs} {out : List Event} {k : Nat} {d : Event} {res : List Event × Nat × Int} (e : t = l ++ 10 :: r) (h : (10 : UInt8) ∉ l) (h2 : isLine (ofB l) ((out.length : Int) + 1) d) (h3 : Jr r (out ++ [d]) (k + (l.length + 1)) res) : Jr t out k res

theorem nl_one : ∀ {a b c d : Bs}, (10 : UInt8) ∉ a → (10 : UInt8) ∉ c → a ++ 10 :: b = c ++ 10 :: d → a = c ∧ b = d
  | [], b, [], d, _, _, e => by
    simp only [List.nil_append, List.cons.injEq, true_and] at e
    exact ⟨rfl, e⟩
  | [], b, y :: c, d, _, hc, e => by
    simp only [List.nil_append, List.cons_append, List.cons.injEq] at e
    exact absurd (by rw [e.1]; simp) hc
  | x :: a, b, [], d, ha, _, e => by
    simp only [List.nil_append, List.cons_append, List.cons.injEq] at e
    exact absurd (by rw [← e.1]; simp) ha
  | x :: a, b, y :: c, d, ha, hc, e => by
    simp only [List.cons_append, List.cons.injEq] at e
    have := nl_one (fun h => ha (by simp [h])) (fun h => hc (by simp [h])) e.2
    exact ⟨by rw [e.1, this.1], this.2⟩
theorem nl_in {t l r : Bs} (e : t = l ++ 10 :: r) : (10 : UInt8) ∈ t := by rw [e]; simp

theorem jr_det {t : Bs} {out : List Event} {k : Nat} {a : List Event × Nat × Int} (h : Jr t out k a) : ∀ {b}, Jr t out k b → a = b := by
  induction h with
  | fine h =>
    intro b g
    cases g with
    | fine _ => rfl
    | torn h2 _ => exact absurd h h2
    | bad e _ _ => exact absurd (nl_in e) (by simp [h])
    | step e _ _ _ => exact absurd (nl_in e) (by simp [h])
  | torn h h2 =>
    intro b g
    cases g with
    | fine h3 => exact absurd h3 h
    | torn _ _ => rfl
    | bad e _ _ => exact absurd (nl_in e) h2
    | step e _ _ _ => exact absurd (nl_in e) h2
  | bad e h h2 =>
    intro b g
    cases g with
    | fine h3 => exact absurd (nl_in e) (by simp [h3])
    | torn _ h4 => exact absurd (nl_in e) h4
    | bad _ _ _ => rfl
    | step e2 h3 h4 _ =>
      obtain ⟨rfl, rfl⟩ := nl_one h h3 (e.symm.trans e2)
      exact absurd h4 (h2 _)
  | step e h h2 _ ih =>
    intro b g
    cases g with
    | fine h3 => exact absurd (nl_in e) (by simp [h3])
    | torn _ h4 => exact absurd (nl_in e) h4
    | bad e2 h3 h4 =>
      obtain ⟨rfl, rfl⟩ := nl_one h h3 (e.symm.trans e2)
      exact absurd h2 (h4 _)
    | step e2 h3 h4 h5 =>
      obtain ⟨rfl, rfl⟩ := nl_one h h3 (e.symm.trans e2)
      obtain ⟨_, rfl⟩ := line_one h2 h4
      exact ih h5

/-! ## The text of events -/

def jB : Nat → List Event → Bs
  | _, [] => []
  | k, d :: l => lineB (k + 1) d.kind (toB d.name) ++ 10 :: jB (k + 1) l
def jOk : Nat → List Event → Prop
  | _, [] => True
  | k, d :: l => evOk ((k : Int) + 1) d ∧ jOk (k + 1) l

theorem dec_nl {n : Nat} : (10 : UInt8) ∉ Lib.decDigits n := fun h => absurd (dec_digits n _ h).1 (by decide)
theorem word_nl {k : Int} : (10 : UInt8) ∉ wordB k := by
  unfold wordB
  split
  · decide
  · split <;> decide
theorem name_nl {s : Str} (h : nameOk s = true) : (10 : UInt8) ∉ toB s := by
  intro hb
  unfold nameOk at h
  rw [Bool.and_eq_true, List.all_eq_true] at h
  exact absurd (h.2 _ hb) (by decide)
theorem line_nl {n : Nat} {k : Int} {s : Str} (h : nameOk s = true) : (10 : UInt8) ∉ lineB n k (toB s) := by
  have h1 := dec_nl (n := n)
  have h2 := word_nl (k := k)
  have h3 := name_nl h
  have h4 := dec_nl (n := checkB (headB n k (toB s)))
  unfold lineB
  simp only [joinW, List.mem_append, List.mem_cons, h1, h2, h3, h4, or_false, false_or]
  decide
theorem nat_line {k : Nat} {d : Event} {l : Bs} (h : isLine (ofB l) ((k : Int) + 1) d) : l = lineB (k + 1) d.kind (toB d.name) := by
  have := h.2
  rw [toB_ofB, show ((k : Int) + 1).toNat = k + 1 by omega] at this
  exact this
theorem line_of {k : Nat} {d : Event} (h : evOk ((k : Int) + 1) d) : isLine (ofB (lineB (k + 1) d.kind (toB d.name))) ((k : Int) + 1) d :=
  ⟨h, by rw [toB_ofB, show ((k : Int) + 1).toNat = k + 1 by omega]⟩

theorem jr_inv {t : Bs} {out : List Event} {k : Nat} {res : List Event × Nat × Int} (h : Jr t out k res) : ∃ l rest, res.1 = out ++ l ∧ t = jB out.length l ++ rest ∧ res.2.1 = k + (jB out.length l).length ∧ (res.2.2 = 0 ↔ rest = []) ∧ jOk out.length l := by
  induction h with
  | fine h => exact ⟨[], [], by simp, by simp [jB, h], by simp [jB], by simp, trivial⟩
  | @torn t out k h h2 => exact ⟨[], t, by simp, by simp [jB], by simp [jB], by simp [h], trivial⟩
  | @bad t l r out k e h h2 => exact ⟨[], t, by simp, by simp [jB], by simp [jB], by simp [e], trivial⟩
  | @step t l r out k d res e h h2 h3 ih =>
    obtain ⟨l2, rest, g1, g2, g3, g4, g5⟩ := ih
    rw [List.length_append, List.length_singleton] at g2 g3 g5
    have hl := nat_line h2
    refine ⟨d :: l2, rest, ?_, ?_, ?_, g4, h2.1, g5⟩
    · rw [g1]; simp
    · rw [e, hl, g2]; simp [jB]
    · rw [g3, hl]; simp only [jB, List.length_append, List.length_cons]; omega

theorem jr_list : ∀ (l : List Event) {out : List Event} {k : Nat} {rest : Bs} {res : List Event × Nat × Int}, jOk out.length l → Jr rest (out ++ l) (k + (jB out.length l).length) res → Jr (jB out.length l ++ rest) out k res
  | [], out, k, rest, res, _, h => by simpa [jB] using h
  | d :: l, out, k, rest, res, hk, h => by
    refine Jr.step (l := lineB (out.length + 1) d.kind (toB d.name)) (r := jB (out.length + 1) l ++ rest) (d := d) (by simp [jB]) (line_nl hk.1.2.2.2.2) (line_of hk.1) ?_
    have hlen : (out ++ [d]).length = out.length + 1 := by simp
    have := jr_list l (out := out ++ [d]) (k := k + ((lineB (out.length + 1) d.kind (toB d.name)).length + 1)) (rest := rest) (res := res) (by rw [hlen]; exact hk.2) (by
      rw [hlen]
      simp only [jB, List.length_append, List.length_cons] at h
      rw [List.append_assoc, List.singleton_append, show k + ((lineB (out.length + 1) d.kind (toB d.name)).length + 1) + (jB (out.length + 1) l).length = k + ((lineB (out.length + 1) d.kind (toB d.name)).length + ((jB (out.length + 1) l).length + 1)) by omega]
      exact h)
    rw [hlen] at this
    exact this

theorem jB_append : ∀ (l m : List Event) (k : Nat), jB k (l ++ m) = jB k l ++ jB (k + l.length) m
  | [], m, k => by simp [jB]
  | d :: l, m, k => by
    simp only [List.cons_append, jB, jB_append l m (k + 1), List.append_assoc, List.length_cons]
    rw [show k + 1 + l.length = k + (l.length + 1) by omega]
theorem jOk_append : ∀ {l m : List Event} {k : Nat}, jOk k (l ++ m) ↔ jOk k l ∧ jOk (k + l.length) m
  | [], m, k => by simp [jOk]
  | d :: l, m, k => by
    simp only [List.cons_append, jOk, jOk_append (l := l), List.length_cons, and_assoc]
    rw [show k + 1 + l.length = k + (l.length + 1) by omega]

/-! ## Valid events -/

def evB (d : Event) : Bool := leb 1 d.kind && (leb d.kind 3 && nameOk d.name)
theorem evB_true {d : Event} : evB d = true ↔ 1 ≤ d.kind ∧ d.kind ≤ 3 ∧ nameOk d.name = true := by
  unfold evB
  rw [Bool.and_eq_true, Bool.and_eq_true, leb_true, leb_true]
def evsOk (l : List Event) : Bool := l.all evB && decide (l.length ≤ 20)
theorem jOk_iff : ∀ {l : List Event} {k : Nat}, jOk k l ↔ (∀ d ∈ l, evB d = true) ∧ (l = [] ∨ k + l.length ≤ 20)
  | [], k => by simp [jOk]
  | d :: l, k => by
    rw [jOk, jOk_iff]
    unfold evOk
    constructor
    · rintro ⟨⟨_, h1, h2⟩, h3, h4⟩
      refine ⟨fun x hx => ?_, .inr ?_⟩
      · rcases List.mem_cons.1 hx with rfl | hx
        · exact evB_true.2 h2
        · exact h3 x hx
      · rw [List.length_cons]
        rcases h4 with rfl | h4
        · simp only [List.length_nil]; omega
        · omega
    · rintro ⟨h1, h2⟩
      have h3 : k + (l.length + 1) ≤ 20 := by simpa using h2
      refine ⟨⟨by omega, by omega, evB_true.1 (h1 d (by simp))⟩, fun x hx => h1 x (by simp [hx]), ?_⟩
      exact .inr (by omega)
theorem evsOk_jOk {l : List Event} : evsOk l = true ↔ jOk 0 l := by
  rw [jOk_iff, evsOk, Bool.and_eq_true, List.all_eq_true, decide_eq_true_eq]
  constructor
  · rintro ⟨h1, h2⟩; exact ⟨h1, .inr (by omega)⟩
  · rintro ⟨h1, h2⟩
    refine ⟨h1, ?_⟩
    rcases h2 with rfl | h2
    · simp
    · omega
def jT (l : List Event) : Str := if evsOk l = true then ofB (jB 0 l) else ⟨#[]⟩
theorem dec_len3 {n : Nat} (h : n < 1000) : (Lib.decDigits n).length ≤ 3 := by
  by_cases h1 : n < 10
  · rw [Lib.decDigits, dif_pos h1]; simp
  · rw [Lib.decDigits, dif_neg h1, List.length_append, List.length_singleton]
    by_cases h2 : n / 10 < 10
    · rw [Lib.decDigits, dif_pos h2]; simp
    · rw [Lib.decDigits, dif_neg h2, List.length_append, List.length_singleton, Lib.decDigits, dif_pos (by omega)]; simp
theorem line_len {n : Nat} {k : Int} {s : Str} (hn : n ≤ 20) (h : nameOk s = true) : (lineB n k (toB s)).length ≤ 49 := by
  have hh := head_len (n := n) hn k (toB s)
  have hl := toB_len s
  have hsz := nameOk_size h
  have hc := check_lt (headB n k (toB s))
  have hcl := dec_len3 (n := checkB (headB n k (toB s))) (by omega)
  rw [line_head, List.length_append, List.length_cons]
  omega
theorem jB_len : ∀ {l : List Event} {k : Nat}, jOk k l → (jB k l).length ≤ 50 * l.length
  | [], _, _ => by simp [jB]
  | d :: l, k, h => by
    have h1 := line_len (n := k + 1) (k := d.kind) (s := d.name) (by have := h.1.2.1; omega) h.1.2.2.2.2
    have h2 := jB_len h.2
    simp only [jB, List.length_append, List.length_cons]
    omega

/-! ## The five laws, of texts -/

/-- A journal has its events. -/
theorem jr_all {l : List Event} (h : jOk 0 l) : Jr (jB 0 l) [] 0 (l, (jB 0 l).length, 0) := by
  have := jr_list l (out := []) (k := 0) (rest := []) (res := (l, (jB 0 l).length, 0)) h (by
    rw [List.nil_append, List.length_nil, Nat.zero_add]
    exact Jr.fine rfl)
  rw [List.length_nil, List.append_nil] at this
  exact this
/-- A torn journal loses its last line alone. -/
theorem jr_torn {l : List Event} (h : jOk 0 l) (hne : l ≠ []) : ∃ n, Jr (jB 0 l).dropLast [] 0 (l.dropLast, n, 1) := by
  obtain ⟨m, d, rfl⟩ : ∃ m d, l = m ++ [d] := ⟨l.dropLast, l.getLast hne, (List.dropLast_concat_getLast hne).symm⟩
  obtain ⟨h1, h2⟩ := jOk_append.1 h
  rw [Nat.zero_add] at h2
  have e : (jB 0 (m ++ [d])).dropLast = jB 0 m ++ lineB (m.length + 1) d.kind (toB d.name) := by
    rw [jB_append, Nat.zero_add, show jB m.length [d] = lineB (m.length + 1) d.kind (toB d.name) ++ [10] from rfl, ← List.append_assoc, List.dropLast_concat]
  refine ⟨(jB 0 m).length, ?_⟩
  rw [e, List.dropLast_concat]
  have := jr_list m (out := []) (k := 0) (rest := lineB (m.length + 1) d.kind (toB d.name)) (res := (m, (jB 0 m).length, 1)) h1 (by
    rw [List.nil_append, List.length_nil, Nat.zero_add]
    refine Jr.torn (fun hz => ?_) (line_nl h2.1.2.2.2.2)
    exact line_ne (line_of h2.1) (by rw [hz]; rfl))
  rw [List.length_nil] at this
  exact this
/-- The first bytes are the events. -/
theorem jr_first {t : Bs} {res : List Event × Nat × Int} (h : Jr t [] 0 res) : jOk 0 res.1 ∧ t.take res.2.1 = jB 0 res.1 ∧ res.2.1 ≤ t.length ∧ (res.2.2 = 0 ↔ res.2.1 = t.length) := by
  obtain ⟨l, rest, h1, h2, h3, h4, h5⟩ := jr_inv h
  rw [List.nil_append] at h1
  rw [List.length_nil] at h2 h3 h5
  rw [Nat.zero_add] at h3
  rw [h1, h3, h2, List.take_left, List.length_append]
  refine ⟨h5, rfl, by omega, h4.trans ?_⟩
  rw [← List.length_eq_zero_iff]
  omega
/-- A journal can go on. -/
theorem jr_on {t : Bs} {res : List Event × Nat × Int} {d : Event} (h : Jr t [] 0 res) (h0 : res.2.2 = 0) (hd : evOk ((res.1.length : Int) + 1) d) : Jr (t ++ (lineB (res.1.length + 1) d.kind (toB d.name) ++ [10])) [] 0 (res.1 ++ [d], res.2.1 + ((lineB (res.1.length + 1) d.kind (toB d.name)).length + 1), 0) := by
  obtain ⟨h1, h2, h3, h4⟩ := jr_first h
  have e := h4.1 h0
  rw [e, List.take_length] at h2
  have hk : jOk 0 (res.1 ++ [d]) := jOk_append.2 ⟨h1, by rw [Nat.zero_add]; exact ⟨hd, trivial⟩⟩
  have := jr_all hk
  rw [jB_append, Nat.zero_add, show jB res.1.length [d] = lineB (res.1.length + 1) d.kind (toB d.name) ++ [10] from rfl, ← h2, List.length_append, List.length_append, List.length_singleton] at this
  rw [e]
  exact this
end Go.Proofs.YtacecnffggffmaaDoor
