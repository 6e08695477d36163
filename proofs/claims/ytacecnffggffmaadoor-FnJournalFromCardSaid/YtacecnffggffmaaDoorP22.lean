/- Marks: what was marked is held. -/
import Derived.Test.YtacecnffggffmaaDoorP5
set_option linter.all false
namespace Go.Proofs.YtacecnffggffmaaDoor

/-! ## The text of a mark -/

theorem cat_ok {a b : Str} (h : a.size + b.size ≤ 1000) : cat a b = some (a ++ b) := if_pos (by omega)

theorem bstr_size (x : Int) : (bstr [x]).size = 1 := rfl

theorem markT_loop {N : Nat} : ∀ (m n : Nat) (k : Int) (s : Str), k < (10 : Int) ^ m → m < n → 0 ≤ k → k ≤ 4611686018427387904 → s.size + m ≤ 100 → ∃ k' s', m_laws_markText_L7 N n k s = some (.brk (k', s')) ∧ s'.size ≤ s.size + m
  | 0, n, k, s, hk, hn, h0, h1, hs => by
    obtain ⟨n, rfl⟩ : ∃ n', n = n' + 1 := ⟨n - 1, by omega⟩
    simp only [m_laws_markText_L7]
    have : k < 1 := by simpa using hk
    rw [ltb_false.2 (by omega)]
    exact ⟨k, s, rfl, by omega⟩
  | m + 1, n, k, s, hk, hn, h0, h1, hs => by
    obtain ⟨n, rfl⟩ : ∃ n', n = n' + 1 := ⟨n - 1, by omega⟩
    simp only [m_laws_markText_L7]
    cases ltb 0 k with
    | false => exact ⟨k, s, rfl, by omega⟩
    | true =>
      have hsz := bstr_size (u8w (w64 (48 + (Int.tmod k 10))))
      simp only [cond_true]
      rw [cat_ok (by rw [hsz]; omega), Option.bind_some]
      have hd : Int.tdiv k 10 = k / 10 := Int.tdiv_eq_ediv_of_nonneg h0
      have hp : (10 : Int) ^ (m + 1) = 10 ^ m * 10 := Int.pow_succ _ _
      rw [hp] at hk
      have hlt : k / 10 < 10 ^ m := Int.ediv_lt_of_lt_mul (by omega) hk
      rw [hd, w64_id (by omega)]
      obtain ⟨k', s', g1, g2⟩ := markT_loop m n (k / 10) (bstr [u8w (w64 (48 + (Int.tmod k 10)))] ++ s) hlt (by omega) (by omega) (by omega) (by rw [ByteArray.size_append, hsz]; omega)
      refine ⟨k', s', g1, ?_⟩
      rw [ByteArray.size_append, hsz] at g2
      omega

theorem e_markText {N : Nat} {k : Int} (hN : 100 < N) (h0 : 0 ≤ k) (h1 : k ≤ 4000000000000000000) : ∃ t, m_laws_markText N k = some t := by
  unfold m_laws_markText
  cases leb k 0 with
  | true => exact ⟨_, rfl⟩
  | false =>
    simp only [cond_false]
    obtain ⟨k', s', g1, g2⟩ := markT_loop (N := N) 19 N k ⟨#[]⟩ (by have : (10 : Int) ^ 19 = 10000000000000000000 := by decide
                                                                    omega) (by omega) h0 (by omega) (by decide)
    rw [g1]
    simp only [Option.bind_some, Ex.go]
    have h3 : (⟨#[]⟩ : Str).size = 0 := rfl
    have h4 : (⟨#[109]⟩ : Str).size = 1 := rfl
    rw [cat_ok (by omega)]
    exact ⟨_, rfl⟩

/-! ## Marked lists -/

def mkAll {α : Type} (step : α → Int → α × Int) : List α → Int → List α × Int
  | [], k => ([], k)
  | x :: t, k => ((step x k).1 :: (mkAll step t (step x k).2).1, (mkAll step t (step x k).2).2)

theorem mkAll_len {α : Type} (step : α → Int → α × Int) : ∀ (l : List α) (k : Int), (mkAll step l k).1.length = l.length
  | [], _ => rfl
  | x :: t, k => by simp [mkAll, mkAll_len step t]

theorem mkAll_le {α : Type} {step : α → Int → α × Int} {c : α → Nat} (hc : ∀ x k, k ≤ (step x k).2 ∧ (step x k).2 ≤ k + c x) : ∀ (l : List α) (k : Int), k ≤ (mkAll step l k).2 ∧ (mkAll step l k).2 ≤ k + wsum c l
  | [], k => by simp [mkAll, wsum]
  | x :: t, k => by
    have h1 := hc x k
    have h2 := mkAll_le hc t (step x k).2
    simp only [mkAll, wsum, List.map_cons, List.sum_cons] at h2 ⊢
    omega

/-- Elements are marked one after the other. -/
theorem mark_list {α R : Type} (step : α → Int → α × Int) (c : α → Nat) (B : Int) (F : Nat → List α → Int → Nat → Option (Ex (List α × Int × Nat) R)) (l : List α) (N : Nat) (hN : l.length < N) (k : Int) (hk : 0 ≤ k) (hB : k + wsum c l ≤ B)
    (hc : ∀ x k, k ≤ (step x k).2 ∧ (step x k).2 ≤ k + c x)
    (hn : ∀ n s k i, i = l.length → F (n + 1) s k i = some (.brk (s, k, i)))
    (hF : ∀ n s k i x, (h : i < l.length) → s.length = l.length → s[i]? = some x → x = l[i] → 0 ≤ k → k + c x ≤ B → F (n + 1) s k i = F n (s.set i (step x k).1) (step x k).2 (i + 1)) :
    F N l k 0 = some (.brk ((mkAll step l k).1, (mkAll step l k).2, l.length)) := by
  have key : ∀ (t p q : List α) (n : Nat) (k : Int), l = p ++ t → q.length = p.length → t.length < n → 0 ≤ k → k + wsum c t ≤ B → F n (q ++ t) k p.length = some (.brk (q ++ (mkAll step t k).1, (mkAll step t k).2, l.length)) := by
    intro t
    induction t with
    | nil =>
      intro p q n k hl hq hn' hk hB
      obtain ⟨n, rfl⟩ : ∃ n', n = n' + 1 := ⟨n - 1, by omega⟩
      simp only [List.append_nil] at hl
      rw [hn n _ _ _ (by rw [hl]), hl]
      simp [mkAll]
    | cons x t ih =>
      intro p q n k hl hq hn' hk hB
      simp only [List.length_cons] at hn'
      obtain ⟨n, rfl⟩ : ∃ n', n = n' + 1 := ⟨n - 1, by omega⟩
      simp only [wsum, List.map_cons, List.sum_cons] at hB
      have h1 := hc x k
      rw [hF n (q ++ x :: t) k p.length x (by rw [hl]; simp) (by rw [hl]; simp [hq]) (by rw [List.getElem?_append_right (by omega), hq, Nat.sub_self]; rfl) (by simp [hl]) hk (by omega)]
      have e : (q ++ x :: t).set p.length (step x k).1 = (q ++ [(step x k).1]) ++ t := by
        rw [List.set_append_right _ _ (by omega), hq, Nat.sub_self]
        simp
      rw [e, show p.length + 1 = (p ++ [x]).length by simp]
      rw [ih (p ++ [x]) (q ++ [(step x k).1]) n (step x k).2 (by simp [hl]) (by simp [hq]) (by omega) (by omega) (by unfold wsum; omega)]
      simp [mkAll]
  have := key l [] [] N k rfl rfl hN hk hB
  simpa using this

/-- What was marked is held. -/
theorem held_list {α R : Type} (step : α → Int → α × Int) (c : α → Nat) (B : Int) (F : Nat → Int → Nat → Option (Ex (Int × Nat) R)) (l : List α) (N : Nat) (hN : l.length < N) (k : Int) (hk : 0 ≤ k) (hB : k + wsum c l ≤ B)
    (hc : ∀ x k, k ≤ (step x k).2 ∧ (step x k).2 ≤ k + c x)
    (hn : ∀ n k i, i = l.length → F (n + 1) k i = some (.brk (k, i)))
    (hF : ∀ n i x (k1 : Int), (h : i < l.length) → x = l[i] → (mkAll step l k).1[i]? = some (step x k1).1 → 0 ≤ k1 → k1 + c x ≤ B → F (n + 1) k1 i = F n (step x k1).2 (i + 1)) :
    F N k 0 = some (.brk ((mkAll step l k).2, l.length)) := by
  have key : ∀ (t p : List α) (q : List α) (n : Nat) (k1 : Int), l = p ++ t → q.length = p.length → (mkAll step l k).1 = q ++ (mkAll step t k1).1 → t.length < n → 0 ≤ k1 → k1 + wsum c t ≤ B → F n k1 p.length = some (.brk ((mkAll step t k1).2, l.length)) := by
    intro t
    induction t with
    | nil =>
      intro p q n k1 hl hq hm hn' hk hB
      obtain ⟨n, rfl⟩ : ∃ n', n = n' + 1 := ⟨n - 1, by omega⟩
      simp only [List.append_nil] at hl
      rw [hn n _ _ (by rw [hl]), hl]
      simp [mkAll]
    | cons x t ih =>
      intro p q n k1 hl hq hm hn' hk hB
      simp only [List.length_cons] at hn'
      obtain ⟨n, rfl⟩ : ∃ n', n = n' + 1 := ⟨n - 1, by omega⟩
      simp only [wsum, List.map_cons, List.sum_cons] at hB
      have h1 := hc x k1
      have hx : (mkAll step l k).1[p.length]? = some (step x k1).1 := by
        rw [hm, List.getElem?_append_right (by omega), hq, Nat.sub_self]; rfl
      rw [hF n p.length x k1 (by rw [hl]; simp) (by simp [hl]) hx hk (by omega)]
      rw [show p.length + 1 = (p ++ [x]).length by simp]
      rw [ih (p ++ [x]) (q ++ [(step x k1).1]) n (step x k1).2 (by simp [hl]) (by simp [hq]) (by rw [hm]; simp [mkAll]) (by omega) (by omega) (by unfold wsum; omega)]
      rfl
  exact key l [] [] N k rfl rfl rfl hN hk hB

/-! ## Lists of texts -/

def mtx (N : Nat) (k : Int) : Str := (m_laws_markText N k).getD ⟨#[]⟩
theorem e_mtx {N : Nat} {k : Int} (hN : 100 < N) (h0 : 0 ≤ k) (h1 : k ≤ 4000000000000000000) : m_laws_markText N k = some (mtx N k) := by
  obtain ⟨t, h⟩ := e_markText hN h0 h1
  unfold mtx
  rw [h]; rfl

def stT (N : Nat) (_ : Str) (k : Int) : Str × Int := (mtx N k, k + 1)
theorem stT_c (N : Nat) (x : Str) (k : Int) : k ≤ (stT N x k).2 ∧ (stT N x k).2 ≤ k + (fun _ : Str => 1) x := by unfold stT; simp only; omega
theorem wsum_one {α : Type} (l : List α) : wsum (fun _ => 1) l = l.length := by
  induction l with
  | nil => rfl
  | cons x t ih => simp only [wsum, List.map_cons, List.sum_cons, List.length_cons] at ih ⊢; omega
theorem mkT_end (N : Nat) (l : List Str) (k : Int) : (mkAll (stT N) l k).2 = k + l.length := by
  induction l generalizing k with
  | nil => simp [mkAll]
  | cons x t ih => simp only [mkAll, ih, stT, List.length_cons]; omega

/-! ## Steps -/

def cStep (s : Step) : Nat := s.after.length + 2
def stS (N : Nat) (s : Step) (k : Int) : Step × Int := (⟨mtx N k, (mkAll (stT N) s.after (k + 1)).1, eqb (Int.tmod (k + 1 + s.after.length) 3) 0⟩, k + 1 + s.after.length + 1)
theorem stS_c (N : Nat) (x : Step) (k : Int) : k ≤ (stS N x k).2 ∧ (stS N x k).2 ≤ k + cStep x := by unfold stS cStep; simp only; omega

/-! ## Flows, runs -/

def cFlow (f : Flow) : Nat := wsum cStep f.steps
def stF (N : Nat) (f : Flow) (k : Int) : Flow × Int := (⟨k, (mkAll (stS N) f.steps (k + 1)).1⟩, (mkAll (stS N) f.steps (k + 1)).2)
def cFlow1 (f : Flow) : Nat := cFlow f + 1
theorem stF_c (N : Nat) (x : Flow) (k : Int) : k ≤ (stF N x k).2 ∧ (stF N x k).2 ≤ k + cFlow1 x := by
  have hc := mkAll_le (stS_c N) x.steps (k + 1)
  unfold stF cFlow1 cFlow
  simp only
  omega
def stR (N : Nat) (r : Run) (k : Int) : Run × Int := (⟨k, (mkAll (stT N) r.done (k + 1)).1⟩, k + 1 + r.done.length)
def cRun1 (r : Run) : Nat := r.done.length + 1
theorem stR_c (N : Nat) (x : Run) (k : Int) : k ≤ (stR N x k).2 ∧ (stR N x k).2 ≤ k + cRun1 x := by
  unfold stR cRun1
  simp only
  omega
end Go.Proofs.YtacecnffggffmaaDoor
