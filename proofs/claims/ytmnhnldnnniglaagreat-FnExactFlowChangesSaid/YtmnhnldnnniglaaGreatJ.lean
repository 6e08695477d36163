/- Rows of steps told with their cells; what is known of one element while it is read; rows that the library's sort has changed. -/
import Derived.Test.YtmnhnldnnniglaaGreatH
import Derived.Shelf.GgSortFunc.RowK
import Derived.Sort.Grow
set_option linter.all false
namespace Go.Proofs.YtmnhnldnnniglaaGreat
open Go.RowKit

structure RStep where
  st : Step
  a : Option Addr
  c : Nat
def rsE (r : RStep) : List Value := [.string r.st.name, .slice r.a r.st.after.length r.c, .bool r.st.undo]
theorem rsE_len (r : RStep) : (rsE r).length = 3 := rfl
theorem rsE_one (r : RStep) : ∀ u ∈ rsE r, u.oneCell' = true := by
  intro u hu
  simp only [rsE, List.mem_cons, List.not_mem_nil, or_false] at hu
  rcases hu with rfl | rfl | rfl <;> rfl
def rstepL : Lay RStep := plain 3 rsE rsE_len rsE_one
def rstepsL : Lay (List RStep) := sl 49 rstepL

def deepL (w : World) : List (List Nat) → List RStep → Prop
  | [], [] => True
  | F :: Fs, r :: l => stepL.ow w F (rsE r) r.st ∧ deepL w Fs l
  | [], _ :: _ => False
  | _ :: _, [] => False

theorem deep_of {w : World} : ∀ {l : List Step} {Fs : List (List Nat)} {cs : List Value}, owL stepL w Fs cs l → ∃ lr : List RStep, lr.map (·.st) = l ∧ cs = lr.flatMap rsE ∧ deepL w Fs lr
  | [], _, _, h => by
    obtain ⟨rfl, rfl⟩ := h
    exact ⟨[], rfl, rfl, trivial⟩
  | x :: l, _, _, h => by
    obtain ⟨F, Fs', es, cs', rfl, rfl, hx, hl⟩ := h
    obtain ⟨lr, h1, h2, h3⟩ := deep_of hl
    obtain ⟨a, c, he, _⟩ := stepL_ow hx
    subst he
    exact ⟨⟨x, a, c⟩ :: lr, by simp [h1], by simp [rsE, h2], hx, h3⟩
theorem deep_to {w : World} : ∀ {lr : List RStep} {Fs : List (List Nat)}, deepL w Fs lr → owL stepL w Fs (lr.flatMap rsE) (lr.map (·.st))
  | [], [], _ => ⟨rfl, rfl⟩
  | r :: lr, F :: Fs, h => ⟨F, Fs, rsE r, lr.flatMap rsE, rfl, by simp, h.1, deep_to h.2⟩
  | [], _ :: _, h => h.elim
  | _ :: _, [], h => h.elim
theorem deep_stb {w w' : World} : ∀ {lr : List RStep} {Fs : List (List Nat)}, deepL w Fs lr → (∀ b ∈ Fs.flatten, w'.heap[b]? = w.heap[b]?) → deepL w' Fs lr
  | [], [], _, _ => trivial
  | r :: lr, F :: Fs, h, hb => ⟨stepL.ow_stb h.1 (fun b hm => hb b (by simp [hm])), deep_stb h.2 (fun b hm => hb b (by rw [List.flatten_cons]; exact List.mem_append.2 (.inr hm)))⟩
  | [], _ :: _, h, _ => h.elim
  | _ :: _, [], h, _ => h.elim
theorem deep_lt {w : World} : ∀ {lr : List RStep} {Fs : List (List Nat)}, deepL w Fs lr → ∀ b ∈ Fs.flatten, b < w.heap.size := fun h => owL_lt (deep_to h)
theorem deep_mem {w : World} : ∀ {lr : List RStep} {Fs : List (List Nat)} {r : RStep}, deepL w Fs lr → r ∈ lr → ∃ F : List Nat, (∀ b ∈ F, b ∈ Fs.flatten) ∧ stepL.ow w F (rsE r) r.st
  | q :: lr, F :: Fs, r, h, hm => by
    rcases List.mem_cons.1 hm with rfl | hm
    · exact ⟨F, fun b hb => by simp [hb], h.1⟩
    · obtain ⟨G, h1, h2⟩ := deep_mem h.2 hm
      exact ⟨G, fun b hb => by rw [List.flatten_cons]; exact List.mem_append.2 (.inr (h1 b hb)), h2⟩
  | [], _, _, _, hm => by simp at hm
  | _ :: _, [], _, h, _ => h.elim
theorem deep_perm {w : World} {lr lr' : List RStep} (p : lr.Perm lr') : ∀ {Fs : List (List Nat)}, deepL w Fs lr → ∃ Fs' : List (List Nat), Fs'.flatten.Perm Fs.flatten ∧ deepL w Fs' lr' := by
  induction p with
  | nil => exact fun {Fs} h => ⟨Fs, List.Perm.refl _, h⟩
  | cons r p ih =>
    intro Fs h
    cases Fs with
    | nil => exact h.elim
    | cons F Fs =>
      obtain ⟨Fs', h1, h2⟩ := ih h.2
      exact ⟨F :: Fs', by rw [List.flatten_cons, List.flatten_cons]; exact h1.append_left F, h.1, h2⟩
  | swap r q l =>
    intro Fs h
    match Fs, h with
    | F :: G :: Fs, h => exact ⟨G :: F :: Fs, by
        rw [List.flatten_cons, List.flatten_cons, List.flatten_cons, List.flatten_cons, ← List.append_assoc, ← List.append_assoc]
        exact (List.perm_append_comm).append_right _, h.2.1, h.1, h.2.2⟩
    | [_], h => exact h.2.elim
    | [], h => exact h.elim
  | trans _ _ ih1 ih2 =>
    intro Fs h
    obtain ⟨Fs1, h1, h2⟩ := ih1 h
    obtain ⟨Fs2, h3, h4⟩ := ih2 h2
    exact ⟨Fs2, h3.trans h1, h4⟩
theorem deep_split {w : World} : ∀ {lr : List RStep} {Fs : List (List Nat)} {k : Nat} {r : RStep}, deepL w Fs lr → lr[k]? = some r →
    ∃ (Fs' : List (List Nat)) (G : List Nat), (Fs'.flatten ++ G).Perm Fs.flatten ∧ deepL w Fs' (lr.take k ++ lr.drop (k + 1)) ∧ stepL.ow w G (rsE r) r.st
  | q :: lr, F :: Fs, 0, r, h, hk => by
    simp only [List.getElem?_cons_zero, Option.some.injEq] at hk
    subst hk
    exact ⟨Fs, F, by rw [List.flatten_cons]; exact List.perm_append_comm, by simpa using h.2, h.1⟩
  | q :: lr, F :: Fs, k + 1, r, h, hk => by
    obtain ⟨Fs', G, h1, h2, h3⟩ := deep_split h.2 (k := k) (r := r) (by simpa using hk)
    exact ⟨F :: Fs', G, by rw [List.flatten_cons, List.flatten_cons, List.append_assoc]; exact h1.append_left F, ⟨h.1, by simpa using h2⟩, h3⟩
  | [], _, _, _, _, hk => by simp at hk
  | _ :: _, [], _, _, h, _ => h.elim

/-- A row of steps, apart from what its steps hold. -/
theorem step_expose {w : World} {F : List Nat} {g n c : Nat} {l : List Step} (h : (owC stepsL F [.slice (some ⟨g, 0, none⟩) n c] l).A w) :
    ∃ (lr : List RStep) (Fs : List (List Nat)), lr.map (·.st) = l ∧ F = g :: Fs.flatten ∧ (owC rstepsL [g] [.slice (some ⟨g, 0, none⟩) n c] lr).A w ∧ deepL w Fs lr := by
  obtain ⟨cur, xs, Fs, hb, hF, hn, hnc, hcm, hlen, ht, hl⟩ := own_openN h
  obtain ⟨lr, h1, h2, h3⟩ := deep_of hl
  refine ⟨lr, Fs, h1, hF, ?_, h3⟩
  have hn2 : n = lr.length := by rw [hn, ← h1, List.length_map]
  have h4 := own_closeN (A := rstepL) (e := 49) hb hn2 hnc hcm hlen ht (by rw [h2]; exact owL_plain (hl := rsE_len) (h1 := rsE_one) w lr)
  rw [flatten_nils] at h4
  exact h4
theorem step_collapse {w : World} {F : List Nat} {v : Value} {lr : List RStep} {Fs : List (List Nat)} (h : (owC rstepsL F [v] lr).A w) (hd : deepL w Fs lr) : (owC stepsL (F ++ Fs.flatten) [v] (lr.map (·.st))).A w := by
  obtain ⟨v0, xs, Fs0, hv, ho, hl, hF⟩ := h
  simp only [List.cons.injEq, and_true] at hv
  subst hv
  obtain ⟨h1, h2⟩ := owL_plain_inv hl
  subst h1
  refine ⟨v, _, Fs, rfl, ?_, deep_to hd, ?_⟩
  · rw [List.length_map]; exact ho
  · rw [hF, h2, List.append_nil]

/-! ## An element of an owned row that is read as a whole -/

def knowC (F : List Nat) (g n c : Nat) (l : List Step) (k : Nat) (v2 : Value) : Ch where
  A := fun w => (owC stepsL F [.slice (some ⟨g, 0, none⟩) n c] l).A w ∧ w.cell? ⟨g, k * 3 + 1, none⟩ = some v2 ∧ g ∈ F
  F := F
  stb := fun w w' h hA => ⟨(owC stepsL F [.slice (some ⟨g, 0, none⟩) n c] l).stb w w' h hA.1, (World.cell?_of_block (a := ⟨g, k * 3 + 1, none⟩) (h g hA.2.2)).trans hA.2.1, hA.2.2⟩
  lt := fun w hA => (owC stepsL F [.slice (some ⟨g, 0, none⟩) n c] l).lt w hA.1

theorem know_get {w : World} {F : List Nat} {g n c k : Nat} {l : List Step} {y : Step} (h : (owC stepsL F [.slice (some ⟨g, 0, none⟩) n c] l).A w) (hk : l[k]? = some y) :
    ∃ a2 c2 G, g ∈ F ∧ (∀ (j : Nat) (u : Value), (rsE ⟨y, a2, c2⟩)[j]? = some u → w.cell? ⟨g, 0 + k * 3 + j, none⟩ = some u) ∧ strsL.ow w G [.slice a2 y.after.length c2] y.after := by
  obtain ⟨cur, xs, Fs, hb, hF, hn, hnc, hcm, hlen, ht, hl⟩ := own_openN h
  obtain ⟨G, es, _, ho2, hcell⟩ := owL_get hl hk
  obtain ⟨a2, c2, rfl, ho3⟩ := stepL_ow ho2
  refine ⟨a2, c2, G, by rw [hF]; simp, fun j u hj => ?_, ho3⟩
  have h1 := hcell j u hj
  rw [show stepL.size = 3 from rfl] at h1
  rw [Nat.zero_add, blk_cell hb, ← h1, ← ht]
  rw [← ht] at h1
  have hlt := (List.getElem?_eq_some_iff.1 h1).1
  rw [List.length_take] at hlt
  rw [List.getElem?_take_of_lt (by omega)]

section
variable {P : Program} (T : Tab P) {Q : Exit → Act → World → Prop} {N : Nat} {L : SL} {w0 : World} {M : List Nat} {H : List Ch} {o : Oper} {K : Act → World → Prop} {d : Nat}

theorem ow_loadK {t : TypeId} {x : Operand} {g n c k by_ : Nat} {F : List Nat} {l : List Step} {y : Step} {z : Value} (i : Nat) (ho : o.op = .load t x) (hx : ev L x = some (.pointer (some ⟨g, 0 + k * 3, none⟩))) (hg : T.agg t = some true)
    (hin : T.inf t = some (z, 3, by_)) (hi : H[i]? = some (owC stepsL F [.slice (some ⟨g, 0, none⟩) n c] l)) (hk : l[k]? = some y) (hd : o.dst = some d) (hN : Nat.blt d N = true)
    (h : ∀ a2 c2, KK K N ((d, .agg #[.string y.name, .slice a2 y.after.length c2, .bool y.undo]) :: L) w0 M (knowC F g n c l k (.slice a2 y.after.length c2) :: H.eraseIdx i)) : OW P o Q K N L w0 M H := .mk fun ac w hF hH => by
  obtain ⟨a2, c2, G, hgF, hcell, _⟩ := know_get (hH.at hi) hk
  obtain ⟨ti, h1, _, h3, _⟩ := T.info hin
  have := run_loadN' T (a := ⟨g, 0 + k * 3, none⟩) hg h1 (w := w) (vs := rsE ⟨y, a2, c2⟩) (h3.trans (rsE_len _).symm) (fun q v hj => by
    rw [Addr.add_lit]
    exact hcell q v hj)
  have hr : (execOp ac.eval o).run P w = .ok (.value (.agg (rsE ⟨y, a2, c2⟩).toArray)) w := by
    simp only [Nat.zero_add] at this hx
    simp [execOp, ho, hF.ev hx, Instr.loadAt, Instr.sureAddr, this]
  unfold Oper.wp
  rw [hr]
  show K (ac.put o.dst _) _
  rw [hd]
  refine (h a2 c2).go _ _ (hF.put _ hN) (hH.chg hi (fun hA => ⟨hA, ?_, hgF⟩) rfl)
  have := hcell 1 (.slice a2 y.after.length c2) rfl
  rwa [Nat.zero_add] at this

theorem rdk {w : World} {F : List Nat} {g n c k c2 : Nat} {a2 : Option Addr} {l : List Step} {y : Step} (i : Nat) (hi : H[i]? = some (knowC F g n c l k (.slice a2 y.after.length c2))) (hk : l[k]? = some y) (hH : Hp w0 M H w) : strsL.rd w [] [.slice a2 y.after.length c2] y.after := by
  obtain ⟨h1, h2, _⟩ := hH.at hi
  obtain ⟨a3, c3, G, _, hcell, ho⟩ := know_get h1 hk
  have h3 := hcell 1 (.slice a3 y.after.length c3) rfl
  rw [Nat.zero_add] at h3
  rw [h3] at h2
  simp only [Option.some.injEq, Value.slice.injEq, true_and] at h2
  obtain ⟨rfl, rfl⟩ := h2
  exact strsL.ow_rd ho (by simp)
end
end Go.Proofs.YtmnhnldnnniglaaGreat
