/- Layouts: how data lie in cells, read or owned; pieces of memory; the operations on memory as rules of the logic. Nothing here speaks of a program. -/
import Derived.Test.YtacecnffggffmaaDoorSl
import Derived.Maps.AppendAt
set_option linter.all false
namespace Go.Proofs.YtacecnffggffmaaDoor
open Go.RowKit

structure Lay (α : Type) where
  size : Nat
  rd : World → List Nat → List Value → α → Prop
  rd_ext : ∀ {w w' : World} {M : List Nat} {cs : List Value} {x : α}, rd w M cs x → ExtM M w w' → rd w' M cs x
  rd_mono : ∀ {w : World} {M M' : List Nat} {cs : List Value} {x : α}, rd w M cs x → (∀ b ∈ M', b ∈ M ∨ w.heap.size ≤ b) → rd w M' cs x
  rd_len : ∀ {w : World} {M : List Nat} {cs : List Value} {x : α}, rd w M cs x → cs.length = size
  rd_one : ∀ {w : World} {M : List Nat} {cs : List Value} {x : α}, rd w M cs x → ∀ u ∈ cs, u.oneCell' = true
  ow : World → List Nat → List Value → α → Prop
  ow_stb : ∀ {w w' : World} {F : List Nat} {cs : List Value} {x : α}, ow w F cs x → (∀ b ∈ F, w'.heap[b]? = w.heap[b]?) → ow w' F cs x
  ow_lt : ∀ {w : World} {F : List Nat} {cs : List Value} {x : α}, ow w F cs x → ∀ b ∈ F, b < w.heap.size
  ow_rd : ∀ {w : World} {F M : List Nat} {cs : List Value} {x : α}, ow w F cs x → (∀ b ∈ F, b ∉ M) → rd w M cs x

def plain {α : Type} (n : Nat) (enc : α → List Value) (hl : ∀ x, (enc x).length = n) (h1 : ∀ x, ∀ u ∈ enc x, u.oneCell' = true) : Lay α where
  size := n
  rd := fun _ _ cs x => cs = enc x
  rd_ext := fun h _ => h
  rd_mono := fun h _ => h
  rd_len := fun h => by rw [h]; exact hl _
  rd_one := fun h => by rw [h]; exact h1 _
  ow := fun _ F cs x => F = [] ∧ cs = enc x
  ow_stb := fun h _ => h
  ow_lt := fun h b hb => by rw [h.1] at hb; simp at hb
  ow_rd := fun h _ => h.2

def layI : Lay Int := plain 1 (fun n => [.int .i64 n]) (fun _ => rfl) (fun _ u hu => by simp at hu; subst hu; rfl)
def layS : Lay ByteArray := plain 1 (fun s => [.string s]) (fun _ => rfl) (fun _ u hu => by simp at hu; subst hu; rfl)
def layB : Lay Bool := plain 1 (fun b => [.bool b]) (fun _ => rfl) (fun _ u hu => by simp at hu; subst hu; rfl)
def layU : Lay UInt8 := plain 1 (fun b => [.int .u8 b.toNat]) (fun _ => rfl) (fun _ u hu => by simp at hu; subst hu; rfl)

def prod {α β : Type} (A : Lay α) (B : Lay β) : Lay (α × β) where
  size := A.size + B.size
  rd := fun w M cs x => ∃ c1 c2, cs = c1 ++ c2 ∧ A.rd w M c1 x.1 ∧ B.rd w M c2 x.2
  rd_ext := fun ⟨c1, c2, h, h1, h2⟩ e => ⟨c1, c2, h, A.rd_ext h1 e, B.rd_ext h2 e⟩
  rd_mono := fun ⟨c1, c2, h, h1, h2⟩ e => ⟨c1, c2, h, A.rd_mono h1 e, B.rd_mono h2 e⟩
  rd_len := fun ⟨c1, c2, h, h1, h2⟩ => by rw [h, List.length_append, A.rd_len h1, B.rd_len h2]
  rd_one := fun ⟨c1, c2, h, h1, h2⟩ u hu => by
    rw [h] at hu
    exact (List.mem_append.1 hu).elim (A.rd_one h1 u) (B.rd_one h2 u)
  ow := fun w F cs x => ∃ F1 F2 c1 c2, F = F1 ++ F2 ∧ cs = c1 ++ c2 ∧ A.ow w F1 c1 x.1 ∧ B.ow w F2 c2 x.2
  ow_stb := fun ⟨F1, F2, c1, c2, hF, h, h1, h2⟩ e => ⟨F1, F2, c1, c2, hF, h,
    A.ow_stb h1 (fun b hb => e b (by rw [hF]; exact List.mem_append.2 (.inl hb))), B.ow_stb h2 (fun b hb => e b (by rw [hF]; exact List.mem_append.2 (.inr hb)))⟩
  ow_lt := fun ⟨F1, F2, c1, c2, hF, h, h1, h2⟩ b hb => by
    rw [hF] at hb
    exact (List.mem_append.1 hb).elim (A.ow_lt h1 b) (B.ow_lt h2 b)
  ow_rd := fun ⟨F1, F2, c1, c2, hF, h, h1, h2⟩ e => ⟨c1, c2, h,
    A.ow_rd h1 (fun b hb => e b (by rw [hF]; exact List.mem_append.2 (.inl hb))), B.ow_rd h2 (fun b hb => e b (by rw [hF]; exact List.mem_append.2 (.inr hb)))⟩

def lmap {α β : Type} (f : β → α) (A : Lay α) : Lay β where
  size := A.size
  rd := fun w M cs x => A.rd w M cs (f x)
  rd_ext := A.rd_ext
  rd_mono := A.rd_mono
  rd_len := A.rd_len
  rd_one := A.rd_one
  ow := fun w F cs x => A.ow w F cs (f x)
  ow_stb := A.ow_stb
  ow_lt := A.ow_lt
  ow_rd := A.ow_rd

/-! ### Slices -/

/-- Cells of a row, element by element, each with its own blocks. -/
def owL {α : Type} (A : Lay α) (w : World) : List (List Nat) → List Value → List α → Prop
  | Fs, cs, [] => Fs = [] ∧ cs = []
  | Fs, cs, x :: l => ∃ F Fs' es cs', Fs = F :: Fs' ∧ cs = es ++ cs' ∧ A.ow w F es x ∧ owL A w Fs' cs' l

section
variable {α : Type} {A : Lay α} {w w' : World}

theorem ow_len {F : List Nat} {cs : List Value} {x : α} (h : A.ow w F cs x) : cs.length = A.size := A.rd_len (A.ow_rd (M := []) h (by simp))
theorem ow_one {F : List Nat} {cs : List Value} {x : α} (h : A.ow w F cs x) : ∀ u ∈ cs, u.oneCell' = true := A.rd_one (A.ow_rd (M := []) h (by simp))

theorem owL_len : ∀ {l : List α} {Fs : List (List Nat)} {cs : List Value}, owL A w Fs cs l → cs.length = l.length * A.size ∧ Fs.length = l.length
  | [], Fs, cs, h => by obtain ⟨rfl, rfl⟩ := h; simp
  | x :: l, Fs, cs, h => by
    obtain ⟨F, Fs', es, cs', rfl, rfl, hx, hl⟩ := h
    have := owL_len hl
    have h2 := ow_len hx
    simp only [List.length_append, List.length_cons, this.1, h2, this.2, and_true]
    rw [Nat.add_mul]; omega

theorem owL_stb : ∀ {l : List α} {Fs : List (List Nat)} {cs : List Value}, owL A w Fs cs l → (∀ b ∈ Fs.flatten, w'.heap[b]? = w.heap[b]?) → owL A w' Fs cs l
  | [], Fs, cs, h, _ => h
  | x :: l, Fs, cs, h, e => by
    obtain ⟨F, Fs', es, cs', rfl, rfl, hx, hl⟩ := h
    exact ⟨F, Fs', es, cs', rfl, rfl, A.ow_stb hx (fun b hb => e b (by simp [hb])), owL_stb hl (fun b hb => e b (by rw [List.flatten_cons]; exact List.mem_append.2 (.inr hb)))⟩

theorem owL_lt : ∀ {l : List α} {Fs : List (List Nat)} {cs : List Value}, owL A w Fs cs l → ∀ b ∈ Fs.flatten, b < w.heap.size
  | [], Fs, cs, h, b, hb => by obtain ⟨rfl, rfl⟩ := h; simp at hb
  | x :: l, Fs, cs, h, b, hb => by
    obtain ⟨F, Fs', es, cs', rfl, rfl, hx, hl⟩ := h
    rw [List.flatten_cons] at hb
    exact (List.mem_append.1 hb).elim (A.ow_lt hx b) (owL_lt hl b)

theorem owL_append : ∀ {l l' : List α} {Fs Fs' : List (List Nat)} {cs cs' : List Value}, owL A w Fs cs l → owL A w Fs' cs' l' → owL A w (Fs ++ Fs') (cs ++ cs') (l ++ l')
  | [], l', Fs, Fs', cs, cs', h, h' => by obtain ⟨rfl, rfl⟩ := h; exact h'
  | x :: l, l', Fs, Fs', cs, cs', h, h' => by
    obtain ⟨F, Gs, es, ds, rfl, rfl, hx, hl⟩ := h
    exact ⟨F, Gs ++ Fs', es, ds ++ cs', rfl, by rw [List.append_assoc], hx, owL_append hl h'⟩

theorem owL_single {x : α} {F : List Nat} {cs : List Value} (h : A.ow w F cs x) : owL A w [F] cs [x] := ⟨F, [], cs, [], rfl, by simp, h, rfl, rfl⟩

theorem owL_get : ∀ {l : List α} {Fs : List (List Nat)} {cs : List Value}, owL A w Fs cs l → ∀ {k : Nat} {x : α}, l[k]? = some x →
    ∃ F es, Fs[k]? = some F ∧ A.ow w F es x ∧ ∀ (j : Nat) (u : Value), es[j]? = some u → cs[k * A.size + j]? = some u
  | [], Fs, cs, h, k, x, hk => by simp at hk
  | y :: l, Fs, cs, h, k, x, hk => by
    obtain ⟨F, Fs', es, cs', rfl, rfl, hx, hl⟩ := h
    have hes := ow_len hx
    cases k with
    | zero =>
      simp at hk
      subst hk
      refine ⟨F, es, rfl, hx, fun j u hj => ?_⟩
      have : j < es.length := (List.getElem?_eq_some_iff.1 hj).1
      rw [Nat.zero_mul, Nat.zero_add, List.getElem?_append_left this]
      exact hj
    | succ k =>
      obtain ⟨G, ds, hG, hd, hc⟩ := owL_get hl (k := k) (x := x) (by simpa using hk)
      refine ⟨G, ds, by simpa using hG, hd, fun j u hj => ?_⟩
      rw [List.getElem?_append_right (by rw [hes, Nat.add_mul]; omega)]
      have : (k + 1) * A.size + j - es.length = k * A.size + j := by rw [hes, Nat.add_mul]; omega
      rw [this]
      exact hc j u hj

theorem ownsRow_stb {base : Nat} {e : TypeId} {size : Nat} {v : Value} {n : Nat} {xs : List Value} (h : w.ownsRow base e size v n xs)
    (hb : ∀ b ∈ v.ownBlock.toList, w'.heap[b]? = w.heap[b]?) : w'.ownsRow base e size v n xs := by
  refine ⟨h.1, ?_⟩
  rcases h.2 with hn | ⟨g, cap, cur, rfl, hbg, hg, rest⟩
  · exact .inl hn
  · exact .inr ⟨g, cap, cur, rfl, hbg, by rw [hb g (by simp [Value.ownBlock])]; exact hg, rest⟩

theorem flatten_mem {Fs : List (List Nat)} {k b : Nat} {F : List Nat} (hF : Fs[k]? = some F) (hb : b ∈ F) : b ∈ Fs.flatten :=
  List.mem_flatten.2 ⟨F, List.mem_of_getElem? hF, hb⟩
end

def sl {α : Type} (e : TypeId) (A : Lay α) : Lay (List α) where
  size := 1
  rd := fun w M cs l => ∃ a c, cs = [.slice a l.length c] ∧ l.length ≤ c ∧ c ≤ maxLen ∧ (0 < l.length → ∃ b o, a = some ⟨b, o, none⟩ ∧ b ∉ M ∧ b < w.heap.size ∧
    ∀ (k : Nat) (x : α), l[k]? = some x → ∃ es, (∀ (j : Nat) (u : Value), es[j]? = some u → w.cell? ⟨b, o + k * A.size + j, none⟩ = some u) ∧ A.rd w M es x)
  rd_ext := by
    rintro w w' M cs l ⟨a, c, h, h1, h2, h3⟩ e
    refine ⟨a, c, h, h1, h2, fun hn => ?_⟩
    obtain ⟨b, o, ha, hb, hlt, hk⟩ := h3 hn
    refine ⟨b, o, ha, hb, Nat.lt_of_lt_of_le hlt e.size, fun k x hx => ?_⟩
    obtain ⟨es, hes, hr⟩ := hk k x hx
    exact ⟨es, fun j u hj => e.cell (hes j u hj) hb, A.rd_ext hr e⟩
  rd_mono := by
    rintro w M M' cs l ⟨a, c, h, h1, h2, h3⟩ hM
    refine ⟨a, c, h, h1, h2, fun hn => ?_⟩
    obtain ⟨b, o, ha, hb, hlt, hk⟩ := h3 hn
    refine ⟨b, o, ha, fun hm => (hM b hm).elim hb (fun h => by omega), hlt, fun k x hx => ?_⟩
    obtain ⟨es, hes, hr⟩ := hk k x hx
    exact ⟨es, hes, A.rd_mono hr hM⟩
  rd_len := by rintro w M cs l ⟨a, c, h, _⟩; rw [h]; rfl
  rd_one := by rintro w M cs l ⟨a, c, h, _⟩ u hu; rw [h] at hu; simp at hu; subst hu; rfl
  ow := fun w F cs l => ∃ v xs Fs, cs = [v] ∧ w.ownsRow 0 e A.size v l.length xs ∧ owL A w Fs xs l ∧ F = v.ownBlock.toList ++ Fs.flatten
  ow_stb := by
    rintro w w' F cs l ⟨v, xs, Fs, h, ho, hl, hF⟩ hb
    exact ⟨v, xs, Fs, h, ownsRow_stb ho (fun b hm => hb b (by rw [hF]; exact List.mem_append.2 (.inl hm))), owL_stb hl (fun b hm => hb b (by rw [hF]; exact List.mem_append.2 (.inr hm))), hF⟩
  ow_lt := by
    rintro w F cs l ⟨v, xs, Fs, h, ho, hl, hF⟩ b hb
    rw [hF] at hb
    rcases List.mem_append.1 hb with hm | hm
    · exact (ho.lt b (by simpa using hm)).2
    · exact owL_lt hl b hm
  ow_rd := by
    rintro w F M cs l ⟨v, xs, Fs, h, ho, hl, hF⟩ hM
    have hlen := owL_len hl
    rcases ho.2 with ⟨rfl, hn⟩ | ⟨g, cap, cur, rfl, _, hg, hnc, hcm, hcs, htake⟩
    · exact ⟨none, 0, by rw [hn]; exact h, by omega, by simp [maxLen], by omega⟩
    · refine ⟨_, cap, h, hnc, hcm, fun hn => ⟨g, 0, rfl, hM g (by rw [hF]; simp [Value.ownBlock]), (Array.getElem?_eq_some_iff.1 hg).1, fun k x hx => ?_⟩⟩
      obtain ⟨G, es, hG, hes, hc⟩ := owL_get hl hx
      refine ⟨es, fun j u hj => ?_, A.ow_rd hes (fun b hb => hM b (by rw [hF]; exact List.mem_append.2 (.inr (flatten_mem hG hb))))⟩
      have h1 := hc j u hj
      rw [cell_of_row w g _ cur e (0, 0) hg]
      rw [← htake, List.getElem?_take] at h1
      split at h1
      · simpa using h1
      · cases h1

/-! ## Pieces -/

def blkC (g : Nat) (t : TypeId) (cs : List Value) : Ch where
  A := fun w => w.heap[g]? = some (.cells cs.toArray t (0, 0))
  F := [g]
  stb := fun w w' h hA => by rw [h g (by simp)]; exact hA
  lt := fun w hA b hb => by
    simp at hb
    subst hb
    exact (Array.getElem?_eq_some_iff.1 hA).1

def owC {α : Type} (A : Lay α) (F : List Nat) (cs : List Value) (x : α) : Ch where
  A := fun w => A.ow w F cs x
  F := F
  stb := fun _ _ h hA => A.ow_stb hA h
  lt := fun _ hA => A.ow_lt hA

/-- A pure fact, as a piece without blocks. -/
def Cell (w0 : World) (M : List Nat) (a : Addr) (v : Value) : Prop := w0.cell? a = some v ∧ a.block ∉ M
def CellN (w0 : World) (M : List Nat) (b o : Nat) (vs : List Value) : Prop := b ∉ M ∧ ∀ (j : Nat) (u : Value), vs[j]? = some u → w0.cell? ⟨b, o + j, none⟩ = some u

section
variable {w0 w : World} {M : List Nat} {H : List Ch}
theorem Cell.at_ {a : Addr} {v : Value} (h : Cell w0 M a v) (hH : Hp w0 M H w) : w.cell? a = some v := hH.ext.cell h.1 h.2
theorem CellN.at_ {b o : Nat} {vs : List Value} (h : CellN w0 M b o vs) (hH : Hp w0 M H w) {j : Nat} {u : Value} (hj : vs[j]? = some u) : w.cell? ⟨b, o + j, none⟩ = some u :=
  hH.ext.cell (h.2 j u hj) h.1

/-- What is read in every world of this state. -/
def RdS {α : Type} (w0 : World) (M : List Nat) (H : List Ch) (A : Lay α) (cs : List Value) (x : α) : Prop := ∀ w, Hp w0 M H w → A.rd w [] cs x

theorem rds_arg {α : Type} {A : Lay α} {cs : List Value} {x : α} (h : A.rd w0 M cs x) : RdS w0 M H A cs x := fun _ hw => A.rd_mono (A.rd_ext h hw.ext) (by simp)
theorem rds_own {α : Type} {A : Lay α} {F : List Nat} {cs : List Value} {x : α} (i : Nat) (h : H[i]? = some (owC A F cs x)) : RdS w0 M H A cs x :=
  fun _ hw => A.ow_rd (hw.at h) (by simp)

/-- Opening an element of a slice that came in. -/
theorem sl_at {α : Type} {e : TypeId} {A : Lay α} {a : Option Addr} {n c : Nat} {l : List α} (h : (sl e A).rd w0 M [.slice a n c] l) {k : Nat} (hk : k < l.length) :
    ∃ b o es, a = some ⟨b, o, none⟩ ∧ CellN w0 M b (o + k * A.size) es ∧ A.rd w0 M es l[k] := by
  obtain ⟨a', c', hc, _, _, h3⟩ := h
  simp only [List.cons.injEq, Value.slice.injEq, and_true] at hc
  obtain ⟨rfl, _, _⟩ := hc
  obtain ⟨b, o, rfl, hb, _, hx⟩ := h3 (by omega)
  obtain ⟨es, hes, hr⟩ := hx k _ (List.getElem?_eq_getElem hk)
  exact ⟨b, o, es, rfl, ⟨hb, hes⟩, hr⟩

theorem sl_form {α : Type} {e : TypeId} {A : Lay α} {cs : List Value} {l : List α} (h : (sl e A).rd w M cs l) : ∃ a c, cs = [.slice a l.length c] ∧ l.length ≤ c ∧ c ≤ maxLen := by
  obtain ⟨a, c, h, h1, h2, _⟩ := h
  exact ⟨a, c, h, h1, h2⟩

theorem sl_len {α : Type} {e : TypeId} {A : Lay α} {a : Option Addr} {n c : Nat} {l : List α} (h : (sl e A).rd w M [.slice a n c] l) : n = l.length ∧ n ≤ c ∧ c ≤ maxLen := by
  obtain ⟨a', c', h, h1, h2, _⟩ := h
  simp only [List.cons.injEq, Value.slice.injEq, and_true] at h
  obtain ⟨rfl, rfl, rfl⟩ := h
  exact ⟨rfl, h1, h2⟩

theorem sl_take {α : Type} {e : TypeId} {A : Lay α} {a : Option Addr} {n c : Nat} {l : List α} (h : (sl e A).rd w M [.slice a n c] l) {k : Nat} (hk : k ≤ n) :
    (sl e A).rd w M [.slice a k c] (l.take k) := by
  have hl := (sl_len h).1
  obtain ⟨a', c', h, h1, h2, h3⟩ := h
  simp only [List.cons.injEq, Value.slice.injEq, and_true] at h
  obtain ⟨rfl, _, rfl⟩ := h
  have ht : (l.take k).length = k := by rw [List.length_take]; omega
  refine ⟨a, c, by rw [ht], by omega, h2, fun hn => ?_⟩
  obtain ⟨b, o, ha, hb, hlt, hx⟩ := h3 (by omega)
  refine ⟨b, o, ha, hb, hlt, fun j x hj => hx j x ?_⟩
  rw [List.getElem?_take] at hj
  split at hj
  · exact hj
  · cases hj

theorem sl_drop {α : Type} {e : TypeId} {A : Lay α} {a : Option Addr} {n c : Nat} {l : List α} (h : (sl e A).rd w M [.slice a n c] l) {k : Nat} (hk : k ≤ n) :
    (sl e A).rd w M [.slice (if c = k then a else a.map (·.add (k * A.size))) (n - k) (c - k)] (l.drop k) := by
  obtain ⟨hl, hnc, _⟩ := sl_len h
  obtain ⟨a', c', h, h1, h2, h3⟩ := h
  simp only [List.cons.injEq, Value.slice.injEq, and_true] at h
  obtain ⟨rfl, _, rfl⟩ := h
  have ht : (l.drop k).length = n - k := by rw [List.length_drop]; omega
  refine ⟨_, c - k, by rw [ht], by omega, by omega, fun hn => ?_⟩
  obtain ⟨b, o, rfl, hb, hlt, hx⟩ := h3 (by omega)
  rw [if_neg (by omega)]
  refine ⟨b, o + k * A.size, by simp [Addr.add_lit], hb, hlt, fun j x hj => ?_⟩
  rw [List.getElem?_drop] at hj
  obtain ⟨es, hes, hr⟩ := hx _ x hj
  refine ⟨es, fun i u hi => ?_, hr⟩
  have := hes i u hi
  rwa [show o + (k + j) * A.size + i = o + k * A.size + j * A.size + i by rw [Nat.add_mul]; omega] at this
end

/-! ## Types of a program, as tables -/

def aggD : TypeDesc → Bool
  | .struct _ => true
  | .array _ _ => true
  | _ => false

def assoc {α : Type} : List (Nat × α) → Nat → Option α
  | [], _ => none
  | (i, v) :: l, n => bif Nat.beq i n then some v else assoc l n

theorem assoc_mem {α : Type} : ∀ {l : List (Nat × α)} {n : Nat} {v : α}, assoc l n = some v → (n, v) ∈ l
  | [], _, _, h => by simp [assoc] at h
  | (i, u) :: l, n, v, h => by
    unfold assoc at h
    cases e : Nat.beq i n with
    | true =>
      rw [e] at h
      have := Nat.eq_of_beq_eq_true e
      subst this
      simp at h
      subst h
      exact List.mem_cons_self
    | false =>
      rw [e] at h
      exact List.mem_cons_of_mem _ (assoc_mem h)

def chkAgg (P : Program) (p : Nat × Bool) : Bool :=
  match P.underlying p.1 with
  | some D => aggD D == p.2
  | none => false
def chkSle (P : Program) (p : Nat × Nat) : Bool :=
  match P.underlying p.1 with
  | some (.slice e) => Nat.beq e p.2
  | _ => false
def chkStr (P : Program) (p : Nat × Unit) : Bool :=
  match P.underlying p.1 with
  | some .string => true
  | _ => false
/-- struct, (field, (offset, the field's type)) -/
def chkFld (P : Program) (p : Nat × List (Nat × Nat)) : Bool :=
  match P.underlying p.1 with
  | some (.struct fs) => Nat.beq fs.size p.2.length && (fs.toList.zip p.2).all fun q => Nat.beq q.1.offset q.2.1 && Nat.beq q.1.type q.2.2
  | _ => false

structure Tab (P : Program) where
  aggs : List (Nat × Bool)
  aggs_ok : aggs.all (chkAgg P) = true
  sles : List (Nat × Nat)
  sles_ok : sles.all (chkSle P) = true
  strs : List (Nat × Unit)
  strs_ok : strs.all (chkStr P) = true
  flds : List (Nat × List (Nat × Nat))
  flds_ok : flds.all (chkFld P) = true
  infs : List (Nat × (Value × Nat × Nat))
  infs_ok : ∀ p ∈ infs, (P.info? p.1).map (fun i => (i.zero, i.size, i.bytes)) = some (some p.2.1, p.2.2.1, p.2.2.2)

section
variable {P : Program} (T : Tab P)
def Tab.agg (t : Nat) : Option Bool := assoc T.aggs t
def Tab.sle (t : Nat) : Option Nat := assoc T.sles t
def Tab.str (t : Nat) : Option Unit := assoc T.strs t
def Tab.inf (t : Nat) : Option (Value × Nat × Nat) := assoc T.infs t
def Tab.fld (s f : Nat) : Option Nat :=
  match assoc T.flds s with
  | none => none
  | some l =>
    match l[f]? with
    | none => none
    | some p =>
      match assoc T.infs p.2 with
      | some (_, _ + 1, _) => some p.1
      | _ => none

theorem Tab.agg_ok {t : Nat} {b : Bool} (h : T.agg t = some b) : ∃ D, P.underlying t = some D ∧ aggD D = b := by
  have := List.all_eq_true.1 T.aggs_ok _ (assoc_mem h)
  unfold chkAgg at this
  cases hq : P.underlying t with
  | none => simp [hq] at this
  | some D => exact ⟨D, rfl, by simpa [hq] using this⟩
theorem Tab.sle_ok {t e : Nat} (h : T.sle t = some e) : P.underlying t = some (.slice e) := by
  have := List.all_eq_true.1 T.sles_ok _ (assoc_mem h)
  unfold chkSle at this
  simp only [] at this
  split at this
  · rename_i e' hq
    rw [hq, Nat.eq_of_beq_eq_true this]
  · cases this
theorem Tab.str_ok {t : Nat} {u : Unit} (h : T.str t = some u) : P.underlying t = some .string := by
  have := List.all_eq_true.1 T.strs_ok _ (assoc_mem h)
  unfold chkStr at this
  simp only [] at this
  split at this
  · assumption
  · cases this
theorem Tab.info {t : Nat} {z : Value} {s b : Nat} (h : T.inf t = some (z, s, b)) : ∃ i, P.info? t = some i ∧ i.zero = some z ∧ i.size = s ∧ i.bytes = b :=
  info_parts (T.infs_ok _ (assoc_mem h))
theorem Tab.fld_ok {s f k : Nat} (h : T.fld s f = some k) : ∃ fs fd z n b, P.underlying s = some (.struct fs) ∧ fs[f]? = some fd ∧ fd.offset = k ∧ T.inf fd.type = some (z, n + 1, b) := by
  unfold Tab.fld at h
  cases h1 : assoc T.flds s with
  | none => simp [h1] at h
  | some l =>
    rw [h1] at h
    simp only [] at h
    cases h2 : l[f]? with
    | none => simp [h2] at h
    | some p =>
      rw [h2] at h
      simp only [] at h
      split at h
      · rename_i z n b h3
        injection h with h
        have := List.all_eq_true.1 T.flds_ok _ (assoc_mem h1)
        unfold chkFld at this
        simp only [] at this
        split at this
        · rename_i fs hq
          simp only [Bool.and_eq_true] at this
          have hsz := Nat.eq_of_beq_eq_true this.1
          have hf : f < fs.size := by have := (List.getElem?_eq_some_iff.1 h2).1; omega
          have hz : (fs.toList.zip l)[f]? = some (fs[f], p) := by
            rw [List.getElem?_zip_eq_some]
            exact ⟨by simp [hf], h2⟩
          have hall := List.all_eq_true.1 this.2 _ (List.mem_of_getElem? hz)
          simp only [Bool.and_eq_true] at hall
          refine ⟨fs, fs[f], z, n, b, hq, by simp [hf], (Nat.eq_of_beq_eq_true hall.1).trans h, ?_⟩
          rw [Nat.eq_of_beq_eq_true hall.2]
          exact h3
        · cases this
      · cases h
end

section
variable {P : Program} (T : Tab P) {Q : Exit → Act → World → Prop} {N : Nat} {L : SL} {w0 : World} {M : List Nat} {H : List Ch} {o : Oper} {K : Act → World → Prop} {d : Nat} {v : Value}

theorem run_isAgg {t : TypeId} {D : TypeDesc} (h : P.underlying t = some D) (w : World) : (isAgg t).run P w = .ok (aggD D) w := by
  unfold isAgg
  rw [Sem.run_bind, run_underlying h w]
  cases D <;> rfl

theorem run_load1 {t : TypeId} {D : TypeDesc} (h : P.underlying t = some D) (ha : aggD D = false) {w : World} {a : Addr} (hc : w.cell? a = some v) : (loadVar t a).run P w = .ok v w := by
  unfold loadVar
  rw [Sem.run_bind, run_isAgg h w, ha]
  simp [hc]

theorem run_loadN {t : TypeId} {D : TypeDesc} (h : P.underlying t = some D) (ha : aggD D = true) {i : TypeInfo} (hi : P.info? t = some i) {w : World} {a : Addr} {vs : List Value} (hs : i.size = vs.length)
    (hc : ∀ j u, vs[j]? = some u → w.cell? (a.add j) = some u) : (loadVar t a).run P w = .ok (.agg vs.toArray) w := by
  have hl := run_loadCells_list (P := P) w a vs hc
  unfold loadVar
  rw [Sem.run_bind, run_isAgg h w, ha]
  simp [sizeOf, typeInfo, hi, hs, hl]

theorem run_load1' {t : TypeId} (h : T.agg t = some false) {w : World} {a : Addr} (hc : w.cell? a = some v) : (loadVar t a).run P w = .ok v w := by
  obtain ⟨D, hD, hg⟩ := T.agg_ok h
  exact run_load1 hD hg hc

theorem run_loadN' {t : TypeId} (h : T.agg t = some true) {i : TypeInfo} (hi : P.info? t = some i) {w : World} {a : Addr} {vs : List Value} (hs : i.size = vs.length)
    (hc : ∀ j u, vs[j]? = some u → w.cell? (a.add j) = some u) : (loadVar t a).run P w = .ok (.agg vs.toArray) w := by
  obtain ⟨D, hD, hg⟩ := T.agg_ok h
  exact run_loadN hD hg hi hs hc

theorem yh_loadA {t : TypeId} {x : Operand} {a : Addr} (ho : o.op = .load t x) (hx : ev L x = some (.pointer (some a))) (hg : T.agg t = some false)
    (hc : Cell w0 M a v) : YH P o v N L w0 M H := .mk fun ac w hF hH => by
  simp [execOp, ho, hF.ev hx, Instr.loadAt, Instr.sureAddr, run_load1' T hg (hc.at_ hH)]

theorem yh_loadAF {t : TypeId} {x : Operand} {b i j : Nat} {vs : List Value} (ho : o.op = .load t x) (hx : ev L x = some (.pointer (some ⟨b, i + j, none⟩))) (hg : T.agg t = some false)
    (hc : CellN w0 M b i vs) (hv : vs[j]? = some v) : YH P o v N L w0 M H := .mk fun ac w hF hH => by
  simp [execOp, ho, hF.ev hx, Instr.loadAt, Instr.sureAddr, run_load1' T hg (hc.at_ hH hv)]

theorem yh_loadAN {t : TypeId} {x : Operand} {b i n : Nat} {vs : List Value} {z : Value} {by_ : Nat} (ho : o.op = .load t x) (hx : ev L x = some (.pointer (some ⟨b, i, none⟩))) (hg : T.agg t = some true)
    (hi : T.inf t = some (z, n, by_)) (hc : CellN w0 M b i vs) (hn : vs.length = n) : YH P o (.agg vs.toArray) N L w0 M H := .mk fun ac w hF hH => by
  obtain ⟨ti, h1, _, h3, _⟩ := T.info hi
  have := run_loadN' T (a := ⟨b, i, none⟩) hg h1 (w := w) (h3.trans hn.symm) (fun j u hj => by rw [Addr.add_lit]; exact hc.at_ hH hj)
  simp [execOp, ho, hF.ev hx, Instr.loadAt, Instr.sureAddr, this]

theorem blk_cell {g : Nat} {t : TypeId} {cs : List Value} {w : World} (h : (blkC g t cs).A w) (i : Nat) : w.cell? ⟨g, i, none⟩ = cs[i]? := by
  rw [cell_of_row w g i cs.toArray t (0, 0) h]; simp

theorem yh_loadB {t e : TypeId} {x : Operand} {b i k : Nat} {cs : List Value} (ho : o.op = .load t x) (hx : ev L x = some (.pointer (some ⟨b, i, none⟩))) (hg : T.agg t = some false)
    (hi : H[k]? = some (blkC b e cs)) (hv : cs[i]? = some v) : YH P o v N L w0 M H := .mk fun ac w hF hH => by
  have hc : w.cell? ⟨b, i, none⟩ = some v := (blk_cell (hH.at hi) i).trans hv
  simp [execOp, ho, hF.ev hx, Instr.loadAt, Instr.sureAddr, run_load1' T hg hc]

theorem yh_loadBN {t e : TypeId} {x : Operand} {b i k n : Nat} {cs vs : List Value} {z : Value} {by_ : Nat} (ho : o.op = .load t x) (hx : ev L x = some (.pointer (some ⟨b, i, none⟩))) (hg : T.agg t = some true)
    (hin : T.inf t = some (z, n, by_)) (hi : H[k]? = some (blkC b e cs)) (hv : (cs.drop i).take n = vs) (hn : vs.length = n) : YH P o (.agg vs.toArray) N L w0 M H := .mk fun ac w hF hH => by
  obtain ⟨ti, h1, _, h3, _⟩ := T.info hin
  have := run_loadN' T (a := ⟨b, i, none⟩) hg h1 (w := w) (h3.trans hn.symm) (fun j u hj => by
    rw [Addr.add_lit, blk_cell (hH.at hi)]
    rw [← hv, List.getElem?_take] at hj
    split at hj
    · rw [List.getElem?_drop] at hj; exact hj
    · cases hj)
  simp [execOp, ho, hF.ev hx, Instr.loadAt, Instr.sureAddr, this]

/-- A load of one cell whose content is known of every world of the state. -/
theorem yh_loadS {t : TypeId} {x : Operand} {a : Addr} (ho : o.op = .load t x) (hx : ev L x = some (.pointer (some a))) (hg : T.agg t = some false)
    (hc : ∀ w, Hp w0 M H w → w.cell? a = some v) : YH P o v N L w0 M H := .mk fun ac w hF hH => by
  simp [execOp, ho, hF.ev hx, Instr.loadAt, Instr.sureAddr, run_load1' T hg (hc w hH)]

theorem yh_field {s : TypeId} {x : Operand} {f k b i : Nat} (ho : o.op = .fieldAddr s x f) (hx : ev L x = some (.pointer (some ⟨b, i, none⟩))) (hk : T.fld s f = some k) :
    YH P o (.pointer (some ⟨b, i + k, none⟩)) N L w0 M H := .mk fun ac w hF hH => by
  obtain ⟨fs, fd, z, n, by_, hu, hf, hoff, hin⟩ := T.fld_ok hk
  obtain ⟨ti, h1, _, h3, _⟩ := T.info hin
  have hp : (fieldPlace ⟨b, i, none⟩ fd).run P w = .ok ⟨b, i + k, none⟩ w := by
    simp [fieldPlace, sizeOf, typeInfo, h1, h3, Addr.add_lit, hoff]
  simp [execOp, ho, hF.ev hx, Instr.fieldAt, run_underlying hu, hf, Instr.sureAddr, hp]

theorem yh_index {t ix e : TypeId} {x y : Operand} {b i n c k s by_ : Nat} {m : Int} {kk : IntKind} {z : Value} (_ix : ix = 0) (ho : o.op = .indexAddr t x y) (hx : ev L x = some (.slice (some ⟨b, i, none⟩) n c)) (hy : ev L y = some (.int kk m))
    (hm : m = (k : Int)) (hk : k < n) (hu : T.sle t = some e) (hin : T.inf e = some (z, s, by_)) : YH P o (.pointer (some ⟨b, i + k * s, none⟩)) N L w0 M H := .mk fun ac w hF hH => by
  obtain ⟨ti, h1, _, h3, _⟩ := T.info hin
  subst hm
  simp [execOp, ho, hF.ev hx, hF.ev hy, Instr.indexAt, asIntOf, run_underlying (T.sle_ok hu), hk, sizeOf, typeInfo, h1, h3, Addr.add_lit]

theorem yh_indexP {t e : TypeId} {x y : Operand} {b i n c k s by_ : Nat} {m : Int} {kk : IntKind} {z : Value} (ho : o.op = .indexAddr t x y) (hx : ev L x = some (.slice (some ⟨b, i, none⟩) n c)) (hy : ev L y = some (.int kk m))
    (hm : m = (k : Int) - 1) (hk : 1 ≤ k ∧ k - 1 < n) (hu : T.sle t = some e) (hin : T.inf e = some (z, s, by_)) : YH P o (.pointer (some ⟨b, i + (k - 1) * s, none⟩)) N L w0 M H :=
  yh_index T (ix := 0) rfl ho hx hy (hm.trans (by omega)) hk.2 hu hin

theorem yh_lenS {t : TypeId} {ts : Array TypeId} {x : Operand} {a : Option Addr} {n c : Nat} {e : TypeId} (ho : o.op = .call { callee := .builtin .len, args := #[x], argTypes := ts }) (ht : ts = #[t]) (hx : ev L x = some (.slice a n c)) (hu : T.sle t = some e) :
    YH P o (.int .i64 n) N L w0 M H := .mk fun ac w hF hH => by
  subst ht
  simp [execOp, ho, resolve, hF.ev hx, invoke, builtin, Builtin.len_, run_underlying (T.sle_ok hu), goInt]

theorem yh_lenT {t : TypeId} {ts : Array TypeId} {x : Operand} {s : ByteArray} (ho : o.op = .call { callee := .builtin .len, args := #[x], argTypes := ts }) (ht : ts = #[t]) (hx : ev L x = some (.string s)) (hu : T.str t = some ()) :
    YH P o (.int .i64 s.size) N L w0 M H := .mk fun ac w hF hH => by
  subst ht
  simp [execOp, ho, resolve, hF.ev hx, invoke, builtin, Builtin.len_, run_underlying (T.str_ok hu), goInt]

/-- s[i], a byte. -/
theorem yh_indexT {t : TypeId} {x y : Operand} {s : ByteArray} {k : Nat} {m : Int} {kk : IntKind} (ho : o.op = .index t x y) (hx : ev L x = some (.string s)) (hy : ev L y = some (.int kk m)) (hm : m = (k : Int)) (hk : k < s.size)
    (hu : T.str t = some ()) : YH P o (.int .u8 (s[k]'hk).toNat) N L w0 M H := .mk fun ac w hF hH => by
  subst hm
  simp [execOp, ho, hF.ev hx, hF.ev hy, Instr.index, asIntOf, run_underlying (T.str_ok hu), hk]

theorem yh_sliceH {t e : TypeId} {x y : Operand} {a : Option Addr} {n c k : Nat} {m : Int} {kk : IntKind} {z : Value} {s by_ : Nat} (ho : o.op = .slice t x none (some y) none) (hx : ev L x = some (.slice a n c)) (hy : ev L y = some (.int kk m))
    (hm : m = (k : Int)) (hk : k ≤ c) (hu : T.sle t = some e) (hin : T.inf e = some (z, s, by_)) : YH P o (.slice a k c) N L w0 M H := .mk fun ac w hF hH => by
  obtain ⟨ti, h1, _, h3, _⟩ := T.info hin
  subst hm
  have hA : (a.map fun x => x.add 0) = a := by cases a <;> simp [Addr.add]
  simp [execOp, ho, hF.ev hx, hF.ev hy, Instr.sliceAt, Instr.slice, run_underlying (T.sle_ok hu), Instr.sliceBounds, Instr.sliceBound, asIntOf, hk, sizeOf, typeInfo, h1, hA]

theorem yh_sliceL {t e : TypeId} {x y : Operand} {a : Option Addr} {n c k : Nat} {m : Int} {kk : IntKind} {z : Value} {s by_ : Nat} (ho : o.op = .slice t x (some y) none none) (hx : ev L x = some (.slice a n c)) (hy : ev L y = some (.int kk m))
    (hm : m = (k : Int)) (hk : k ≤ n) (hu : T.sle t = some e) (hin : T.inf e = some (z, s, by_)) : YH P o (.slice (if c = k then a else a.map (·.add (k * s))) (n - k) (c - k)) N L w0 M H := .mk fun ac w hF hH => by
  obtain ⟨ti, h1, _, h3, _⟩ := T.info hin
  subst hm
  simp [execOp, ho, hF.ev hx, hF.ev hy, Instr.sliceAt, Instr.slice, run_underlying (T.sle_ok hu), Instr.sliceBounds, Instr.sliceBound, asIntOf, hk, sizeOf, typeInfo, h1, h3]

theorem kk_wl {ops : Array Oper} {rest : List Oper} (h : WL P ops Q rest N L w0 M H) : KK (wpList P ops Q rest) N L w0 M H := .mk h.go

/-! ### Operations that make or write memory -/

theorem Hp.alloc {w : World} (h : Hp w0 M H w) (t : TypeId) (cs : List Value) : Hp w0 M (blkC w.heap.size t cs :: H) (w.alloc (.cells cs.toArray t)) :=
  h.new (C := [blkC w.heap.size t cs]) (ExtM.alloc w _) ⟨by
    intro c hc
    simp at hc
    subst hc
    exact heap_alloc_new w _, by simp [ff, blkC], by simp [ff, blkC]⟩

theorem ow_box {t : TypeId} {x : Operand} (ho : o.op = .box t x) (hx : ev L x = some v) (hd : o.dst = some d) (hN : Nat.blt d N = true)
    (h : ∀ g, KK K N ((d, .pointer (some ⟨g, 0, none⟩)) :: L) w0 M (blkC g t v.cells.toList :: H)) : OW P o Q K N L w0 M H := .mk fun a w hF hH => by
  have hr : (execOp a.eval o).run P w = .ok (.value (.pointer (some ⟨w.heap.size, 0, none⟩))) (w.alloc (.cells v.cells t)) := by
    simp [execOp, ho, hF.ev hx, Instr.box, newVar, newRow]
  unfold Oper.wp
  rw [hr]
  show K (a.put o.dst _) _
  rw [hd]
  have := (h w.heap.size).go _ (w.alloc (.cells v.cells t)) (hF.put _ hN) (by simpa using hH.alloc t v.cells.toList)
  exact this

theorem ow_alloc {t : TypeId} {z : Value} {s by_ : Nat} (ho : o.op = .alloc t) (hin : T.inf t = some (z, s, by_)) (hd : o.dst = some d) (hN : Nat.blt d N = true)
    (h : ∀ g, KK K N ((d, .pointer (some ⟨g, 0, none⟩)) :: L) w0 M (blkC g t z.cells.toList :: H)) : OW P o Q K N L w0 M H := .mk fun a w hF hH => by
  obtain ⟨ti, h1, h2, _, _⟩ := T.info hin
  have hr : (execOp a.eval o).run P w = .ok (.value (.pointer (some ⟨w.heap.size, 0, none⟩))) (w.alloc (.cells z.cells t)) := by
    simp [execOp, ho, Instr.alloc, newVar, newRow, zeroValue, typeInfo, h1, h2]
  unfold Oper.wp
  rw [hr]
  show K (a.put o.dst _) _
  rw [hd]
  have := (h w.heap.size).go _ (w.alloc (.cells z.cells t)) (hF.put _ hN) (by simpa using hH.alloc t z.cells.toList)
  exact this

/-- Cells of vs written into cs from place i on. -/
def put (cs vs : List Value) (i : Nat) : List Value := cs.take i ++ vs ++ cs.drop (i + vs.length)

theorem run_storeBlk {g : Nat} {e : TypeId} {cs vs : List Value} {i : Nat} {w : World} (h : (blkC g e cs).A w) (hfit : i + vs.length ≤ cs.length) (h1 : ∀ u ∈ vs, u.oneCell' = true) :
    (storeCells ⟨g, i, none⟩ vs).run P w = .ok () (w.setRow g (put cs vs i).toArray) := by
  have := run_storeCells_at P g i e vs 0 cs.toArray w h (by simpa using hfit) h1
  simpa [put] using this

theorem Hp.setRow {w : World} {g : Nat} {e : TypeId} {cs cs' : List Value} {k : Nat} (h : Hp w0 M H w) (hi : H[k]? = some (blkC g e cs)) :
    Hp w0 M (blkC g e cs' :: H.eraseIdx k) (w.setRow g cs'.toArray) := by
  have h1 : Hp w0 M ([blkC g e cs] ++ H.eraseIdx k) w := h.front hi
  refine h1.mod (C' := [blkC g e cs']) ⟨rfl, rfl, rfl, by simp, fun b _ hb => setRow_other w g b _ (fun e' => hb (by subst e'; simp [ff, blkC]))⟩ ?_ (by simp [ff, blkC]) (by simp [ff, blkC])
  intro c hc
  simp at hc
  subst hc
  exact setRow_heap w g cs.toArray cs'.toArray e _ (h.at hi)

/-- A store into a block of the call's own. -/
theorem ow_store {t e : TypeId} {x y : Operand} {g i n k by_ : Nat} {z : Value} {cs cs' : List Value} (ho : o.op = .store t x y) (hx : ev L x = some (.pointer (some ⟨g, i, none⟩))) (hy : ev L y = some v)
    (hin : T.inf t = some (z, n, by_)) (hi : H[k]? = some (blkC g e cs)) (hn : v.cells.toList.length = n) (hfit : i + n ≤ cs.length) (h1 : v.cells.toList.all (·.oneCell') = true) (hc : put cs v.cells.toList i = cs') (hd : o.dst = none)
    (h : KK K N L w0 M (blkC g e cs' :: H.eraseIdx k)) : OW P o Q K N L w0 M H := .mk fun a w hF hH => by
  obtain ⟨ti, g1, _, g3, _⟩ := T.info hin
  have hs := run_storeBlk (P := P) (hH.at hi) (vs := v.cells.toList) (i := i) (by omega) (fun u hu => (List.all_eq_true.1 h1) u hu)
  have hsz : v.cells.size = n := by simpa using hn
  have hr : (execOp a.eval o).run P w = .ok .skip (w.setRow g cs'.toArray) := by
    simp [execOp, ho, hF.ev hx, hF.ev hy, Instr.storeAt, Instr.sureAddr, storeVar, sizeOf, typeInfo, g1, g3, hsz, hs, hc]
  unfold Oper.wp
  rw [hr]
  show K (a.put o.dst _) _
  rw [hd]
  exact h.go _ _ hF (hH.setRow hi)

/-! ### Calls -/

/-- Function f, called so, returns; what it may write of old blocks is M; R says what it hands back and what stands then. -/
def Ret (P : Program) (f : FuncId) (args : List Value) (w : World) (M : List Nat) (R : Value → World → Prop) : Prop :=
  Calls P f args.toArray w fun e w' => ∃ v, e = .returned v ∧ ExtM M w w' ∧ R v w'

theorem Ret.mono {f : FuncId} {args : List Value} {w : World} {M : List Nat} {R R' : Value → World → Prop} (h : Ret P f args w M R) (hr : ∀ v w', ExtM M w w' → R v w' → R' v w') : Ret P f args w M R' :=
  Calls.mono h fun _ _ ⟨v, he, hx, h⟩ => ⟨v, he, hx, hr v _ hx h⟩

/-- Is it a function with a body? -/
def hasBody (P : Program) (f : FuncId) : Prop := ∃ fn, P.funcs[f]? = some fn ∧ fn.body.isNone = false ∧ fn.name ≠ "runtime.NumGoroutine"

theorem run_callFunc {f : FuncId} {args : Array Value} (h : hasBody P f) (w : World) : (callFunc f args).run P w = .ok (.enter f args) w := by
  obtain ⟨fn, hf, hb, hn⟩ := h
  simp only [callFunc, Sem.run_bind, run_program, Result.andThen_ok, hf, beq_iff_eq, hn, if_false, hb, Bool.false_eq_true, Sem.run_pure]

theorem ow_call {f : FuncId} {fo : Operand} {xs : List Operand} {ts : Array TypeId} {vs : List Value} {first captured : Array Value} {args : List Value} {C : List Ch} {R : Value → World → Prop}
    (ho : o.op = .call { callee := .value fo, args := xs.toArray, argTypes := ts }) (hf : ev L fo = some (.func (.func f) first captured)) (hb : hasBody P f) (hx : evs L xs = some vs) (ha : first.toList ++ vs ++ captured.toList = args)
    (hc : ∀ w, Hp w0 M H w → Ret P f args w (ff C) R)
    (hd : o.dst = some d) (hN : Nat.blt d N = true)
    (h : ∀ v w', R v w' → (∀ a, Fr a N ((d, v) :: L) → (∃ w, Hp w0 M H w ∧ ExtM (ff C) w w') → K a w')) : OW P o Q K N L w0 M H := .mk fun a w hF hHp => by
  have hargs : (first ++ (xs.toArray.map a.eval)) ++ captured = args.toArray := by
    rw [← ha, List.map_toArray, hF.evs hx]
    apply Array.ext'
    simp
  have hr : (execOp a.eval o).run P w = .ok (.enter f args.toArray) w := by
    simp only [execOp, ho, resolve, hF.ev hf, Deferred.ofValue, Sem.run_bind, Sem.run_pure, Result.andThen_ok, invoke]
    rw [hargs]
    exact run_callFunc hb w
  unfold Oper.wp
  rw [hr]
  refine Calls.mono (hc w hHp) ?_
  rintro e w' ⟨v, rfl, hx, hR⟩
  show K (a.put o.dst v) w'
  rw [hd]
  exact h v w' hR _ (hF.put v hN) ⟨w, hHp, hx⟩

/-- A call that hands back a known value and writes nothing that was there. -/
theorem ow_callV {f : FuncId} {fo : Operand} {xs : List Operand} {ts : Array TypeId} {vs : List Value} {first captured : Array Value} {args : List Value}
    (ho : o.op = .call { callee := .value fo, args := xs.toArray, argTypes := ts }) (hf : ev L fo = some (.func (.func f) first captured)) (hb : hasBody P f) (hx : evs L xs = some vs) (ha : first.toList ++ vs ++ captured.toList = args)
    (hc : ∀ w, Hp w0 M H w → Ret P f args w [] fun u _ => u = v)
    (hd : o.dst = some d) (hN : Nat.blt d N = true) (h : KK K N ((d, v) :: L) w0 M H) : OW P o Q K N L w0 M H :=
  ow_call (C := []) ho hf hb hx ha hc hd hN fun u w' hu a hF ⟨w, hHp, hE⟩ => by
    subst hu
    exact h.go a w' hF (hHp.step hE)

/-- A call that makes new memory: the value and the new pieces are told up to what i is. -/
theorem ow_callN {ι : Type} {f : FuncId} {fo : Operand} {xs : List Operand} {ts : Array TypeId} {vs : List Value} {first captured : Array Value} {args : List Value} (V : ι → Value) (C : ι → List Ch) (I : ι → Prop)
    (ho : o.op = .call { callee := .value fo, args := xs.toArray, argTypes := ts }) (hf : ev L fo = some (.func (.func f) first captured)) (hb : hasBody P f) (hx : evs L xs = some vs) (ha : first.toList ++ vs ++ captured.toList = args)
    (hc : ∀ w, Hp w0 M H w → Ret P f args w [] fun u w' => ∃ i, I i ∧ u = V i ∧ NewC w w' (C i))
    (hd : o.dst = some d) (hN : Nat.blt d N = true) (h : ∀ i, I i → KK K N ((d, V i) :: L) w0 M (C i ++ H)) : OW P o Q K N L w0 M H := .mk fun a w hF hHp => by
  have hargs : (first ++ (xs.toArray.map a.eval)) ++ captured = args.toArray := by
    rw [← ha, List.map_toArray, hF.evs hx]
    apply Array.ext'
    simp
  have hr : (execOp a.eval o).run P w = .ok (.enter f args.toArray) w := by
    simp only [execOp, ho, resolve, hF.ev hf, Deferred.ofValue, Sem.run_bind, Sem.run_pure, Result.andThen_ok, invoke]
    rw [hargs]
    exact run_callFunc hb w
  unfold Oper.wp
  rw [hr]
  refine Calls.mono (hc w hHp) ?_
  rintro e w' ⟨v, rfl, hx, i, hI, rfl, hC⟩
  show K (a.put o.dst _) w'
  rw [hd]
  exact (h i hI).go _ _ (hF.put _ hN) (hHp.new hx hC)

/-! ### Entering, leaving -/

def argSL : Nat → List Value → SL
  | _, [] => []
  | n, v :: vs => (n, v) :: argSL (n + 1) vs

theorem argSL_get : ∀ (vs : List Value) (n i : Nat) (v : Value), sget (argSL n vs) i = some v → n ≤ i ∧ vs[i - n]? = some v
  | [], n, i, v, h => by simp [argSL, sget] at h
  | u :: vs, n, i, v, h => by
    unfold argSL at h
    by_cases e : n = i
    · subst e
      rw [sget_cons_self] at h
      injection h with h
      subst h
      simp
    · rw [sget_cons_ne u _ e] at h
      have := argSL_get vs (n + 1) i v h
      refine ⟨by omega, ?_⟩
      rw [show i - n = (i - (n + 1)) + 1 by omega]
      simpa using this.2

theorem ret_enter {f : FuncId} {fn : Func} {c : Code} {args : List Value} {w : World} {R : Value → World → Prop} (hf : P.funcs[f]? = some fn) (hb : fn.body = some c) (hn : fn.ntmps = N) (hN : Nat.ble args.length N = true)
    (hH : Hp w M H w) (h : CW P c (bodyPost P fn (fun e w' => ∃ v, e = .returned v ∧ ExtM M w w' ∧ R v w')) N (argSL 0 args) w M H) : Ret P f args w M R := by
  refine calls_of_wp hf hb (h.go _ _ ⟨rfl, ?_, ?_⟩ hH)
  · have := Nat.le_of_ble_eq_true hN
    simp [hn]
    omega
  · intro n v _ hv
    obtain ⟨_, hv⟩ := argSL_get _ _ _ _ hv
    have hlt : n < args.length := by have := (List.getElem?_eq_some_iff.1 hv).1; simpa using this
    simp only [Nat.sub_zero] at hv
    have hv2 := (List.getElem?_eq_some_iff.1 hv).2
    simp [Array.getElem?_append, hlt, hv2]

theorem ex_ret1 {fn : Func} {t : Tmp} {R : Ending → World → Prop} (hr : fn.results = #[.tmp t]) (hv : ev L (.tmp t) = some v) (h : ∀ w, Hp w0 M H w → R (.returned v) w) : EX (bodyPost P fn R) .ret N L w0 M H :=
  .mk fun a w hF hH => bodyPost_ret (results_tmp hr a.tmps P w) hF.dfr (by rw [show a.tmps.getD t undef = v from hF.ev hv]; exact h w hH)
theorem ex_ret2 {fn : Func} {t u : Tmp} {v2 : Value} {R : Ending → World → Prop} (hr : fn.results = #[.tmp t, .tmp u]) (hv : ev L (.tmp t) = some v) (hv2 : ev L (.tmp u) = some v2) (h : ∀ w, Hp w0 M H w → R (.returned (.tuple #[v, v2])) w) :
    EX (bodyPost P fn R) .ret N L w0 M H :=
  .mk fun a w hF hH => bodyPost_ret (results_tmp2 hr a.tmps P w) hF.dfr (by rw [show a.tmps.getD t undef = v from hF.ev hv, show a.tmps.getD u undef = v2 from hF.ev hv2]; exact h w hH)
end

end Go.Proofs.YtacecnffggffmaaDoor
