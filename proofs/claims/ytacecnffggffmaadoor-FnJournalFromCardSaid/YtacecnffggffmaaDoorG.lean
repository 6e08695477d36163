/- Rows of the call's own whose elements' slices are shared with what is only read. -/
import Derived.Test.YtacecnffggffmaaDoorE
set_option linter.all false
namespace Go.Proofs.YtacecnffggffmaaDoor
open Go.RowKit

/-- Elements that are read as they stood in a world gone by. -/
def froz {α : Type} (w0 : World) (M : List Nat) (A : Lay α) : Lay α where
  size := A.size
  rd := fun _ _ cs x => A.rd w0 M cs x
  rd_ext := fun h _ => h
  rd_mono := fun h _ => h
  rd_len := fun h => A.rd_len h
  rd_one := fun h => A.rd_one h
  ow := fun _ F cs x => F = [] ∧ A.rd w0 M cs x
  ow_stb := fun h _ => h
  ow_lt := fun h b hb => by rw [h.1] at hb; simp at hb
  ow_rd := fun h _ => h.2

theorem froz_nil {α : Type} {A : Lay α} {w0 w : World} {M F : List Nat} {e : TypeId} {v : Value} (h : (sl e A).ow w F [v] []) : (sl e (froz w0 M A)).ow w F [v] [] := h

theorem rd_news {α : Type} {A : Lay α} {w0 w : World} {M : List Nat} {b : Nat} : ∀ (l : List α) (o : Nat), (∀ k x, l[k]? = some x → ∃ es, (∀ (j : Nat) (u : Value), es[j]? = some u → w0.cell? ⟨b, o + k * A.size + j, none⟩ = some u) ∧ A.rd w0 M es x) →
    ∃ news, owL (froz w0 M A) w (List.replicate l.length []) news l ∧ ∀ (j : Nat) (u : Value), news[j]? = some u → w0.cell? ⟨b, o + j, none⟩ = some u
  | [], o, h => ⟨[], ⟨rfl, rfl⟩, by simp⟩
  | x :: t, o, h => by
    obtain ⟨es, h1, h2⟩ := h 0 x rfl
    obtain ⟨news, h3, h4⟩ := rd_news (w := w) t (o + A.size) (fun k y hy => by
      obtain ⟨es, g1, g2⟩ := h (k + 1) y (by simpa using hy)
      refine ⟨es, fun j u hj => ?_, g2⟩
      have := g1 j u hj
      rwa [show o + (k + 1) * A.size + j = o + A.size + k * A.size + j by rw [Nat.add_mul]; omega] at this)
    have hes := A.rd_len h2
    refine ⟨es ++ news, ⟨[], List.replicate t.length [], es, news, rfl, rfl, ⟨rfl, h2⟩, h3⟩, fun j u hj => ?_⟩
    rcases Nat.lt_or_ge j es.length with hlt | hge
    · rw [List.getElem?_append_left hlt] at hj
      have := h1 j u hj
      rwa [Nat.zero_mul, Nat.add_zero] at this
    · rw [List.getElem?_append_right hge] at hj
      have := h4 (j - es.length) u hj
      rwa [show o + A.size + (j - es.length) = o + j by omega] at this

theorem flatten_rep (n : Nat) : (List.replicate n ([] : List Nat)).flatten = [] := by
  induction n with
  | zero => rfl
  | succ n ih => rw [List.replicate_succ, List.flatten_cons, ih]; rfl

theorem rd_froz {α : Type} {A : Lay α} {w0 w1 w : World} {M : List Nat} {e : TypeId} {v : Value} {l : List α} (h : (sl e (froz w0 M A)).rd w [] [v] l) (he : ExtM M w0 w) : (sl e A).rd w [] [v] l := by
  obtain ⟨a, c, hv, h1, h2, h3⟩ := h
  refine ⟨a, c, hv, h1, h2, fun hn => ?_⟩
  obtain ⟨b, o, ha, hb, hlt, hk⟩ := h3 hn
  refine ⟨b, o, ha, hb, hlt, fun k x hx => ?_⟩
  obtain ⟨es, g1, g2⟩ := hk k x hx
  exact ⟨es, g1, A.rd_mono (A.rd_ext g2 he) (by simp)⟩

section
variable {P : Program} (T : Tab P) {Q : Exit → Act → World → Prop} {N : Nat} {L : SL} {w0 : World} {M : List Nat} {H : List Ch} {o : Oper} {K : Act → World → Prop} {d : Nat}

/-- What is read of such a row. -/
theorem rdz {α : Type} {A : Lay α} {e : TypeId} {F : List Nat} {v : Value} {l : List α} {w : World} (i : Nat) (hi : H[i]? = some (owC (sl e (froz w0 M A)) F [v] l)) (hH : Hp w0 M H w) : (sl e A).rd w [] [v] l :=
  rd_froz (w1 := w) ((sl e (froz w0 M A)).ow_rd (F := F) (M := []) (hH.at hi) (by simp)) hH.ext

/-- append of elements that are only read. -/
theorem ow_appF {α : Type} {A : Lay α} {s x : Operand} {ts : Array TypeId} {t e e2 : TypeId} {v : Value} {a : Option Addr} {m c by_ : Nat} {z : Value} {F : List Nat} {l l' : List α} (i : Nat)
    (ho : o.op = .call { callee := .builtin .append, args := #[s, x], argTypes := ts }) (hts : ts = #[t, t]) (h1 : ev L s = some v) (h2 : ev L x = some (.slice a m c)) (hi : H[i]? = some (owC (sl e (froz w0 M A)) F [v] l))
    (hrd : (sl e2 A).rd w0 M [.slice a m c] l') (ht : T.sle t = some e) (hin : T.inf e = some (z, A.size, by_)) (hz : z.cells.size = A.size) (hn : Nat.blt 0 A.size = true)
    (hlen : l.length + l'.length ≤ 4000000000) (hby : by_ ≤ 1000) (hd : o.dst = some d) (hN : Nat.blt d N = true)
    (h : ∀ a' c' F', KK K N ((d, .slice a' (l ++ l').length c') :: L) w0 M (owC (sl e (froz w0 M A)) F' [.slice a' (l ++ l').length c'] (l ++ l') :: H.eraseIdx i)) : OW P o Q K N L w0 M H := by
  refine ow_builtin2 (b := .append) ho h1 h2 hd hN fun w hH => ?_
  subst hts
  obtain ⟨rfl, _, _⟩ := sl_len hrd
  have hfront : Hp w0 M ([owC (sl e (froz w0 M A)) F [v] l] ++ H.eraseIdx i) w := hH.perm (front_perm hi)
  have hnd : F.Nodup := by
    have := hfront.nd
    rw [ff_append] at this
    simpa [ff, owC] using (List.nodup_append.1 this).1
  obtain ⟨a2, c2, hh, _, _, h3⟩ := hrd
  simp only [List.cons.injEq, Value.slice.injEq, and_true] at hh
  obtain ⟨rfl, _, rfl⟩ := hh
  obtain ⟨news, hnews, hcells⟩ : ∃ news, owL (froz w0 M A) w (List.replicate l'.length []) news l' ∧ ∀ (j : Nat) (u : Value), news[j]? = some u → ∃ ad, a = some ad ∧ w.cell? (ad.add j) = some u := by
    rcases Nat.eq_zero_or_pos l'.length with h0 | h0
    · have : l' = [] := List.eq_nil_of_length_eq_zero h0
      subst this
      exact ⟨[], ⟨rfl, rfl⟩, by simp⟩
    · obtain ⟨b, off, rfl, hb, _, hx⟩ := h3 h0
      obtain ⟨news, g1, g2⟩ := rd_news (w := w) l' off hx
      refine ⟨news, g1, fun j u hj => ⟨_, rfl, ?_⟩⟩
      rw [Addr.add_lit]
      exact hH.ext.cell (g2 j u hj) hb
  obtain ⟨a', c', w', F', r1, r2, r3, r4, r5⟩ := append_core T (A := froz w0 M A) (ty := o.type) (l' := l') (a := a) (c := c) ht hin hz (show 0 < A.size by simpa [Nat.blt_eq] using hn) (hH.at hi) hnews (by rw [flatten_rep]; simpa using hnd) hcells (by simp only [maxLen]; omega) (by
    have := Nat.mul_le_mul hlen hby
    omega)
  refine ⟨_, w', r1, fun a hF => ?_⟩
  refine (h a' c' F').go a w' hF ?_
  refine hfront.mod (C' := [owC (sl e (froz w0 M A)) F' [.slice a' (l ++ l').length c'] (l ++ l')]) (by simpa [ff, owC] using r5) ?_ (by simpa [ff, owC] using r3) ?_
  · intro ch hch
    simp only [List.mem_singleton] at hch
    subst hch
    exact r2
  · intro b hb
    simp only [ff, owC, List.flatMap_cons, List.flatMap_nil, List.append_nil] at hb ⊢
    have := r4 b hb
    rw [flatten_rep] at this
    simpa using this
end
end Go.Proofs.YtacecnffggffmaaDoor
