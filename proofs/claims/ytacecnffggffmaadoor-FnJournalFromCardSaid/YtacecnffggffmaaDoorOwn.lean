/- Rules for memory of the call's own: append, make, stores into elements; a map used as a set. -/
import Derived.Test.YtacecnffggffmaaDoorOps
set_option linter.all false
namespace Go.Proofs.YtacecnffggffmaaDoor
open Go.RowKit

theorem ownsRow_slice {w : World} {base : Nat} {e : TypeId} {size : Nat} {v : Value} {n : Nat} {xs : List Value} (h : w.ownsRow base e size v n xs) : ∃ a c, v = .slice a n c := by
  rcases h.2 with ⟨rfl, rfl⟩ | ⟨g, cap, cur, rfl, _⟩
  · exact ⟨_, _, rfl⟩
  · exact ⟨_, _, rfl⟩

theorem ow_slice {α : Type} {e : TypeId} {A : Lay α} {w : World} {F : List Nat} {v : Value} {l : List α} (h : (sl e A).ow w F [v] l) : ∃ a c, v = .slice a l.length c := by
  obtain ⟨v', xs, Fs, hv, ho, _⟩ := h
  simp only [List.cons.injEq, and_true] at hv
  subst hv
  exact ownsRow_slice ho

theorem owL_one {α : Type} {A : Lay α} {w : World} : ∀ {l : List α} {Fs : List (List Nat)} {cs : List Value}, owL A w Fs cs l → ∀ u ∈ cs, u.oneCell' = true
  | [], _, _, h => by obtain ⟨_, rfl⟩ := h; simp
  | x :: l, _, _, h => by
    obtain ⟨G, Gs, es, ds, rfl, rfl, hx, hl2⟩ := h
    intro u hu
    exact (List.mem_append.1 hu).elim (ow_one hx u) (owL_one hl2 u)

section
variable {P : Program} (T : Tab P)

theorem append_none {w : World} {t ty e : TypeId} {z : Value} {s by_ : Nat} (ht : T.sle t = some e) (hi : T.inf e = some (z, s, by_)) {v : Value} {n : Nat} {xs : List Value} (ho : w.ownsRow 0 e s v n xs) (c : Nat) :
    (Builtin.append_ #[t, t] ty #[v, .slice none 0 c]).run P w = .ok v w := by
  obtain ⟨i, h1, _, _, _⟩ := T.info hi
  rcases ho.2 with ⟨rfl, rfl⟩ | ⟨g, cap, cur, rfl, _, _, hnc, _⟩
  · simp [Builtin.append_, run_underlying (T.sle_ok ht), sizeOf, typeInfo, h1, Builtin.lenOf, Builtin.firstCells]
  · simp [Builtin.append_, run_underlying (T.sle_ok ht), sizeOf, typeInfo, h1, Builtin.lenOf, Builtin.firstCells, hnc, storeCells]

theorem append_core {α : Type} {A : Lay α} {w : World} {t ty e : TypeId} {z : Value} {by_ : Nat} (ht : T.sle t = some e) (hi : T.inf e = some (z, A.size, by_)) (hz : z.cells.size = A.size) (hs : 0 < A.size)
    {F : List Nat} {v : Value} {l l' : List α} (h : (sl e A).ow w F [v] l) {Fs' : List (List Nat)} {news : List Value} (hn : owL A w Fs' news l') (hnd : (F ++ Fs'.flatten).Nodup)
    {a : Option Addr} {c : Nat} (hc : ∀ j u, news[j]? = some u → ∃ ad, a = some ad ∧ w.cell? (ad.add j) = some u) (hlen : l.length + l'.length ≤ maxLen) (hby : (l.length + l'.length) * by_ ≤ 140737488355328) :
    ∃ a' c' w' F', (Builtin.append_ #[t, t] ty #[v, .slice a l'.length c]).run P w = .ok (.slice a' (l ++ l').length c') w' ∧ (sl e A).ow w' F' [.slice a' (l ++ l').length c'] (l ++ l') ∧ F'.Nodup ∧
      (∀ b ∈ F', b ∈ F ++ Fs'.flatten ∨ w.heap.size ≤ b) ∧ ExtM F w w' := by
  obtain ⟨v0, xs, Fs, hv, ho, hl, hF⟩ := h
  simp only [List.cons.injEq, and_true] at hv
  subst hv
  have hnl := owL_len hn
  obtain ⟨i, h1, h2, h3, h4⟩ := T.info hi
  have hrun : ∃ v' w', (Builtin.append_ #[t, t] ty #[v, .slice a l'.length c]).run P w = .ok v' w' ∧ w'.ownsRow 0 e A.size v' (l.length + l'.length) (xs ++ news) ∧ w.grownBy w' v.ownBlock ∧ (v'.ownBlock = v.ownBlock ∨ v'.ownBlock = some w.heap.size) := by
    by_cases h0 : l'.length = 0
    · have hne : news = [] := List.eq_nil_of_length_eq_zero (by rw [hnl.1, h0]; simp)
      subst hne
      cases a with
      | none =>
        rw [h0]
        exact ⟨v, w, append_none T ht hi ho c, by simpa [h0] using ho, ⟨rfl, rfl, rfl, Nat.le_refl _, fun _ _ _ => rfl⟩, .inl rfl⟩
      | some ad =>
        obtain ⟨v', w', g1, g2, g3, _, g5⟩ := run_append_own_at (P := P) w 0 t ty e i z A.size by_ (T.sle_ok ht) h1 h2 h3 h4 hz hs v l.length xs ho ad l'.length c [] hnl.1 (by simp) (by simp) hlen hby (Nat.zero_le _)
        exact ⟨v', w', g1, g2, g3, g5⟩
    · have hpos : 0 < news.length := by rw [hnl.1]; exact Nat.mul_pos (by omega) hs
      obtain ⟨ad, rfl, _⟩ := hc 0 _ (List.getElem?_eq_getElem hpos)
      have hone := owL_one hn
      obtain ⟨v', w', g1, g2, g3, _, g5⟩ := run_append_own_at (P := P) w 0 t ty e i z A.size by_ (T.sle_ok ht) h1 h2 h3 h4 hz hs v l.length xs ho ad l'.length c news hnl.1
        (fun j u hj => by obtain ⟨ad', he, hcell⟩ := hc j u hj; injection he with he; subst he; exact hcell) hone hlen hby (Nat.zero_le _)
      exact ⟨v', w', g1, g2, g3, g5⟩
  obtain ⟨v', w', hr, hown, hgr, hblk⟩ := hrun
  obtain ⟨a', c', rfl⟩ := ownsRow_slice hown
  have hll : l.length + l'.length = (l ++ l').length := by simp
  rw [hF] at hnd
  have hnd' : (v.ownBlock.toList ++ (Fs ++ Fs').flatten).Nodup := by simpa [List.flatten_append, List.append_assoc] using hnd
  have hlt : ∀ b ∈ (Fs ++ Fs').flatten, b < w.heap.size := by
    intro b hb
    rw [List.flatten_append] at hb
    exact (List.mem_append.1 hb).elim (owL_lt hl b) (owL_lt hn b)
  have hkeep : ∀ b ∈ (Fs ++ Fs').flatten, w'.heap[b]? = w.heap[b]? := fun b hb => hgr.block b (hlt b hb) (fun e1 => (List.nodup_append.1 hnd').2.2 b (by simp [← e1]) b hb rfl)
  refine ⟨a', c', w', (Value.slice a' (l.length + l'.length) c').ownBlock.toList ++ (Fs ++ Fs').flatten, by rw [← hll]; exact hr, ?_, ?_, ?_, ?_⟩
  · rw [← hll]
    refine ⟨_, xs ++ news, Fs ++ Fs', rfl, by rw [← hll]; exact hown, ?_, rfl⟩
    exact owL_append (owL_stb hl (fun b hb => hkeep b (by rw [List.flatten_append]; exact List.mem_append.2 (.inl hb)))) (owL_stb hn (fun b hb => hkeep b (by rw [List.flatten_append]; exact List.mem_append.2 (.inr hb))))
  · rcases hblk with e1 | e1
    · rw [e1]; exact hnd'
    · rw [e1]
      simp only [Option.toList_some, List.cons_append, List.nil_append]
      exact List.nodup_cons.2 ⟨fun hm => by have := hlt _ hm; omega, (List.nodup_append.1 hnd').2.1⟩
  · intro b hb
    rcases List.mem_append.1 hb with hb | hb
    · rcases hblk with e1 | e1
      · rw [e1] at hb
        exact .inl (by rw [hF]; exact List.mem_append.2 (.inl (List.mem_append.2 (.inl hb))))
      · rw [e1] at hb
        simp at hb
        exact .inr (by omega)
    · rw [List.flatten_append] at hb
      refine .inl ?_
      rw [hF, List.append_assoc]
      exact List.mem_append.2 (.inr hb)
  · refine ⟨hgr.os, hgr.tape, hgr.output, hgr.size, fun b hb hnb => hgr.block b hb (fun e1 => hnb ?_)⟩
    rw [hF]
    exact List.mem_append.2 (.inl (by simp [← e1]))

variable {Q : Exit → Act → World → Prop} {N : Nat} {L : SL} {w0 : World} {M : List Nat} {H : List Ch} {o : Oper} {K : Act → World → Prop} {d : Nat}

/-- A call of append, met by what its run gives. -/
theorem ow_builtin2 {b : Builtin} {s x : Operand} {ts : Array TypeId} {v1 v2 : Value} (ho : o.op = .call { callee := .builtin .append, args := #[s, x], argTypes := ts }) (h1 : ev L s = some v1) (h2 : ev L x = some v2) (hd : o.dst = some d)
    (hN : Nat.blt d N = true) (h : ∀ w, Hp w0 M H w → ∃ v w', (Builtin.append_ ts o.type #[v1, v2]).run P w = .ok v w' ∧ ∀ a, Fr a N ((d, v) :: L) → K a w') : OW P o Q K N L w0 M H := .mk fun a w hF hH => by
  obtain ⟨v, w', hr, hk⟩ := h w hH
  unfold Oper.wp
  have : (execOp a.eval o).run P w = .ok (.value v) w' := by
    simp [execOp, ho, resolve, hF.ev h1, hF.ev h2, invoke, builtin, hr]
  rw [this]
  show K (a.put o.dst v) w'
  rw [hd]
  exact hk _ (hF.put v hN)

/-- append onto a slice of the call's own: plain elements, read from wherever. -/
theorem ow_appP {α : Type} {n : Nat} {enc : α → List Value} {hel : ∀ x, (enc x).length = n} {he1 : ∀ x, ∀ u ∈ enc x, u.oneCell' = true} {s x : Operand} {ts : Array TypeId} {t e e2 : TypeId} {v : Value} {a : Option Addr} {m c i by_ : Nat} {z : Value} {F : List Nat} {l l' : List α}
    (ho : o.op = .call { callee := .builtin .append, args := #[s, x], argTypes := ts }) (hts : ts = #[t, t]) (h1 : ev L s = some v) (h2 : ev L x = some (.slice a m c)) (hi : H[i]? = some (owC (sl e (plain n enc hel he1)) F [v] l))
    (hr : ∀ w, Hp w0 M H w → (sl e2 (plain n enc hel he1)).rd w [] [.slice a m c] l') (ht : T.sle t = some e) (hin : T.inf e = some (z, n, by_)) (hz : z.cells.size = n) (hn : Nat.blt 0 n = true)
    (hlen : l.length + l'.length ≤ 4000000000) (hby : by_ ≤ 1000) (hd : o.dst = some d) (hN : Nat.blt d N = true)
    (h : ∀ a' c' F', KK K N ((d, .slice a' (l ++ l').length c') :: L) w0 M (owC (sl e (plain n enc hel he1)) F' [.slice a' (l ++ l').length c'] (l ++ l') :: H.eraseIdx i)) : OW P o Q K N L w0 M H := by
  refine ow_builtin2 (b := .append) ho h1 h2 hd hN fun w hH => ?_
  subst hts
  have hrd := hr w hH
  obtain ⟨rfl, _, _⟩ := sl_len hrd
  have hfront : Hp w0 M ([owC (sl e (plain n enc hel he1)) F [v] l] ++ H.eraseIdx i) w := hH.front hi
  have hnd : F.Nodup := by
    have := hfront.nd
    rw [ff_append] at this
    simpa [ff, owC] using (List.nodup_append.1 this).1
  obtain ⟨a', c', w', F', r1, r2, r3, r4, r5⟩ := append_core T (A := plain n enc hel he1) (ty := o.type) (l' := l') (a := a) (c := c) ht hin hz (show 0 < n by simpa [Nat.blt_eq] using hn) (hH.at hi) (owL_plain (hl := hel) (h1 := he1) w l') (by rw [flatten_nils]; simpa using hnd)
    (fun j u hj => by
      obtain ⟨a2, c2, hh, _, _, h3⟩ := hrd
      simp only [List.cons.injEq, Value.slice.injEq, and_true] at hh
      obtain ⟨rfl, _⟩ := hh
      have hpos : 0 < l'.length := by
        rcases Nat.eq_zero_or_pos l'.length with h0 | h0
        · have : l' = [] := List.eq_nil_of_length_eq_zero h0
          subst this
          simp at hj
        · exact h0
      obtain ⟨b, off, rfl, _, _, hx⟩ := h3 hpos
      refine ⟨_, rfl, ?_⟩
      rw [Addr.add_lit]
      -- the j-th cell is in the element j / n
      have hn' : 0 < n := by simpa [Nat.blt_eq] using hn
      have hL := (owL_len (owL_plain (hl := hel) (h1 := he1) w l')).1
      have hjl : j < (l'.flatMap enc).length := (List.getElem?_eq_some_iff.1 hj).1
      rw [hL] at hjl
      have hq : j / n < l'.length := Nat.div_lt_of_lt_mul (by rw [Nat.mul_comm]; exact hjl)
      obtain ⟨es, hes, hes2⟩ := hx (j / n) _ (List.getElem?_eq_getElem hq)
      obtain ⟨F2, es2, _, ho2, hc2⟩ := owL_get (owL_plain (hl := hel) (h1 := he1) w l') (List.getElem?_eq_getElem hq)
      have hee : es = es2 := hes2.trans ho2.2.symm
      subst hee
      have hlt2 : j % n < es.length := by rw [ow_len ho2]; exact Nat.mod_lt _ hn'
      have hu := hc2 (j % n) _ (List.getElem?_eq_getElem hlt2)
      have hjj : j / n * n + j % n = j := by rw [Nat.mul_comm]; exact Nat.div_add_mod j n
      have hcell := hes (j % n) _ (List.getElem?_eq_getElem hlt2)
      have hsz : (plain n enc hel he1).size = n := rfl
      rw [hsz] at hu hcell
      rw [hjj] at hu
      rw [show off + j / n * n + j % n = off + j by omega] at hcell
      rw [hcell, ← hu, hj]) (by simp only [maxLen]; omega) (by
        have := Nat.mul_le_mul hlen hby
        omega)
  refine ⟨_, w', r1, fun a hF => ?_⟩
  refine (h a' c' F').go a w' hF ?_
  refine hfront.mod (C' := [owC (sl e (plain n enc hel he1)) F' [.slice a' (l ++ l').length c'] (l ++ l')]) (by simpa [ff, owC] using r5) ?_ (by simpa [ff, owC] using r3) ?_
  · intro ch hch
    simp only [List.mem_singleton] at hch
    subst hch
    exact r2
  · intro b hb
    simp only [ff, owC, List.flatMap_cons, List.flatMap_nil, List.append_nil] at hb ⊢
    have := r4 b hb
    rw [flatten_nils] at this
    simpa using this

/-- append of one element that is owned apart; its cells lie in a block of their own. -/
theorem ow_appE {α : Type} {A : Lay α} {s x : Operand} {ts : Array TypeId} {t e e2 : TypeId} {v : Value} {g c i j k by_ : Nat} {z : Value} {F F2 : List Nat} {l : List α} {es : List Value} {y : α}
    (ho : o.op = .call { callee := .builtin .append, args := #[s, x], argTypes := ts }) (hts : ts = #[t, t]) (h1 : ev L s = some v) (h2 : ev L x = some (.slice (some ⟨g, 0, none⟩) 1 c)) (hi : H[i]? = some (owC (sl e A) F [v] l))
    (hj : (H.eraseIdx i)[j]? = some (owC A F2 es y)) (hk : H[k]? = some (blkC g e2 es)) (ht : T.sle t = some e) (hin : T.inf e = some (z, A.size, by_)) (hz : z.cells.size = A.size) (hs : Nat.blt 0 A.size = true)
    (hlen : l.length ≤ 4000000000) (hby : by_ ≤ 1000) (hd : o.dst = some d) (hN : Nat.blt d N = true)
    (h : ∀ a' c' F', KK K N ((d, .slice a' (l ++ [y]).length c') :: L) w0 M (owC (sl e A) F' [.slice a' (l ++ [y]).length c'] (l ++ [y]) :: (H.eraseIdx i).eraseIdx j)) : OW P o Q K N L w0 M H := by
  refine ow_builtin2 (b := .append) ho h1 h2 hd hN fun w hH => ?_
  subst hts
  have hblk := hH.at hk
  have p1 := front_perm hi
  have p2 := front_perm hj
  have hfront : Hp w0 M ([owC (sl e A) F [v] l, owC A F2 es y] ++ (H.eraseIdx i).eraseIdx j) w := hH.perm (p1.trans (p2.cons _))
  have hnd : (F ++ F2).Nodup := by
    have := hfront.nd
    rw [ff_append] at this
    simpa [ff, owC] using (List.nodup_append.1 this).1
  have hy : A.ow w F2 es y := hfront.own (owC A F2 es y) (by simp)
  obtain ⟨a', c', w', F', r1, r2, r3, r4, r5⟩ := append_core T (A := A) (ty := o.type) (l' := [y]) (a := some ⟨g, 0, none⟩) (c := c) ht hin hz (by simpa [Nat.blt_eq] using hs) (hH.at hi) (owL_single hy) (by simpa using hnd)
    (fun q u hq => ⟨_, rfl, by rw [Addr.add_lit, Nat.zero_add, blk_cell hblk]; exact hq⟩) (by simp only [maxLen, List.length_singleton]; omega) (by
        have := Nat.mul_le_mul (show l.length + 1 ≤ 4000000001 by omega) hby
        simp only [List.length_singleton]
        omega)
  refine ⟨_, w', r1, fun a hF => ?_⟩
  refine (h a' c' F').go a w' hF ?_
  refine hfront.mod (C' := [owC (sl e A) F' [.slice a' (l ++ [y]).length c'] (l ++ [y])]) (r5.mono (fun b hb => by simp [ff, owC, hb])) ?_ (by simpa [ff, owC] using r3) ?_
  · intro ch hch
    simp only [List.mem_singleton] at hch
    subst hch
    exact r2
  · intro b hb
    simp only [ff, owC, List.flatMap_cons, List.flatMap_nil, List.append_nil] at hb ⊢
    simpa using r4 b hb
end

/-! ## A map of strings to true, as a set -/

def mapC (r : Nat) (ks : List ByteArray) : Ch where
  A := fun w => ∃ es clock, w.heap[r]? = some (.map es clock) ∧ es.toList.map (fun e => (e.key, e.val)) = ks.map fun s => (Value.string s, Value.bool true)
  F := [r]
  stb := fun w w' h ⟨es, clock, h1, h2⟩ => ⟨es, clock, by rw [h r (by simp)]; exact h1, h2⟩
  lt := fun w ⟨es, clock, h1, _⟩ b hb => by
    simp at hb
    subst hb
    exact (Array.getElem?_eq_some_iff.1 h1).1

theorem findNow_set : ∀ (es : List MapEntry) (ks : List ByteArray) (k : ByteArray) (i : Nat), es.map (fun e => (e.key, e.val)) = ks.map (fun s => (Value.string s, Value.bool true)) →
    (ks.any (fun s => seq s k) = true → ∃ j, Instr.findNow .string (.string k) es i = some (some (j, .bool true))) ∧ (ks.any (fun s => seq s k) = false → Instr.findNow .string (.string k) es i = some none)
  | [], [], k, i, _ => by simp [Instr.findNow]
  | [], _ :: _, k, i, h => by simp at h
  | _ :: _, [], k, i, h => by simp at h
  | e :: es, s :: ks, k, i, h => by
    simp only [List.map_cons, List.cons.injEq, Prod.mk.injEq] at h
    obtain ⟨⟨hk, hv⟩, hr⟩ := h
    have ih := findNow_set es ks k (i + 1) hr
    have hs : Instr.sameNow .string (.string k) e.key = some (k == s) := by rw [hk]; rfl
    by_cases hks : k = s
    · subst hks
      have h1 : seq k k = true := by unfold seq; simp
      simp only [List.any_cons, h1, Bool.true_or, forall_const, Bool.true_eq_false, false_imp_iff, and_true]
      have hbb : (k == k) = true := (Go.MapKept.bytes_beq k k).2 rfl
      exact ⟨i, by simp [Instr.findNow, hs, hv, hbb]⟩
    · have h1 : seq s k = false := by
        cases hb : seq s k with
        | false => rfl
        | true =>
          unfold seq at hb
          rw [ByteArray.toList_eq, ByteArray.toList_eq, beq_iff_eq] at hb
          exact absurd (by cases k; cases s; simp at hb; rw [hb]) hks
      have h2 : (k == s) = false := by
        rw [← Bool.not_eq_true, Go.MapKept.bytes_beq]; exact hks
      simp only [List.any_cons, h1, Bool.false_or]
      simpa [Instr.findNow, hs, h2] using ih

section
variable {P : Program} (T : Tab P) {Q : Exit → Act → World → Prop} {N : Nat} {L : SL} {w0 : World} {M : List Nat} {H : List Ch} {o : Oper} {K : Act → World → Prop} {d : Nat}

theorem ow_mkmap {t : TypeId} (ho : o.op = .makeMap t none) (hd : o.dst = some d) (hN : Nat.blt d N = true) (h : ∀ r, KK K N ((d, .map (some r)) :: L) w0 M (mapC r [] :: H)) : OW P o Q K N L w0 M H := .mk fun a w hF hH => by
  have hr : (execOp a.eval o).run P w = .ok (.value (.map (some w.heap.size))) (w.alloc (.map #[] 0)) := by
    simp [execOp, ho, run_makeMap]
  unfold Oper.wp
  rw [hr]
  show K (a.put o.dst _) _
  rw [hd]
  refine (h w.heap.size).go _ _ (hF.put _ hN) (hH.new (C := [mapC w.heap.size []]) (ExtM.alloc w _) ⟨?_, by simp [ff, mapC], by simp [ff, mapC]⟩)
  intro c hc
  simp only [List.mem_singleton] at hc
  subst hc
  exact ⟨#[], 0, heap_alloc_new w _, rfl⟩

def chkMap (P : Program) (t : Nat) : Bool :=
  match P.underlying t with
  | some (.map k e) => (match P.underlying k with | some .string => true | _ => false) && (match P.info? e with | some i => (match i.zero with | some (.bool false) => true | _ => false) | none => false)
  | _ => false

theorem chkMap_ok {t : Nat} (h : chkMap P t = true) : ∃ k e i, P.underlying t = some (.map k e) ∧ P.underlying k = some .string ∧ P.info? e = some i ∧ i.zero = some (.bool false) := by
  unfold chkMap at h
  split at h
  · rename_i k e hu
    rw [Bool.and_eq_true] at h
    obtain ⟨h1, h2⟩ := h
    split at h1
    · rename_i hk
      split at h2
      · rename_i i hi
        split at h2
        · rename_i hz
          exact ⟨k, e, i, hu, hk, hi, hz⟩
        · cases h2
      · cases h2
    · cases h1
  · cases h

theorem run_checkStr {k : TypeId} (hk : P.underlying k = some .string) (em : Bool) (s : ByteArray) (w : World) : (Instr.checkKey em 10000 k (.string s)).run P w = .ok () w := by
  rw [show (10000 : Nat) = 9999 + 1 from rfl, Instr.checkKey, Sem.run_bind, run_underlying hk w]
  rfl

theorem yh_lookSet {t : TypeId} {x y : Operand} {r i : Nat} {s : ByteArray} {ks : List ByteArray} (ho : o.op = .lookup t x y false) (hx : ev L x = some (.map (some r))) (hy : ev L y = some (.string s)) (hi : H[i]? = some (mapC r ks)) (hm : chkMap P t = true) :
    YH P o (.bool (ks.any fun u => seq u s)) N L w0 M H := .mk fun a w hF hH => by
  obtain ⟨k, e, ti, h1, h2, h3, h4⟩ := chkMap_ok hm
  obtain ⟨es, clock, hh, hes⟩ := hH.at hi
  have hfn := findNow_set es.toList ks s 0 hes
  have hget : (getObj r).run P w = .ok (.map es clock) w := by simp [getObj, Sem.run, hh]
  have hz : (zeroValue e).run P w = .ok (.bool false) w := by simp [zeroValue, typeInfo, h3, h4]
  cases hb : ks.any (fun u => seq u s) with
  | true =>
    obtain ⟨j, hj⟩ := hfn.1 hb
    have hfk : (Instr.findKey k (.string s) es.toList).run P w = .ok (some (j, .bool true)) w := by
      simp [Instr.findKey, run_underlying h2, hj]
    simp [execOp, ho, hF.ev hx, hF.ev hy, Instr.lookup, run_underlying h1, hget, run_checkStr h2, hfk]
  | false =>
    have hj := hfn.2 hb
    have hfk : (Instr.findKey k (.string s) es.toList).run P w = .ok none w := by
      simp [Instr.findKey, run_underlying h2, hj]
    simp [execOp, ho, hF.ev hx, hF.ev hy, Instr.lookup, run_underlying h1, hget, run_checkStr h2, hfk, hz]

theorem ow_putSet {t : TypeId} {x y z : Operand} {r i : Nat} {s : ByteArray} {ks : List ByteArray} (ho : o.op = .mapUpdate t x y z) (hx : ev L x = some (.map (some r))) (hy : ev L y = some (.string s)) (hz : ev L z = some (.bool true)) (hi : H[i]? = some (mapC r ks))
    (hm : chkMap P t = true) (hnew : ks.any (fun u => seq u s) = false) (hd : o.dst = none) (h : KK K N L w0 M (mapC r (ks ++ [s]) :: H.eraseIdx i)) : OW P o Q K N L w0 M H := .mk fun a w hF hH => by
  obtain ⟨k, e, ti, h1, h2, h3, h4⟩ := chkMap_ok hm
  obtain ⟨es, clock, hh, hes⟩ := hH.at hi
  have hj := (findNow_set es.toList ks s 0 hes).2 hnew
  have hget : (getObj r).run P w = .ok (.map es clock) w := by simp [getObj, Sem.run, hh]
  have hfk : (Instr.findKey k (.string s) es.toList).run P w = .ok none w := by
    simp [Instr.findKey, run_underlying h2, hj]
  have hlt : r < w.heap.size := (Array.getElem?_eq_some_iff.1 hh).1
  have hset : (setObj r (.map (es.push { key := .string s, val := .bool true, born := clock }) (clock + 1))).run P w = .ok () { w with heap := w.heap.setIfInBounds r (.map (es.push { key := .string s, val := .bool true, born := clock }) (clock + 1)) } := by
    simp [setObj, Sem.run, hh]
  have hr : (execOp a.eval o).run P w = .ok .skip { w with heap := w.heap.setIfInBounds r (.map (es.push { key := .string s, val := .bool true, born := clock }) (clock + 1)) } := by
    simp [execOp, ho, hF.ev hx, hF.ev hy, hF.ev hz, Instr.mapUpdate, run_underlying h1, hget, run_checkStr h2, hfk, hset]
  unfold Oper.wp
  rw [hr]
  show K (a.put o.dst _) _
  rw [hd]
  refine h.go _ _ hF ?_
  have hfront : Hp w0 M ([mapC r ks] ++ H.eraseIdx i) w := hH.front hi
  refine hfront.mod (C' := [mapC r (ks ++ [s])]) ⟨rfl, rfl, rfl, by simp, fun b _ hb => ?_⟩ ?_ (by simp [ff, mapC]) (by simp [ff, mapC])
  · have hne : r ≠ b := fun e' => hb (by subst e'; simp [ff, mapC])
    simp [Array.getElem?_setIfInBounds_ne hne]
  · intro c hc
    simp only [List.mem_singleton] at hc
    subst hc
    refine ⟨es.push { key := .string s, val := .bool true, born := clock }, clock + 1, ?_, ?_⟩
    · simp [hlt]
    · simp [hes]
end

/-! ## make, stores into elements -/

theorem owL_set {α : Type} {A : Lay α} {w w' : World} : ∀ {l : List α} {Fs : List (List Nat)} {cs : List Value} {k : Nat} {y : α} {G : List Nat} {es : List Value}, owL A w Fs cs l → k < l.length → A.ow w' G es y →
    (∀ b ∈ (Fs.eraseIdx k).flatten, w'.heap[b]? = w.heap[b]?) → owL A w' (Fs.set k G) (put cs es (k * A.size)) (l.set k y)
  | [], _, _, k, _, _, _, _, hk, _, _ => by simp at hk
  | x :: l, _, _, k, y, G, es, h, hk, hy, hb => by
    obtain ⟨F, Fs', ds, cs', rfl, rfl, hx, hl⟩ := h
    have hds := ow_len hx
    have hes := ow_len hy
    cases k with
    | zero =>
      refine ⟨G, Fs', es, cs', rfl, ?_, hy, owL_stb hl (fun b hm => hb b (by simpa using hm))⟩
      simp [put, hds, hes]
    | succ k =>
      have ih := owL_set hl (k := k) (y := y) (G := G) (es := es) (by simpa using hk) hy (fun b hm => hb b (by simp [hm]))
      refine ⟨F, _, ds, _, rfl, ?_, A.ow_stb hx (fun b hm => hb b (by simp [hm])), ih⟩
      have e1 : (k + 1) * A.size = ds.length + k * A.size := by rw [hds, Nat.add_mul]; omega
      simp only [put, e1, List.take_length_add_append, List.append_assoc, Nat.add_assoc, List.drop_length_add_append]

section
variable {P : Program} (T : Tab P) {Q : Exit → Act → World → Prop} {N : Nat} {L : SL} {w0 : World} {M : List Nat} {H : List Ch} {o : Oper} {K : Act → World → Prop} {d : Nat}

theorem owL_rep {α : Type} {A : Lay α} {w : World} {zc : List Value} {z0 : α} (hz : A.ow w [] zc z0) : ∀ n, owL A w (List.replicate n []) (List.replicate n zc).flatten (List.replicate n z0)
  | 0 => ⟨rfl, rfl⟩
  | n + 1 => ⟨[], List.replicate n [], zc, (List.replicate n zc).flatten, by simp [List.replicate_succ], by simp [List.replicate_succ], hz, owL_rep hz n⟩

theorem madeCells_rep (z : Array Value) (hz : 0 < z.size) (n : Nat) : (madeCells z (n * z.size)).toList = (List.replicate n z.toList).flatten := by
  apply List.ext_getElem
  · simp [madeCells]
  · intro i h1 h2
    have hi : i < n * z.size := by simpa [madeCells] using h1
    simp only [madeCells, Array.toList_map, Array.toList_range, List.getElem_map, List.getElem_range]
    rw [getElem!_pos z (i % z.size) (Nat.mod_lt _ hz)]
    induction n generalizing i with
    | zero => simp at hi
    | succ n ih =>
      by_cases hlt : i < z.size
      · simp only [List.replicate_succ, List.flatten_cons]
        rw [List.getElem_append_left (by simpa using hlt)]
        simp [Nat.mod_eq_of_lt hlt]
      · simp only [List.replicate_succ, List.flatten_cons]
        rw [List.getElem_append_right (by simpa using hlt)]
        have e1 : i % z.size = (i - z.size) % z.size := by rw [Nat.mod_eq_sub_mod (by omega)]
        have hi2 : i - z.size < n * z.size := by rw [Nat.add_mul] at hi; omega
        have := ih (i - z.size) (by simpa [madeCells] using hi2) (by simpa using hi2) hi2
        simp only [e1, this, Array.length_toList]

theorem nodup_set {G : List Nat} : ∀ (Fs : List (List Nat)) (k : Nat), (Fs.flatten ++ G).Nodup → (Fs.set k G).flatten.Nodup
  | [], k, _ => by simp
  | F1 :: Fs, k, hn3 => by
    simp only [List.flatten_cons, List.append_assoc] at hn3
    obtain ⟨n1, n2, n3⟩ := List.nodup_append.1 hn3
    cases k with
    | zero =>
      simp only [List.set_cons_zero, List.flatten_cons]
      exact (List.nodup_append.2 ⟨(List.nodup_append.1 n2).2.1, (List.nodup_append.1 n2).1, fun a ha b hb e1 => (List.nodup_append.1 n2).2.2 b hb a ha e1.symm⟩)
    | succ k =>
      simp only [List.set_cons_succ, List.flatten_cons]
      refine List.nodup_append.2 ⟨n1, nodup_set Fs k n2, fun a ha b hb e1 => ?_⟩
      subst e1
      obtain ⟨F2, hF2, hb2⟩ := List.mem_flatten.1 hb
      rcases List.mem_or_eq_of_mem_set hF2 with h1 | h1
      · exact n3 a ha a (List.mem_append.2 (.inl (List.mem_flatten.2 ⟨F2, h1, hb2⟩))) rfl
      · subst h1; exact n3 a ha a (List.mem_append.2 (.inr hb2)) rfl

/-- make([]T, n). -/
theorem ow_make {α : Type} {A : Lay α} {z0 : α} {t e : TypeId} {x y : Operand} {n by_ : Nat} {m m2 : Int} {z : Value} (ho : o.op = .makeSlice t x y) (hx : ev L x = some (.int .i64 m)) (hy : ev L y = some (.int .i64 m2)) (hm : m = (n : Int)) (hm2 : m2 = (n : Int))
    (ht : T.sle t = some e) (hin : T.inf e = some (z, A.size, by_)) (hz : z.cells.size = A.size) (hs : Nat.blt 0 A.size = true) (hz0 : ∀ w, A.ow w [] z.cells.toList z0) (hn : n ≤ 4000000000) (hby : by_ ≤ 1000)
    (hd : o.dst = some d) (hN : Nat.blt d N = true)
    (h : ∀ g, KK K N ((d, .slice (some ⟨g, 0, none⟩) n n) :: L) w0 M (owC (sl e A) [g] [.slice (some ⟨g, 0, none⟩) n n] (List.replicate n z0) :: H)) : OW P o Q K N L w0 M H := .mk fun a w hF hH => by
  subst hm; subst hm2
  obtain ⟨ti, h1, h2, h3, h4⟩ := T.info hin
  have hbig : ti.bytes * n ≤ 281474976710656 := by
    have := Nat.mul_le_mul hby hn
    rw [h4]; omega
  have hb2 : (ti.bytes : Int) * (n : Int) ≤ 281474976710656 := by
    have h : ((ti.bytes * n : Nat) : Int) ≤ 281474976710656 := by omega
    rwa [Int.natCast_mul] at h
  have hrun := run_make (P := P) w t e ti z (T.sle_ok ht) h1 h2 .i64 .i64 n n (by omega) (Int.le_refl _) hb2 (by omega)
  simp only [Int.toNat_natCast] at hrun
  have hr : (execOp a.eval o).run P w = .ok (.value (.slice (some ⟨w.heap.size, 0, none⟩) n n)) (w.alloc (.cells (madeCells z.cells (n * ti.size)) e)) := by
    simp [execOp, ho, hF.ev hx, hF.ev hy, hrun]
  unfold Oper.wp
  rw [hr]
  show K (a.put o.dst _) _
  rw [hd]
  refine (h w.heap.size).go _ _ (hF.put _ hN) (hH.new (C := [owC (sl e A) [w.heap.size] [.slice (some ⟨w.heap.size, 0, none⟩) n n] (List.replicate n z0)]) (ExtM.alloc w _) ⟨?_, by simp [ff, owC], by simp [ff, owC]⟩)
  intro c hc
  simp only [List.mem_singleton] at hc
  subst hc
  have hpos : 0 < z.cells.size := by rw [hz]; simpa [Nat.blt_eq] using hs
  have hcells : (madeCells z.cells (n * ti.size)).toList = (List.replicate n z.cells.toList).flatten := by
    rw [h3, ← hz]; exact madeCells_rep _ hpos n
  have hown := World.ownsRow_lit (base := 0) (e := e) (size := A.size) w (madeCells z.cells (n * ti.size)) n (Nat.zero_le _) (by simp [maxLen]; omega) (by rw [h3]; simp [madeCells])
  refine ⟨_, _, List.replicate n [], rfl, by simpa using hown, by rw [hcells]; exact owL_rep (hz0 _) n, ?_⟩
  simp [Value.ownBlock]

/-- A store of a whole element into a slice of the call's own. -/
theorem ow_storeEl {α : Type} {A : Lay α} {t e : TypeId} {x y : Operand} {g i k n c by_ : Nat} {z v : Value} {F : List Nat} {l : List α} {u : α} {C2 H' : List Ch} {G : List Nat} (ho : o.op = .store t x y) (hx : ev L x = some (.pointer (some ⟨g, 0 + k * A.size, none⟩))) (hy : ev L y = some v)
    (hin : T.inf t = some (z, A.size, by_)) (hi : H[i]? = some (owC (sl e A) F [.slice (some ⟨g, 0, none⟩) n c] l)) (hk : k < l.length) (hp : (H.eraseIdx i).Perm (C2 ++ H')) (hG : G = ff C2) (hu : ∀ w, (∀ c ∈ C2, c.A w) → A.ow w G v.cells.toList u)
    (hd : o.dst = none) (h : ∀ F', KK K N L w0 M (owC (sl e A) F' [.slice (some ⟨g, 0, none⟩) n c] (l.set k u) :: H')) : OW P o Q K N L w0 M H := .mk fun a w hF hH => by
  subst hG
  obtain ⟨ti, g1, _, g3, _⟩ := T.info hin
  have hfront : Hp w0 M ((owC (sl e A) F [.slice (some ⟨g, 0, none⟩) n c] l :: C2) ++ H') w := hH.perm ((front_perm hi).trans (hp.cons _))
  have hC2 : ∀ c ∈ C2, c.A w := fun c hc => hfront.own c (by simp [hc])
  have huw := hu w hC2
  obtain ⟨v0, xs, Fs, hv, hown, hl, hFF⟩ := hH.at hi
  simp only [List.cons.injEq, and_true] at hv
  subst hv
  obtain ⟨hxl, hrest⟩ := hown
  rcases hrest with ⟨hbad, _⟩ | ⟨g', c0, cur, hv, hb0, hcur, hnc, hcm, hcs, htake⟩
  · simp at hbad
  · simp only [Value.slice.injEq, Option.some.injEq, Addr.mk.injEq, and_true, true_and] at hv
    obtain ⟨rfl, rfl, rfl⟩ := hv
    have hvl : v.cells.toList.length = A.size := ow_len huw
    have hlast : k * A.size + A.size ≤ l.length * A.size := by
      have := Nat.mul_le_mul_right A.size (show k + 1 ≤ l.length by omega)
      rw [Nat.add_mul] at this; omega
    have hcap : l.length * A.size ≤ c * A.size := Nat.mul_le_mul_right _ hnc
    have hblk : (blkC g e cur.toList).A w := by simpa [blkC] using hcur
    have hs := run_storeBlk (P := P) hblk (vs := v.cells.toList) (i := 0 + k * A.size) (by rw [hvl, Array.length_toList, hcs]; omega) (ow_one huw)
    have hr : (execOp a.eval o).run P w = .ok .skip (w.setRow g (put cur.toList v.cells.toList (0 + k * A.size)).toArray) := by
      have hsz : v.cells.size = A.size := by simpa using hvl
      simp [execOp, ho, hF.ev hx, hF.ev hy, Instr.storeAt, Instr.sureAddr, storeVar, sizeOf, typeInfo, g1, g3, hsz]
      simp only [Nat.zero_add] at hs
      simp [hs]
    unfold Oper.wp
    rw [hr]
    show K (a.put o.dst _) _
    rw [hd]
    have hnd := hfront.nd
    rw [ff_append, ff_cons] at hnd
    have hnd1 := (List.nodup_append.1 hnd).1
    have hnd2 : (g :: (Fs.flatten ++ ff C2)).Nodup := by
      have : (owC (sl e A) F [.slice (some ⟨g, 0, none⟩) l.length c] l).F = g :: Fs.flatten := by
        show F = _
        rw [hFF]; rfl
      rw [this] at hnd1
      simpa using hnd1
    have hgn := (List.nodup_cons.1 hnd2).1
    have hlt : ∀ b ∈ Fs.flatten, b < w.heap.size := owL_lt hl
    have hoth : ∀ b, b ≠ g → (w.setRow g (put cur.toList v.cells.toList (0 + k * A.size)).toArray).heap[b]? = w.heap[b]? := fun b hb => setRow_other w g b _ hb
    have hu' : A.ow (w.setRow g (put cur.toList v.cells.toList (0 + k * A.size)).toArray) (ff C2) v.cells.toList u := A.ow_stb huw (fun b hb => hoth b (fun e1 => hgn (by subst e1; simp [hb])))
    have herase : ∀ b ∈ (Fs.eraseIdx k).flatten, b ∈ Fs.flatten := fun b hb => by
      obtain ⟨F1, hF1, hb1⟩ := List.mem_flatten.1 hb
      exact List.mem_flatten.2 ⟨F1, List.mem_of_mem_eraseIdx hF1, hb1⟩
    have hset := owL_set hl hk hu' (fun b hb => hoth b (fun e1 => hgn (by subst e1; simp [herase b hb])))
    have hsetm : ∀ b ∈ (Fs.set k (ff C2)).flatten, b ∈ Fs.flatten ++ ff C2 := fun b hb => by
      obtain ⟨F1, hF1, hb1⟩ := List.mem_flatten.1 hb
      rcases List.mem_or_eq_of_mem_set hF1 with h1 | h1
      · exact List.mem_append.2 (.inl (List.mem_flatten.2 ⟨F1, h1, hb1⟩))
      · subst h1; exact List.mem_append.2 (.inr hb1)
    have hsetn : (Fs.set k (ff C2)).flatten.Nodup := nodup_set Fs k (List.nodup_cons.1 hnd2).2
    refine (h (g :: (Fs.set k (ff C2)).flatten)).go _ _ hF ?_
    refine hfront.mod (C' := [owC (sl e A) (g :: (Fs.set k (ff C2)).flatten) [.slice (some ⟨g, 0, none⟩) l.length c] (l.set k u)]) ⟨rfl, rfl, rfl, by simp, fun b _ hb => hoth b (fun e1 => hb ?_)⟩ ?_ ?_ ?_
    · rw [e1, ff_cons]
      exact List.mem_append.2 (.inl (by show g ∈ F; rw [hFF]; simp [Value.ownBlock]))
    · intro c hc
      simp only [List.mem_singleton] at hc
      subst hc
      have hput : (put cur.toList v.cells.toList (0 + k * A.size)).length = cur.size := by
        simp only [put, List.length_append, List.length_take, List.length_drop, Array.length_toList, hvl, hcs]
        omega
      refine ⟨_, put xs v.cells.toList (k * A.size), Fs.set k (ff C2), rfl, ?_, hset, rfl⟩
      refine ⟨?_, .inr ⟨g, c, (put cur.toList v.cells.toList (0 + k * A.size)).toArray, by simp, Nat.zero_le _, setRow_heap w g cur _ e _ hcur, by simpa using hnc, hcm, by rw [List.size_toArray, hput, hcs], ?_⟩⟩
      · simp only [put, List.length_append, List.length_take, List.length_drop, hvl, hxl, List.length_set]
        omega
      · rw [← htake]
        simp only [List.length_set, List.toList_toArray, put, Nat.zero_add, hvl]
        apply List.ext_getElem?
        intro j
        simp only [List.getElem?_take, List.getElem?_append, List.getElem?_drop, List.length_append, List.length_take, Array.length_toList, hcs, hvl]
        have e1 : min (k * A.size) (c * A.size) = k * A.size := by omega
        have e2 : min (k * A.size) (min (l.length * A.size) (c * A.size)) = k * A.size := by omega
        simp only [e1, e2]
        by_cases j1 : j < k * A.size
        · simp [j1, show j < k * A.size + A.size by omega, show j < l.length * A.size by omega]
        · by_cases j2 : j < k * A.size + A.size
          · simp [j1, j2, show j < l.length * A.size by omega]
          · by_cases j3 : j < l.length * A.size
            · have e3 : k * A.size + A.size + (j - (k * A.size + A.size)) = j := by omega
              simp [j1, j2, j3, e3]
            · have e3 : k * A.size + A.size + (j - (k * A.size + A.size)) = j := by omega
              simp [j2, j3, e3]
    · simp only [ff, owC, List.flatMap_cons, List.flatMap_nil, List.append_nil]
      exact List.nodup_cons.2 ⟨fun hm => hgn (hsetm g hm), hsetn⟩
    · intro b hb
      simp only [ff, owC, List.flatMap_cons, List.flatMap_nil, List.append_nil] at hb
      refine .inl ?_
      rw [ff_cons]
      show b ∈ F ++ _
      rw [hFF]
      rcases List.mem_cons.1 hb with rfl | hb
      · simp [Value.ownBlock]
      · rcases List.mem_append.1 (hsetm b hb) with h1 | h1
        · exact List.mem_append.2 (.inl (List.mem_append.2 (.inr h1)))
        · exact List.mem_append.2 (.inr h1)
end

end Go.Proofs.YtacecnffggffmaaDoor
