/- Elements taken out of the middle of an owned row: append(s[:i], s[j:]...), and what is behind it cleared. -/
import Derived.Test.YtacecnffggffmaaDoorD
set_option linter.all false
namespace Go.Proofs.YtacecnffggffmaaDoor
open Go.RowKit

section
variable {α : Type} {A : Lay α} {w : World}
theorem owL_take : ∀ {l : List α} {Fs : List (List Nat)} {cs : List Value} (i : Nat), owL A w Fs cs l → owL A w (Fs.take i) (cs.take (i * A.size)) (l.take i)
  | [], _, _, i, h => by
    obtain ⟨rfl, rfl⟩ := h
    simp only [List.take_nil]
    exact ⟨rfl, rfl⟩
  | x :: l, _, _, 0, h => by
    simp only [List.take_zero, Nat.zero_mul]
    exact ⟨rfl, rfl⟩
  | x :: l, _, _, i + 1, h => by
    obtain ⟨F, Fs', es, cs', rfl, rfl, hx, hl⟩ := h
    have hes := ow_len hx
    refine ⟨F, Fs'.take i, es, cs'.take (i * A.size), rfl, ?_, hx, owL_take i hl⟩
    have e1 : (i + 1) * A.size = es.length + i * A.size := by rw [hes, Nat.add_mul]; omega
    rw [e1, List.take_length_add_append]
theorem owL_drop : ∀ {l : List α} {Fs : List (List Nat)} {cs : List Value} (i : Nat), owL A w Fs cs l → owL A w (Fs.drop i) (cs.drop (i * A.size)) (l.drop i)
  | [], _, _, i, h => by
    obtain ⟨rfl, rfl⟩ := h
    simp only [List.drop_nil]
    exact ⟨rfl, rfl⟩
  | x :: l, _, _, 0, h => by simpa using h
  | x :: l, _, _, i + 1, h => by
    obtain ⟨F, Fs', es, cs', rfl, rfl, hx, hl⟩ := h
    have hes := ow_len hx
    have := owL_drop i hl
    have e1 : (i + 1) * A.size = es.length + i * A.size := by rw [hes, Nat.add_mul]; omega
    rw [e1, List.drop_length_add_append]
    exact this
end

theorem sub_flat : ∀ {A B : List (List Nat)}, A.Sublist B → A.flatten.Sublist B.flatten
  | _, _, .slnil => by simp
  | _, _, .cons a h => (sub_flat h).trans (List.sublist_append_right a _)
  | _, _, .cons₂ a h => List.Sublist.append (List.Sublist.refl a) (sub_flat h)
theorem put_len {cs vs : List Value} {i : Nat} (h : i + vs.length ≤ cs.length) : (put cs vs i).length = cs.length := by
  simp only [put, List.length_append, List.length_take, List.length_drop]
  omega

/-- Whether a part of a slice may be cut with all three bounds. -/
def sl3 {α : Type} (l : List α) (i j : Int) : Option Unit := if 0 ≤ i ∧ i ≤ j ∧ j ≤ (l.length : Int) then some () else none
theorem sl3_some {α : Type} {l : List α} {i j : Int} {u : Unit} (h : sl3 l i j = some u) : 0 ≤ i ∧ i ≤ j ∧ j ≤ (l.length : Int) := by
  unfold sl3 at h
  split at h
  · assumption
  · cases h

section
variable {P : Program} (T : Tab P) {Q : Exit → Act → World → Prop} {N : Nat} {L : SL} {w0 : World} {M : List Nat} {H : List Ch} {o : Oper} {K : Act → World → Prop} {d : Nat}

theorem yh_slice3 {α : Type} {l : List α} {i j : Int} {u : Unit} {t e : TypeId} {x y1 y2 y3 : Operand} {a : Option Addr} {n c : Nat} {m : Int} {k1 k2 k3 : IntKind} {z : Value} {s by_ : Nat} (hu : sl3 l i j = some u) (hn : n = l.length) (hc : n ≤ c) (hm : m = (n : Int))
    (ho : o.op = .slice t x (some y1) (some y2) (some y3)) (hx : ev L x = some (.slice a n c)) (h1 : ev L y1 = some (.int k1 i)) (h2 : ev L y2 = some (.int k2 j)) (h3 : ev L y3 = some (.int k3 m)) (ht : T.sle t = some e) (hin : T.inf e = some (z, s, by_)) :
    YH P o (.slice (if n = i.toNat then a else a.map (·.add (i.toNat * s))) (j.toNat - i.toNat) (n - i.toNat)) N L w0 M H := .mk fun ac w hF hH => by
  obtain ⟨ti, g1, _, g3, _⟩ := T.info hin
  obtain ⟨p1, p2, p3⟩ := sl3_some hu
  obtain ⟨i', rfl⟩ : ∃ i' : Nat, i = (i' : Int) := ⟨i.toNat, by omega⟩
  obtain ⟨j', rfl⟩ : ∃ j' : Nat, j = (j' : Int) := ⟨j.toNat, by omega⟩
  subst hm
  have q1 : i' ≤ j' := by omega
  have q2 : j' ≤ n := by omega
  have q3 : i' ≤ n := by omega
  simp [execOp, ho, hF.ev hx, hF.ev h1, hF.ev h2, hF.ev h3, Instr.sliceAt, Instr.slice, run_underlying (T.sle_ok ht), Instr.sliceBounds, Instr.sliceBound, asIntOf, sizeOf, typeInfo, g1, g3, q1, q2, q3, hc]

theorem yh_slice2 {t e : TypeId} {x y1 y2 : Operand} {a a' : Option Addr} {n c k j : Nat} {m1 m2 : Int} {k1 k2 : IntKind} {z : Value} {s by_ : Nat} (ha : a' = (if c = k then a else a.map (·.add (k * s)))) (hk1 : m1 = (k : Int)) (hk2 : m2 = (j : Int)) (hkj : k ≤ j) (hj : j ≤ c)
    (ho : o.op = .slice t x (some y1) (some y2) none) (hx : ev L x = some (.slice a n c)) (h1 : ev L y1 = some (.int k1 m1)) (h2 : ev L y2 = some (.int k2 m2)) (ht : T.sle t = some e) (hin : T.inf e = some (z, s, by_)) :
    YH P o (.slice a' (j - k) (c - k)) N L w0 M H := .mk fun ac w hF hH => by
  obtain ⟨ti, g1, _, g3, _⟩ := T.info hin
  subst hk1; subst hk2; subst ha
  simp [execOp, ho, hF.ev hx, hF.ev h1, hF.ev h2, Instr.sliceAt, Instr.slice, run_underlying (T.sle_ok ht), Instr.sliceBounds, Instr.sliceBound, asIntOf, sizeOf, typeInfo, g1, g3, hkj, hj]

def kle (i j : Int) : Option Unit := if i ≤ j then some () else none
theorem kle_some {i j : Int} {u : Unit} (h : kle i j = some u) : i ≤ j := by
  unfold kle at h
  split at h
  · assumption
  · cases h
theorem kle_ok {i j : Int} (h : i ≤ j) : kle i j = some () := if_pos h
theorem sl3_ok {α : Type} {l : List α} {i j : Int} (h : 0 ≤ i ∧ i ≤ j ∧ j ≤ (l.length : Int)) : sl3 l i j = some () := if_pos h
theorem del_len {α : Type} {l x y : List α} {i j : Int} (hx : slTo l i = some x) (hy : slFrom l j = some y) (h : i ≤ j) : (x ++ y).length ≤ l.length := by
  obtain ⟨h1, h2, _, h3⟩ := slTo_some hx
  obtain ⟨h4, h5, _, h6⟩ := slFrom_some hy
  rw [List.length_append]
  omega

theorem run_append_in {t ty e : TypeId} {ti : TypeInfo} {g p m c c' : Nat} {ad : Addr} {cur news : List Value} {w : World} (ht : P.underlying t = some (.slice e)) (g1 : P.info? e = some ti) (hb : (blkC g e cur).A w) (hl : news.length = m * ti.size)
    (hcell : ∀ (j : Nat) (u : Value), news[j]? = some u → w.cell? (ad.add j) = some u) (hone : ∀ u ∈ news, u.oneCell' = true) (hroom : p + m ≤ c) (hfit : p * ti.size + news.length ≤ cur.length) :
    (Builtin.append_ #[t, t] ty #[.slice (some ⟨g, 0, none⟩) p c, .slice (some ad) m c']).run P w = .ok (.slice (some ⟨g, 0, none⟩) (p + m) c) (w.setRow g (put cur news (p * ti.size)).toArray) := by
  have hfc := run_firstCells_some (P := P) w ti.size m ad m c' news hl hcell
  have hst := run_storeBlk (P := P) hb (vs := news) (i := p * ti.size) hfit hone
  simp [Builtin.append_, run_underlying ht, sizeOf, typeInfo, g1, Builtin.lenOf, hroom, hfc, Addr.add_lit, hst]

/-- append(s[:i], s[j:]...) where s is an owned row. -/
theorem ow_del {α : Type} {A : Lay α} {s x : Operand} {ts : Array TypeId} {t e : TypeId} {a a' : Option Addr} {n c c' by_ : Nat} {z : Value} {F : List Nat} {l xl yl : List α} {k1 k2 : Int} (q : Nat)
    (hx : slTo l k1 = some xl) (hy : slFrom l k2 = some yl) (hle : k1 ≤ k2) (ha : a' = (if c = k2.toNat then a else a.map (·.add (k2.toNat * A.size)))) (hc : c' = c - k2.toNat)
    (ho : o.op = .call { callee := .builtin .append, args := #[s, x], argTypes := ts }) (hts : ts = #[t, t]) (h1 : ev L s = some (.slice a xl.length c)) (h2 : ev L x = some (.slice a' yl.length c')) (hi : H[q]? = some (owC (sl e A) F [.slice a n c] l))
    (ht : T.sle t = some e) (hin : T.inf e = some (z, A.size, by_)) (hd : o.dst = some d) (hN : Nat.blt d N = true)
    (h : ∀ F', KK K N ((d, .slice a (xl ++ yl).length c) :: L) w0 M (owC (sl e A) F' [.slice a (xl ++ yl).length c] (xl ++ yl) :: H.eraseIdx q)) : OW P o Q K N L w0 M H := by
  refine ow_builtin2 (b := .append) ho h1 h2 hd hN fun w hH => ?_
  subst hts
  have hw := hH.at hi
  obtain ⟨x1, x2, rfl, _⟩ := slTo_some hx
  obtain ⟨y1, y2, rfl, _⟩ := slFrom_some hy
  obtain ⟨ti, g1, g2, g3, g4⟩ := T.info hin
  have hnl := (sl_len (A := A) ((sl e A).ow_rd (F := F) (M := []) hw (by simp))).1
  have hfront : Hp w0 M ([owC (sl e A) F [.slice a n c] l] ++ H.eraseIdx q) w := hH.perm (front_perm hi)
  rcases Nat.eq_zero_or_pos l.length with h0 | h0
  · -- there is nothing
    have e1 : l = [] := List.eq_nil_of_length_eq_zero h0
    subst e1
    simp only [List.take_nil, List.drop_nil, List.length_nil, List.append_nil] at h1 h2 h hnl ha y2 ⊢
    subst hnl
    have hk0 : k2.toNat = 0 := by omega
    have hin' : (Builtin.append_ #[t, t] o.type #[.slice a 0 c, .slice a' 0 c']).run P w = .ok (.slice a 0 c) w := by
      rw [hk0] at ha
      cases a with
      | none =>
        have : a' = none := by rw [ha]; split <;> rfl
        subst this
        simp [Builtin.append_, run_underlying (T.sle_ok ht), sizeOf, typeInfo, g1, Builtin.lenOf, Builtin.firstCells]
      | some ad =>
        obtain ⟨ad2, rfl⟩ : ∃ ad2, a' = some ad2 := by rw [ha]; split <;> exact ⟨_, rfl⟩
        have hfc := run_firstCells_some (P := P) w A.size 0 ad2 0 c' [] (by simp) (by simp)
        rw [← g3] at hfc
        simp [Builtin.append_, run_underlying (T.sle_ok ht), sizeOf, typeInfo, g1, Builtin.lenOf, hfc, storeCells]
    exact ⟨_, w, hin', fun ac hF => (h F).go ac w hF hfront⟩
  · obtain ⟨g, rfl⟩ := own_addr hw (by omega)
    obtain ⟨cur, xs, Fs, hb, rfl, _, hnc, hcm, hlen, ht2, hl⟩ := own_openN hw
    have hd2 := owL_drop k2.toNat hl
    have hdl := (owL_len hd2).1
    have hxl := (owL_len hl).1
    have hto := owL_take k1.toNat hl
    have hlt := (owL_len hto).1
    have hle1 : (l.take k1.toNat).length = k1.toNat := by rw [List.length_take]; omega
    have hle2 : (l.drop k2.toNat).length = l.length - k2.toNat := by rw [List.length_drop]
    obtain ⟨ad, hads, hcell⟩ : ∃ ad, a' = some ad ∧ ∀ (j : Nat) (u : Value), (xs.drop (k2.toNat * A.size))[j]? = some u → w.cell? (ad.add j) = some u := by
      by_cases hck : c = k2.toNat
      · rw [if_pos hck] at ha
        refine ⟨_, ha, fun j u hj => ?_⟩
        have h5 := (List.getElem?_eq_some_iff.1 hj).1
        rw [hdl, hle2, show l.length - k2.toNat = 0 by omega] at h5
        omega
      · rw [if_neg hck, Option.map_some, Addr.add_lit] at ha
        refine ⟨_, ha, fun j u hj => ?_⟩
        rw [List.getElem?_drop] at hj
        rw [Addr.add_lit, blk_cell hb, Nat.zero_add, ← hj, ← ht2]
        rw [← ht2] at hj
        have h5 := (List.getElem?_eq_some_iff.1 hj).1
        rw [List.length_take] at h5
        rw [List.getElem?_take_of_lt (by omega)]
    subst hads
    have hroom : (l.take k1.toNat).length + (l.drop k2.toNat).length ≤ c := by omega
    have hm1 : (l.take k1.toNat).length * A.size + (l.drop k2.toNat).length * A.size ≤ c * A.size := by rw [← Nat.add_mul]; exact Nat.mul_le_mul_right _ hroom
    have hone := owL_one hd2
    have hr : (Builtin.append_ #[t, t] o.type #[.slice (some ⟨g, 0, none⟩) (l.take k1.toNat).length c, .slice (some ad) (l.drop k2.toNat).length c']).run P w = .ok (.slice (some ⟨g, 0, none⟩) ((l.take k1.toNat).length + (l.drop k2.toNat).length) c) (w.setRow g (put cur (xs.drop (k2.toNat * A.size)) ((l.take k1.toNat).length * A.size)).toArray) := by
      have := run_append_in (P := P) (ty := o.type) (c' := c') (T.sle_ok ht) g1 hb (p := (l.take k1.toNat).length) (m := (l.drop k2.toNat).length) (news := xs.drop (k2.toNat * A.size)) (by rw [g3]; exact hdl) hcell hone hroom (by rw [g3, hdl]; omega)
      rw [g3] at this
      exact this
    have hlen2 : (l.take k1.toNat).length + (l.drop k2.toNat).length = (l.take k1.toNat ++ l.drop k2.toNat).length := by simp
    rw [hlen2] at hr
    refine ⟨_, _, hr, fun ac hF => (h (g :: (Fs.take k1.toNat ++ Fs.drop k2.toNat).flatten)).go ac _ hF ?_⟩
    have hsub : (Fs.take k1.toNat ++ Fs.drop k2.toNat).flatten.Sublist Fs.flatten := by
      have e : Fs = Fs.take k1.toNat ++ Fs.drop k1.toNat := (List.take_append_drop _ _).symm
      have d1 : (Fs.drop k2.toNat).Sublist (Fs.drop k1.toNat) := by
        rw [show k2.toNat = k1.toNat + (k2.toNat - k1.toNat) by omega, ← List.drop_drop]
        exact List.drop_sublist _ _
      have d2 : (Fs.take k1.toNat ++ Fs.drop k2.toNat).Sublist Fs := by
        conv => rhs; rw [e]
        exact List.Sublist.append (List.Sublist.refl _) d1
      exact sub_flat d2
    have hnd : (g :: Fs.flatten).Nodup := by
      have := hfront.nd
      rw [ff_append] at this
      simpa [ff, owC] using (List.nodup_append.1 this).1
    have hgn := (List.nodup_cons.1 hnd).1
    have hoth : ∀ b, b ≠ g → (w.setRow g (put cur (xs.drop (k2.toNat * A.size)) ((l.take k1.toNat).length * A.size)).toArray).heap[b]? = w.heap[b]? := fun b hb => setRow_other w g b _ hb
    have hnew : (blkC g e (put cur (xs.drop (k2.toNat * A.size)) ((l.take k1.toNat).length * A.size))).A (w.setRow g (put cur (xs.drop (k2.toNat * A.size)) ((l.take k1.toNat).length * A.size)).toArray) := by
      have := setRow_heap w g cur.toArray (put cur (xs.drop (k2.toNat * A.size)) ((l.take k1.toNat).length * A.size)).toArray e (0, 0) hb
      simpa [blkC] using this
    refine hfront.mod (C' := [owC (sl e A) (g :: (Fs.take k1.toNat ++ Fs.drop k2.toNat).flatten) [.slice (some ⟨g, 0, none⟩) (l.take k1.toNat ++ l.drop k2.toNat).length c] (l.take k1.toNat ++ l.drop k2.toNat)]) ⟨rfl, rfl, rfl, by simp, fun b _ hb => hoth b (fun e1 => hb ?_)⟩ ?_ ?_ ?_
    · rw [e1]; simp [ff, owC]
    · intro ch hch
      simp only [List.mem_singleton] at hch
      subst hch
      refine own_closeN (xs := cur.take (k1.toNat * A.size) ++ xs.drop (k2.toNat * A.size)) hnew rfl (by rw [← hlen2]; exact hroom) hcm ?_ ?_ ?_
      · rw [put_len (by rw [hdl]; omega), hlen]
      · rw [← hlen2, Nat.add_mul, ← hdl, hle1]
        have e3 : (cur.take (k1.toNat * A.size)).length = k1.toNat * A.size := by
          rw [List.length_take, hlen]
          have : k1.toNat * A.size ≤ c * A.size := Nat.mul_le_mul_right _ (by omega)
          omega
        have e4 : k1.toNat * A.size + (xs.drop (k2.toNat * A.size)).length = (cur.take (k1.toNat * A.size) ++ xs.drop (k2.toNat * A.size)).length := by rw [List.length_append, e3]
        rw [e4]
        simp only [put]
        exact List.take_left
      · have e5 : cur.take (k1.toNat * A.size) = xs.take (k1.toNat * A.size) := by
          rw [← ht2, List.take_take, Nat.min_eq_left (Nat.mul_le_mul_right _ (by omega))]
        rw [e5]
        have hst2 : ∀ b ∈ Fs.flatten, (w.setRow g (put cur (xs.drop (k2.toNat * A.size)) ((l.take k1.toNat).length * A.size)).toArray).heap[b]? = w.heap[b]? := fun b hb2 => hoth b (fun e1 => hgn (e1 ▸ hb2))
        exact owL_append (owL_stb hto (fun b hb2 => hst2 b (hsub.subset (by rw [List.flatten_append]; exact List.mem_append.2 (.inl hb2))))) (owL_stb hd2 (fun b hb2 => hst2 b (hsub.subset (by rw [List.flatten_append]; exact List.mem_append.2 (.inr hb2)))))
    · simp only [ff, owC, List.flatMap_cons, List.flatMap_nil, List.append_nil]
      exact List.nodup_cons.2 ⟨fun hm => hgn (hsub.subset hm), (List.nodup_cons.1 hnd).2.sublist hsub⟩
    · intro b hb2
      simp only [ff, owC, List.flatMap_cons, List.flatMap_nil, List.append_nil] at hb2 ⊢
      left
      rcases List.mem_cons.1 hb2 with rfl | hb2
      · simp
      · exact List.mem_cons_of_mem _ (hsub.subset hb2)

theorem own_addrC {α : Type} {e m c : Nat} {a : Option Addr} {F : List Nat} {l : List α} {A : Lay α} {w : World} (h : (owC (sl e A) F [.slice a m c] l).A w) (h0 : 0 < c) : ∃ g, a = some ⟨g, 0, none⟩ := by
  obtain ⟨v0, xs, Fs, hv, hown, hl, hFF⟩ := h
  simp only [List.cons.injEq, and_true] at hv
  subst hv
  rcases hown.2 with ⟨hbad, _⟩ | ⟨g, c0, cur, hv, _⟩
  · simp only [Value.slice.injEq] at hbad
    omega
  · simp only [Value.slice.injEq] at hv
    exact ⟨g, hv.1⟩

/-- What is behind an owned row is cleared. -/
theorem ow_clearT {α : Type} {A : Lay α} {t e : TypeId} {ts : Array TypeId} {x : Operand} {a a' : Option Addr} {n c c' k m by_ : Nat} {z : Value} {F : List Nat} {l : List α} (q : Nat)
    (hk : k = l.length) (ha : a' = (if c = k then a else a.map (·.add (k * A.size)))) (hm : k + m ≤ c)
    (ho : o.op = .call { callee := .builtin .clear, args := #[x], argTypes := ts }) (hts : ts = #[t]) (hx : ev L x = some (.slice a' m c'))
    (hu : T.sle t = some e) (hin : T.inf e = some (z, A.size, by_)) (hz : z.cells.size = A.size) (h1 : ∀ u ∈ z.cells.toList, u.oneCell' = true) (hi : H[q]? = some (owC (sl e A) F [.slice a n c] l))
    (hd : o.dst = none) (h : KK K N L w0 M (owC (sl e A) F [.slice a n c] l :: H.eraseIdx q)) : OW P o Q K N L w0 M H := by
  subst hts
  refine .mk fun ac w hF hH => ?_
  obtain ⟨ti, g1, g2, g3, _⟩ := T.info hin
  have hw := hH.at hi
  have hfront : Hp w0 M (owC (sl e A) F [.slice a n c] l :: H.eraseIdx q) w := hH.perm (front_perm hi)
  rcases Nat.eq_zero_or_pos m with h0 | h0
  · have hr : (execOp ac.eval o).run P w = .ok (.value (.tuple #[])) w := by
      have hcl : (Builtin.clear_ #[t] o.type #[.slice a' m c']).run P w = .ok (.tuple #[]) w := by
        rw [h0]
        cases a' <;> simp [Builtin.clear_, run_underlying (T.sle_ok hu)]
      simp [execOp, ho, resolve, hF.ev hx, invoke, builtin, hcl]
    unfold Oper.wp
    rw [hr]
    show K (ac.put o.dst _) _
    rw [hd]
    exact h.go _ _ hF hfront
  · obtain ⟨g, rfl⟩ := own_addrC hw (by omega)
    have hck : ¬ c = k := by omega
    have ha' : a' = some ⟨g, k * A.size, none⟩ := by rw [ha, if_neg hck, Option.map_some, Addr.add_lit, Nat.zero_add]
    clear ha
    subst ha'
    subst hk
    obtain ⟨cur, xs, Fs, hb, rfl, hnl, hnc, hcm, hlen, ht2, hl⟩ := own_openN hw
    have hzs : z.cells.toList.length = A.size := by rw [Array.length_toList]; exact hz
    have hvl : ((List.replicate m ()).flatMap fun _ : Unit => z.cells.toList).length = m * A.size := by rw [len_flatMap (fun _ => hzs)]; simp
    have hcap : l.length * A.size + m * A.size ≤ c * A.size := by rw [← Nat.add_mul]; exact Nat.mul_le_mul_right _ hm
    have hzc := zeroCells_flat (enc := fun _ : Unit => z.cells.toList) (z := z.cells) (z0 := ()) rfl m
    have hs := run_storeBlk (P := P) hb (vs := (List.replicate m ()).flatMap fun _ : Unit => z.cells.toList) (i := l.length * A.size) (by rw [hvl]; omega) (fun u hu => by
      obtain ⟨_, _, hq⟩ := List.mem_flatMap.1 hu
      exact h1 u hq)
    have hcl : (Builtin.clear_ #[t] o.type #[.slice (some ⟨g, l.length * A.size, none⟩) m c']).run P w = .ok (.tuple #[]) (w.setRow g (put cur ((List.replicate m ()).flatMap fun _ : Unit => z.cells.toList) (l.length * A.size)).toArray) := by
      obtain ⟨p, rfl⟩ : ∃ p, m = p + 1 := ⟨m - 1, by omega⟩
      simp [Builtin.clear_, run_underlying (T.sle_ok hu), zeroValue, typeInfo, g1, g2, hzc, hs]
    have hr : (execOp ac.eval o).run P w = .ok (.value (.tuple #[])) (w.setRow g (put cur ((List.replicate m ()).flatMap fun _ : Unit => z.cells.toList) (l.length * A.size)).toArray) := by
      simp [execOp, ho, resolve, hF.ev hx, invoke, builtin, hcl]
    unfold Oper.wp
    rw [hr]
    show K (ac.put o.dst _) _
    rw [hd]
    have hfr : Hp w0 M ([owC (sl e A) (g :: Fs.flatten) [.slice (some ⟨g, 0, none⟩) n c] l] ++ H.eraseIdx q) w := hfront
    have hnd : (g :: Fs.flatten).Nodup := by
      have := hfr.nd
      rw [ff_append] at this
      simpa [ff, owC] using (List.nodup_append.1 this).1
    have hgn := (List.nodup_cons.1 hnd).1
    have hoth : ∀ b, b ≠ g → (w.setRow g (put cur ((List.replicate m ()).flatMap fun _ : Unit => z.cells.toList) (l.length * A.size)).toArray).heap[b]? = w.heap[b]? := fun b hb => setRow_other w g b _ hb
    refine h.go _ _ hF ?_
    refine hfr.mod (C' := [owC (sl e A) (g :: Fs.flatten) [.slice (some ⟨g, 0, none⟩) n c] l]) ⟨rfl, rfl, rfl, by simp, fun b _ hb => hoth b (fun e1 => hb ?_)⟩ ?_ ?_ ?_
    · rw [e1]; simp [ff, owC]
    · intro c1 hc1
      simp only [List.mem_singleton] at hc1
      subst hc1
      refine own_closeN (cur := put cur ((List.replicate m ()).flatMap fun _ : Unit => z.cells.toList) (l.length * A.size)) (xs := xs) ?_ hnl hnc hcm ?_ ?_ (owL_stb hl (fun b hb2 => hoth b (fun e1 => hgn (e1 ▸ hb2))))
      · have := setRow_heap w g cur.toArray (put cur ((List.replicate m ()).flatMap fun _ : Unit => z.cells.toList) (l.length * A.size)).toArray e (0, 0) hb
        simpa [blkC] using this
      · simp only [put, List.length_append, List.length_take, List.length_drop, hvl, hlen]
        omega
      · have e3 : (cur.take (l.length * A.size)).length = l.length * A.size := by rw [List.length_take, hlen]; omega
        rw [← ht2, hnl]
        simp only [put, List.append_assoc]
        conv => lhs; arg 1; rw [← e3]
        exact List.take_left
    · have := hfr.nd
      rw [ff_append] at this
      exact (List.nodup_append.1 this).1
    · intro b hb
      exact .inl (by simpa [ff, owC] using hb)
end
end Go.Proofs.YtacecnffggffmaaDoor
