/- Rules for slices that a callee changes in place: cut, cleared, handed to a call and back. -/
import Derived.Test.YtacecnffggffmaaDoorS
set_option linter.all false
namespace Go.Proofs.YtacecnffggffmaaDoor
open Go.RowKit

/-- A length that may be added to. -/
def lsz (n : Nat) : Option Unit := if n ≤ 4611686018427387904 then some () else none
theorem lsz_some {n : Nat} {u : Unit} (h : lsz n = some u) : n ≤ 4611686018427387904 := by
  unfold lsz at h
  split at h
  · assumption
  · cases h
theorem lsz_ok {n : Nat} (h : n ≤ 4611686018427387904) : lsz n = some () := if_pos h

section
variable {α : Type} {m : Nat} {enc : α → List Value} {hel : ∀ x, (enc x).length = m} {he1 : ∀ x, ∀ u ∈ enc x, u.oneCell' = true}

theorem owL_plain_inv {w : World} : ∀ {l : List α} {Fs : List (List Nat)} {cs : List Value}, owL (plain m enc hel he1) w Fs cs l → cs = l.flatMap enc ∧ Fs.flatten = []
  | [], _, _, h => ⟨h.2, by rw [h.1]; rfl⟩
  | x :: l, _, _, ⟨F, Fs', es, cs', h1, h2, ⟨h3, h4⟩, h5⟩ => by
    obtain ⟨e1, e2⟩ := owL_plain_inv h5
    subst h1; subst h2; subst h3; subst h4; subst e1
    exact ⟨by simp, by simpa using e2⟩

theorem len_flatMap (hl : ∀ x, (enc x).length = m) : ∀ l : List α, (l.flatMap enc).length = l.length * m
  | [] => by simp
  | x :: l => by rw [List.flatMap_cons, List.length_append, hl x, len_flatMap hl l, List.length_cons, Nat.add_mul]; omega
theorem take_flatMap (hl : ∀ x, (enc x).length = m) : ∀ (l : List α) (k : Nat), (l.flatMap enc).take (k * m) = (l.take k).flatMap enc
  | [], k => by simp
  | x :: l, 0 => by simp
  | x :: l, k + 1 => by
    rw [List.flatMap_cons, List.take_succ_cons, List.flatMap_cons, ← take_flatMap hl l k, List.take_append, hl x]
    have e : (k + 1) * m - m = k * m := by rw [Nat.add_mul]; omega
    rw [e, List.take_of_length_le (by rw [hl x, Nat.add_mul]; omega)]

/-- An owned row of plain elements, told by its cells. -/
theorem own_row {e g n c : Nat} {w : World} {F : List Nat} {l : List α} : (sl e (plain m enc hel he1)).ow w F [.slice (some ⟨g, 0, none⟩) n c] l ↔
    ∃ cur : List Value, (blkC g e cur).A w ∧ n = l.length ∧ n ≤ c ∧ c ≤ maxLen ∧ cur.length = c * m ∧ cur.take (l.length * m) = l.flatMap enc ∧ F = [g] := by
  constructor
  · rintro ⟨v, xs, Fs, hv, ⟨hxl, hrest⟩, hl, hFF⟩
    simp only [List.cons.injEq, and_true] at hv
    subst hv
    obtain ⟨e1, e2⟩ := owL_plain_inv hl
    rcases hrest with ⟨hbad, _⟩ | ⟨g', c0, cur, hv, hb0, hcur, hnc, hcm, hcs, htake⟩
    · simp at hbad
    · simp only [Value.slice.injEq, Option.some.injEq, Addr.mk.injEq, and_true, true_and] at hv
      obtain ⟨rfl, rfl, rfl⟩ := hv
      refine ⟨cur.toList, by simpa [blkC] using hcur, rfl, hnc, hcm, Array.length_toList.trans hcs, htake.trans e1, ?_⟩
      rw [hFF, e2]; rfl
  · rintro ⟨cur, h1, rfl, h3, h4, h5, h6, rfl⟩
    refine ⟨_, l.flatMap enc, _, rfl, ⟨len_flatMap hel l, .inr ⟨g, c, cur.toArray, rfl, Nat.zero_le _, by simpa [blkC] using h1, h3, h4, h5, h6⟩⟩, owL_plain w l, by rw [flatten_nils]; rfl⟩

/-- Cut behind. -/
theorem own_cut {e n c : Nat} {a : Option Addr} {w : World} {F : List Nat} {l x : List α} {k : Int} (hz : slTo l k = some x) (h : (sl e (plain m enc hel he1)).ow w F [.slice a n c] l) : (sl e (plain m enc hel he1)).ow w F [.slice a x.length c] x := by
  obtain ⟨h1, h2, h3, h4⟩ := slTo_some hz
  rcases Classical.em (∃ g, a = some ⟨g, 0, none⟩) with ⟨g, rfl⟩ | hno
  · rw [own_row] at h ⊢
    obtain ⟨cur, g1, g2, g3, g4, g5, g6, g7⟩ := h
    refine ⟨cur, g1, rfl, by omega, g4, g5, ?_, g7⟩
    rw [h4, h3, ← take_flatMap hel, ← g6, List.take_take, Nat.min_eq_left (Nat.mul_le_mul_right m h2)]
  · have hh := h
    obtain ⟨v, xs, Fs, hv, ⟨hxl, hrest⟩, hl, hFF⟩ := h
    simp only [List.cons.injEq, and_true] at hv
    subst hv
    rcases hrest with ⟨hbad, hn⟩ | ⟨g', c0, cur, hv, _⟩
    · have : l = [] := List.length_eq_zero_iff.1 (by omega)
      subst this
      have hx : x = [] := by rw [h3]; simp
      subst hx
      simp only [Value.slice.injEq] at hbad
      obtain ⟨rfl, rfl, rfl⟩ := hbad
      exact hh
    · simp only [Value.slice.injEq] at hv
      exact absurd ⟨g', hv.1⟩ hno
end

theorem zeroCells_flat {α : Type} {enc : α → List Value} {z : Array Value} {z0 : α} (h : z.toList = enc z0) (n : Nat) : (Builtin.zeroCells z n).toList = (List.replicate n z0).flatMap enc := by
  have key : (List.range (n * z.size)).map (fun i => z[i % z.size]!) = (List.replicate n z0).flatMap enc := by
    induction n with
    | zero => simp
    | succ n ih =>
      rw [Nat.add_mul, Nat.one_mul, List.range_add, List.map_append, ih, List.replicate_succ', List.flatMap_append]
      congr 1
      simp only [List.map_map, List.flatMap_cons, List.flatMap_nil, List.append_nil, ← h]
      apply List.ext_getElem
      · simp
      · intro i h1 h2
        have hi : i < z.size := by simpa using h1
        simp [Nat.mod_eq_of_lt hi, hi]
  simpa [Builtin.zeroCells] using key

section
variable {P : Program} (T : Tab P) {Q : Exit → Act → World → Prop} {N : Nat} {L : SL} {w0 : World} {M : List Nat} {H : List Ch} {o : Oper} {K : Act → World → Prop} {d : Nat}

theorem Hp.ndAt {i : Nat} {c : Ch} {w : World} (h : Hp w0 M H w) (hi : H[i]? = some c) : c.F.Nodup := by
  have hp : Hp w0 M (c :: H.eraseIdx i) w := h.perm (front_perm hi)
  have := hp.nd
  rw [ff_cons] at this
  exact (List.nodup_append.1 this).1

theorem own_capK {α : Type} {e n c : Nat} {A : Lay α} {a : Option Addr} {F : List Nat} {l : List α} {w : World} (i : Nat) (hi : H[i]? = some (owC (sl e A) F [.slice a n c] l)) (hH : Hp w0 M H w) : l.length ≤ c := by
  have h := sl_len (A := A) ((sl e A).ow_rd (F := F) (M := []) (hH.at hi) (by simp))
  omega
theorem sl_dropV {α : Type} {l x : List α} {k : Int} (a : Option Addr) (c s : Nat) (hz : slFrom l k = some x) : ∃ a' c', a' = (if c = k.toNat then a else a.map (·.add (k.toNat * s))) ∧ c' = c - k.toNat ∧ k.toNat ≤ l.length :=
  ⟨_, _, rfl, rfl, (slFrom_some hz).2.1⟩
theorem yh_sliceLN {α : Type} {l m : List α} {k : Int} {t e : TypeId} {x y : Operand} {a a' : Option Addr} {n c c' : Nat} {kk : IntKind} {z : Value} {s by_ : Nat} (hn : n = l.length) (hz : slFrom l k = some m) (ha : a' = (if c = k.toNat then a else a.map (·.add (k.toNat * s)))) (hc : c' = c - k.toNat)
    (ho : o.op = .slice t x (some y) none none) (hx : ev L x = some (.slice a n c)) (hy : ev L y = some (.int kk k)) (hu : T.sle t = some e) (hin : T.inf e = some (z, s, by_)) : YH P o (.slice a' m.length c') N L w0 M H := by
  subst hn
  exact yh_sliceLK T hz ha hc ho hx hy (slFrom_some hz).2.1 hu hin

/-- The end of an owned row is cleared. -/
theorem ow_clear {α : Type} {m : Nat} {enc : α → List Value} {hel : ∀ x, (enc x).length = m} {he1 : ∀ x, ∀ u ∈ enc x, u.oneCell' = true} {t e : TypeId} {ts : Array TypeId} {x : Operand} {a a' : Option Addr} {n c c' by_ : Nat} {k : Int} {z : Value} {F : List Nat} {l y : List α} (z0 : α) (i : Nat)
    (hz : slFrom l k = some y) (ha : a' = (if c = k.toNat then a else a.map (·.add (k.toNat * m)))) (hc : c' = c - k.toNat)
    (ho : o.op = .call { callee := .builtin .clear, args := #[x], argTypes := ts }) (ht : ts = #[t]) (hx : ev L x = some (.slice a' y.length c'))
    (hu : T.sle t = some e) (hin : T.inf e = some (z, m, by_)) (hzz : z.cells.toList = enc z0) (hi : H[i]? = some (owC (sl e (plain m enc hel he1)) F [.slice a n c] l))
    (hd : o.dst = none) (h : KK K N L w0 M (owC (sl e (plain m enc hel he1)) F [.slice a n c] (l.take k.toNat ++ List.replicate y.length z0) :: H.eraseIdx i)) : OW P o Q K N L w0 M H := by
  subst ht
  refine .mk fun ac w hF hH => ?_
  obtain ⟨z1, z2, z3, z4⟩ := slFrom_some hz
  obtain ⟨ti, g1, g2, g3, _⟩ := T.info hin
  have hw := hH.at hi
  have hlen := (sl_len (A := plain m enc hel he1) ((sl e (plain m enc hel he1)).ow_rd (F := F) (M := []) hw (by simp)))
  rcases Nat.eq_zero_or_pos y.length with h0 | h0
  · -- nothing is left to clear
    have hl : l.take k.toNat ++ List.replicate y.length z0 = l := by
      rw [h0, List.take_of_length_le (by omega)]; simp
    rw [hl] at h
    have hr : (execOp ac.eval o).run P w = .ok (.value (.tuple #[])) w := by
      have hcl : (Builtin.clear_ #[t] o.type #[.slice a' y.length c']).run P w = .ok (.tuple #[]) w := by
        rw [h0]
        cases a' <;> simp [Builtin.clear_, run_underlying (T.sle_ok hu)]
      simp [execOp, ho, resolve, hF.ev hx, invoke, builtin, hcl]
    unfold Oper.wp
    rw [hr]
    show K (ac.put o.dst _) _
    rw [hd]
    exact h.go _ _ hF (hH.perm (front_perm hi))
  · obtain ⟨g, rfl⟩ := own_addr hw (by omega)
    obtain ⟨cur, r1, r2, r3, r4, r5, r6, hFg⟩ := own_row.1 hw
    have hck : ¬ c = k.toNat := by omega
    have ha' : a' = some ⟨g, k.toNat * m, none⟩ := by rw [ha, if_neg hck]; simp [Addr.add]; omega
    clear ha
    subst ha'
    have hlm : k.toNat * m + y.length * m = l.length * m := by rw [← Nat.add_mul]; congr 1; omega
    have hcm : l.length * m ≤ c * m := Nat.mul_le_mul_right m (by omega)
    have hvl : ((List.replicate y.length z0).flatMap enc).length = y.length * m := by rw [len_flatMap hel]; simp
    have hs := run_storeBlk (P := P) r1 (vs := (List.replicate y.length z0).flatMap enc) (i := k.toNat * m) (by rw [hvl, r5]; omega) (fun u hu => by
      obtain ⟨q, _, hq⟩ := List.mem_flatMap.1 hu
      exact he1 q u hq)
    obtain ⟨p, hp⟩ : ∃ p, y.length = p + 1 := ⟨y.length - 1, by omega⟩
    have hcl : (Builtin.clear_ #[t] o.type #[.slice (some ⟨g, k.toNat * m, none⟩) y.length c']).run P w = .ok (.tuple #[]) (w.setRow g (put cur ((List.replicate y.length z0).flatMap enc) (k.toNat * m)).toArray) := by
      have hzc := zeroCells_flat hzz y.length
      rw [hp] at hzc hs ⊢
      simp [Builtin.clear_, run_underlying (T.sle_ok hu), zeroValue, typeInfo, g1, g2, hzc, hs]
    have hr : (execOp ac.eval o).run P w = .ok (.value (.tuple #[])) (w.setRow g (put cur ((List.replicate y.length z0).flatMap enc) (k.toNat * m)).toArray) := by
      simp [execOp, ho, resolve, hF.ev hx, invoke, builtin, hcl]
    unfold Oper.wp
    rw [hr]
    show K (ac.put o.dst _) _
    rw [hd]
    have hfront : Hp w0 M ([owC (sl e (plain m enc hel he1)) F [.slice (some ⟨g, 0, none⟩) n c] l] ++ H.eraseIdx i) w := hH.perm (front_perm hi)
    have hoth : ∀ b, b ≠ g → (w.setRow g (put cur ((List.replicate y.length z0).flatMap enc) (k.toNat * m)).toArray).heap[b]? = w.heap[b]? := fun b hb => setRow_other w g b _ hb
    refine h.go _ _ hF ?_
    refine hfront.mod (C' := [owC (sl e (plain m enc hel he1)) F [.slice (some ⟨g, 0, none⟩) n c] (l.take k.toNat ++ List.replicate y.length z0)]) ⟨rfl, rfl, rfl, by simp, fun b _ hb => hoth b (fun e1 => hb ?_)⟩ ?_ ?_ ?_
    · rw [e1]
      simp [ff, owC, hFg]
    · intro c1 hc1
      simp only [List.mem_singleton] at hc1
      subst hc1
      refine own_row.2 ⟨put cur ((List.replicate y.length z0).flatMap enc) (k.toNat * m), ?_, ?_, r3, r4, ?_, ?_, hFg⟩
      · have := setRow_heap w g cur.toArray (put cur ((List.replicate y.length z0).flatMap enc) (k.toNat * m)).toArray e _ (by simpa [blkC] using r1)
        simpa [blkC] using this
      · simp; omega
      · simp only [put, List.length_append, List.length_take, List.length_drop, hvl, r5]
        omega
      · rw [List.flatMap_append, ← take_flatMap hel, ← r6, List.take_take, Nat.min_eq_left (by omega)]
        have e2 : (l.take k.toNat ++ List.replicate y.length z0).length * m = (cur.take (k.toNat * m) ++ (List.replicate y.length z0).flatMap enc).length := by
          rw [List.length_append, List.length_append, hvl, List.length_take, List.length_take, List.length_replicate, r5, Nat.min_eq_left z2, Nat.min_eq_left (by omega), ← Nat.add_mul]
        rw [e2]
        simp only [put, Nat.zero_add]
        exact List.take_left
    · have := hfront.nd
      rw [ff_append] at this
      have := (List.nodup_append.1 this).1
      simpa [ff, owC] using this
    · intro b hb
      exact .inl (by simpa [ff, owC] using hb)

/-- A call that changes one owned slice and hands it back. -/
theorem ow_cF1 {c0 : Ch} {C : List Nat → List Ch} {f : FuncId} {xs : List Operand} {ts : Array TypeId} {vs : List Value} {v : Value} (i : Nat) (ho : o.op = .call { callee := .value (.func f), args := xs.toArray, argTypes := ts }) (hb : hasBody P f) (hx : evs L xs = some vs) (hi : H[i]? = some c0)
    (hc : ∀ w, Hp w0 M H w → Ret P f vs w c0.F fun u w' => ∃ F, u = v ∧ NewM w w' c0.F (C F)) (hd : o.dst = some d) (hN : Nat.blt d N = true) (h : ∀ F, KK K N ((d, v) :: L) w0 M (C F ++ H.eraseIdx i)) : OW P o Q K N L w0 M H :=
  ow_cM (ι := List Nat) (fun _ => v) (fun F => C F) (fun _ => True) ho hb hx hi (fun w hw => (hc w hw).mono fun u w' _ ⟨F, h1, h2⟩ => ⟨F, trivial, h1, h2⟩) hd hN (fun F _ => h F)
end
end Go.Proofs.YtacecnffggffmaaDoor
