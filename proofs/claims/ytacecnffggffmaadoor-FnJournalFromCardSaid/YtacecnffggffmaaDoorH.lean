/- Calls that change a block and the owned slice that it holds. -/
import Derived.Test.YtacecnffggffmaaDoorG
set_option linter.all false
namespace Go.Proofs.YtacecnffggffmaaDoor
open Go.RowKit

/-- Two pieces as one. -/
def pairC (c d : Ch) : Ch where
  A := fun w => c.A w ∧ d.A w
  F := c.F ++ d.F
  stb := fun w w' h hA => ⟨c.stb w w' (fun b hb => h b (List.mem_append.2 (.inl hb))) hA.1, d.stb w w' (fun b hb => h b (List.mem_append.2 (.inr hb))) hA.2⟩
  lt := fun w hA b hb => (List.mem_append.1 hb).elim (c.lt w hA.1 b) (d.lt w hA.2 b)

section
variable {w0 w : World} {M : List Nat} {H : List Ch}
theorem Hp.pair {c d : Ch} {i j : Nat} (h : Hp w0 M H w) (hi : H[i]? = some c) (hj : (H.eraseIdx i)[j]? = some d) : Hp w0 M (pairC c d :: (H.eraseIdx i).eraseIdx j) w := by
  have h1 : Hp w0 M (c :: d :: (H.eraseIdx i).eraseIdx j) w := h.perm ((front_perm hi).trans ((front_perm hj).cons _))
  exact h1.join (c := pairC c d) ⟨h1.own c (by simp), h1.own d (by simp)⟩ (List.Perm.refl _)
theorem Hp.unpair {c d : Ch} {R : List Ch} (h : Hp w0 M (pairC c d :: R) w) : Hp w0 M (c :: d :: R) w := by
  have := h.own (pairC c d) (by simp)
  exact h.two this.1 this.2 (List.Perm.refl _)
theorem hp_pair {c d : Ch} (h1 : c.A w) (h2 : d.A w) (hn : (c.F ++ d.F).Nodup) : Hp w (c.F ++ d.F) [c, d] w :=
  ⟨ExtM.refl _ _, by simp [h1, h2], by simpa [ff] using hn, by intro b hb; left; simpa [ff] using hb⟩
theorem Hp.ndPair {c d : Ch} {i j : Nat} (h : Hp w0 M H w) (hi : H[i]? = some c) (hj : (H.eraseIdx i)[j]? = some d) : (c.F ++ d.F).Nodup := by
  have := (h.pair hi hj).nd
  rw [ff_cons] at this
  exact (List.nodup_append.1 this).1
/-- What came in lies apart from two pieces. -/
theorem Lay.atP {α : Type} {A : Lay α} {cs : List Value} {x : α} {i j : Nat} {c d : Ch} (h : A.rd w0 M cs x) (hi : H[i]? = some c) (hj : (H.eraseIdx i)[j]? = some d) (hH : Hp w0 M H w) : A.rd w (c.F ++ d.F) cs x :=
  Lay.atR (i := 0) (c := pairC c d) h rfl (hH.pair hi hj)
end

section
variable {P : Program} (T : Tab P) {Q : Exit → Act → World → Prop} {N : Nat} {L : SL} {w0 : World} {M : List Nat} {H : List Ch} {o : Oper} {K : Act → World → Prop} {d : Nat}

theorem ex_r0 {fn : Func} {R : Ending → World → Prop} (hr : fn.results = #[]) (h : ∀ w, Hp w0 M H w → R (.returned (.tuple #[])) w) : EX (bodyPost P fn R) .ret N L w0 M H :=
  .mk fun a w hF hH => bodyPost_ret (v := .tuple #[]) (w := w) (by simp [results_eq, hr]) hF.dfr (h w hH)

theorem ow_ex {ι : Type} (R : ι → Prop) (hr : ∀ w, Hp w0 M H w → ∃ i, R i) (h : ∀ i, R i → OW P o Q K N L w0 M H) : OW P o Q K N L w0 M H := .mk fun a w hF hH => by
  obtain ⟨i, hi⟩ := hr w hH
  exact (h i hi).go a w hF hH

/-- A call of a closure that changes a captured block and the owned slice in it, and hands nothing back. -/
theorem ow_cP {c0 c1 : Ch} {C : Option Addr → Nat → List Nat → List Ch} {f : FuncId} {fo : Operand} {xs : List Operand} {ts : Array TypeId} {vs args : List Value} {first captured : Array Value} (i j : Nat)
    (ho : o.op = .call { callee := .value fo, args := xs.toArray, argTypes := ts }) (hf : ev L fo = some (.func (.func f) first captured)) (hb : hasBody P f) (hx : evs L xs = some vs) (ha : first.toList ++ vs ++ captured.toList = args)
    (hi : H[i]? = some c0) (hj : (H.eraseIdx i)[j]? = some c1)
    (hc : ∀ w, Hp w0 M H w → Ret P f args w (c0.F ++ c1.F) fun u w' => ∃ a c F, u = .tuple #[] ∧ NewM w w' (c0.F ++ c1.F) (C a c F)) (hd : o.dst = none)
    (h : ∀ a c F, KK K N L w0 M (C a c F ++ (H.eraseIdx i).eraseIdx j)) : OW P o Q K N L w0 M H := .mk fun a w hF hHp => by
  have hargs : (first ++ (xs.toArray.map a.eval)) ++ captured = args.toArray := by
    rw [← ha, List.map_toArray, hF.evs hx]
    apply Array.ext'
    simp
  have hr : (execOp a.eval o).run P w = .ok (.enter f args.toArray) w := by
    simp only [execOp, ho, resolve, hF.ev hf, Deferred.ofValue, Sem.run_bind, Sem.run_pure, Result.andThen_ok, invoke]
    rw [hargs]
    exact run_callFunc hb w
  unfold Oper.wp
  rw [hr]
  refine Calls.mono (hc w hHp) ?_
  rintro e w' ⟨v, rfl, hE, a', c', F', rfl, hn⟩
  show K (a.put o.dst _) w'
  rw [hd]
  have hp := hHp.pair hi hj
  have hm : Hp w0 M ([pairC c0 c1] ++ (H.eraseIdx i).eraseIdx j) w := hp
  refine (h a' c' F').go a w' hF ?_
  refine hm.mod (C' := C a' c' F') ?_ hn.own hn.nd ?_
  · have e : ff [pairC c0 c1] = c0.F ++ c1.F := by simp [ff, pairC]
    rw [e]
    exact hE
  · intro b hb
    have e : ff [pairC c0 c1] = c0.F ++ c1.F := by simp [ff, pairC]
    rw [e]
    exact hn.ge b hb

/-- The same, where the call's value is named. -/
theorem ow_cPd {c0 c1 : Ch} {C : Option Addr → Nat → List Nat → List Ch} {f : FuncId} {fo : Operand} {xs : List Operand} {ts : Array TypeId} {vs args : List Value} {first captured : Array Value} (i j : Nat)
    (ho : o.op = .call { callee := .value fo, args := xs.toArray, argTypes := ts }) (hf : ev L fo = some (.func (.func f) first captured)) (hb : hasBody P f) (hx : evs L xs = some vs) (ha : first.toList ++ vs ++ captured.toList = args)
    (hi : H[i]? = some c0) (hj : (H.eraseIdx i)[j]? = some c1)
    (hc : ∀ w, Hp w0 M H w → Ret P f args w (c0.F ++ c1.F) fun u w' => ∃ a c F, u = .tuple #[] ∧ NewM w w' (c0.F ++ c1.F) (C a c F)) (hd : o.dst = some d) (hN : Nat.blt d N = true)
    (h : ∀ a c F, KK K N ((d, .tuple #[]) :: L) w0 M (C a c F ++ (H.eraseIdx i).eraseIdx j)) : OW P o Q K N L w0 M H := .mk fun a w hF hHp => by
  have hargs : (first ++ (xs.toArray.map a.eval)) ++ captured = args.toArray := by
    rw [← ha, List.map_toArray, hF.evs hx]
    apply Array.ext'
    simp
  have hr : (execOp a.eval o).run P w = .ok (.enter f args.toArray) w := by
    simp only [execOp, ho, resolve, hF.ev hf, Deferred.ofValue, Sem.run_bind, Sem.run_pure, Result.andThen_ok, invoke]
    rw [hargs]
    exact run_callFunc hb w
  unfold Oper.wp
  rw [hr]
  refine Calls.mono (hc w hHp) ?_
  rintro e w' ⟨v, rfl, hE, a', c', F', rfl, hn⟩
  show K (a.put o.dst _) w'
  rw [hd]
  have hp := hHp.pair hi hj
  have hm : Hp w0 M ([pairC c0 c1] ++ (H.eraseIdx i).eraseIdx j) w := hp
  have e : ff [pairC c0 c1] = c0.F ++ c1.F := by simp [ff, pairC]
  exact (h a' c' F').go _ w' (hF.put _ hN) (hm.mod (C' := C a' c' F') (by rw [e]; exact hE) hn.own hn.nd (by rw [e]; exact hn.ge))

theorem ex_n0 {fn : Func} {R : Ending → World → Prop} (hr : fn.results = #[]) (h : ∀ w, Hp w0 M H w → R (.returned (.tuple #[])) w) : EX (bodyPost P fn R) .normal N L w0 M H :=
  .mk fun a w hF hH => (bodyPost_ret (v := .tuple #[]) (w := w) (by simp [results_eq, hr]) hF.dfr (h w hH) : bodyPost P fn R .ret a w)

/-- append of the elements of another owned row, which pass over. -/
theorem ow_appN {α : Type} {A : Lay α} {s x : Operand} {ts : Array TypeId} {t e e2 : TypeId} {v : Value} {a : Option Addr} {m c by_ : Nat} {z : Value} {F G : List Nat} {l l' : List α} (i j : Nat)
    (ho : o.op = .call { callee := .builtin .append, args := #[s, x], argTypes := ts }) (hts : ts = #[t, t]) (h1 : ev L s = some v) (h2 : ev L x = some (.slice a m c)) (hi : H[i]? = some (owC (sl e A) F [v] l))
    (hj : (H.eraseIdx i)[j]? = some (owC (sl e2 A) G [.slice a m c] l')) (ht : T.sle t = some e) (hin : T.inf e = some (z, A.size, by_)) (hz : z.cells.size = A.size) (hn : Nat.blt 0 A.size = true)
    (hlen : l.length + l'.length ≤ 4000000000) (hby : by_ ≤ 1000) (hd : o.dst = some d) (hN : Nat.blt d N = true)
    (h : ∀ a' c' F', KK K N ((d, .slice a' (l ++ l').length c') :: L) w0 M (owC (sl e A) F' [.slice a' (l ++ l').length c'] (l ++ l') :: (H.eraseIdx i).eraseIdx j)) : OW P o Q K N L w0 M H := by
  refine ow_builtin2 (b := .append) ho h1 h2 hd hN fun w hH => ?_
  subst hts
  have hfront : Hp w0 M ([owC (sl e A) F [v] l, owC (sl e2 A) G [.slice a m c] l'] ++ (H.eraseIdx i).eraseIdx j) w := hH.perm ((front_perm hi).trans ((front_perm hj).cons _))
  have hw1 : (sl e A).ow w F [v] l := hfront.own (owC (sl e A) F [v] l) (by simp)
  have hw2 : (sl e2 A).ow w G [.slice a m c] l' := hfront.own (owC (sl e2 A) G [.slice a m c] l') (by simp)
  have hm := (sl_len ((sl e2 A).ow_rd (M := []) hw2 (by simp))).1
  subst hm
  obtain ⟨v2, xs, Fs, hv, hown, hl2, rfl⟩ := hw2
  simp only [List.cons.injEq, and_true] at hv
  subst hv
  have hnd : (F ++ Fs.flatten).Nodup := by
    have := hfront.nd
    rw [ff_append] at this
    have h3 := (List.nodup_append.1 this).1
    simp only [ff, owC, List.flatMap_cons, List.flatMap_nil, List.append_nil] at h3
    exact h3.sublist (List.Sublist.append (List.Sublist.refl _) (List.sublist_append_right _ _))
  have hcells : ∀ (j : Nat) (u : Value), xs[j]? = some u → ∃ ad, a = some ad ∧ w.cell? (ad.add j) = some u := by
    intro j u hju
    rcases hown.2 with ⟨_, hn0⟩ | ⟨g, cap, cur, hv, _⟩
    · exfalso
      have : xs = [] := List.eq_nil_of_length_eq_zero (by rw [hown.1, hn0, Nat.zero_mul])
      rw [this] at hju
      simp at hju
    · simp only [Value.slice.injEq] at hv
      obtain ⟨rfl, _, rfl⟩ := hv
      exact ⟨_, rfl, hown.cells (g := g) rfl j u hju⟩
  obtain ⟨a', c', w', F', r1, r2, r3, r4, r5⟩ := append_core T (A := A) (ty := o.type) (l' := l') (a := a) (c := c) ht hin hz (show 0 < A.size by simpa [Nat.blt_eq] using hn) hw1 hl2 hnd hcells (by simp only [maxLen]; omega) (by
    have := Nat.mul_le_mul hlen hby
    omega)
  refine ⟨_, w', r1, fun ac hF => ?_⟩
  refine (h a' c' F').go ac w' hF ?_
  refine hfront.mod (C' := [owC (sl e A) F' [.slice a' (l ++ l').length c'] (l ++ l')]) (r5.mono fun b hb => by simp [ff, owC, hb]) ?_ (by simpa [ff, owC] using r3) ?_
  · intro ch hch
    simp only [List.mem_singleton] at hch
    subst hch
    exact r2
  · intro b hb
    simp only [ff, owC, List.flatMap_cons, List.flatMap_nil, List.append_nil] at hb ⊢
    rcases r4 b hb with h4 | h4
    · left
      rcases List.mem_append.1 h4 with h5 | h5
      · exact List.mem_append.2 (.inl h5)
      · exact List.mem_append.2 (.inr (List.mem_append.2 (.inr h5)))
    · exact .inr h4
end
theorem change_nest (y : Change) : ∀ w F cs, changeL.ow w F cs y → ∃ a2 c2, cs[2]? = some (.slice a2 y.step.after.length c2) ∧ strsL.ow w F [.slice a2 y.step.after.length c2] y.step.after ∧ ∀ w' G x, strsL.ow w' G [.slice a2 y.step.after.length c2] x → changeL.ow w' G cs (Change.mk y.kind (Step.mk y.step.name x y.step.undo)) := by
  intro w F cs h
  obtain ⟨a, c, rfl, h1⟩ := changeL_ow h
  refine ⟨a, c, rfl, h1, fun w' G x h2 => ?_⟩
  have hl := (sl_len (strsL.ow_rd (M := []) h2 (by simp))).1
  rw [hl] at h2 ⊢
  exact changeL_mk (Change.mk y.kind (Step.mk y.step.name x y.step.undo)) h2
end Go.Proofs.YtacecnffggffmaaDoor
