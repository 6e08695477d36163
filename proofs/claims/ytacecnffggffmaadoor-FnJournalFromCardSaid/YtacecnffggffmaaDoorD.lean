/- A call that changes the slice inside an element of an owned slice: the slice is taken out, changed, and put back. -/
import Derived.Test.YtacecnffggffmaaDoorC
set_option linter.all false
namespace Go.Proofs.YtacecnffggffmaaDoor
open Go.RowKit

theorem owL_at {α : Type} {A : Lay α} {w : World} : ∀ {l : List α} {Fs : List (List Nat)} {cs : List Value} {k : Nat} {y : α}, owL A w Fs cs l → l[k]? = some y →
    ∃ Fp G Fq pre es post, Fs = Fp ++ G :: Fq ∧ cs = pre ++ (es ++ post) ∧ pre.length = k * A.size ∧ owL A w Fp pre (l.take k) ∧ A.ow w G es y ∧ owL A w Fq post (l.drop (k + 1))
  | [], _, _, _, _, _, hy => by simp at hy
  | x :: l, _, _, 0, y, h, hy => by
    obtain ⟨F, Fs', es, cs', rfl, rfl, hx, hl⟩ := h
    simp only [List.getElem?_cons_zero, Option.some.injEq] at hy
    subst hy
    exact ⟨[], F, Fs', [], es, cs', rfl, rfl, by simp, ⟨rfl, rfl⟩, hx, by simpa using hl⟩
  | x :: l, _, _, k + 1, y, h, hy => by
    obtain ⟨F, Fs', es, cs', rfl, rfl, hx, hl⟩ := h
    obtain ⟨Fp, G, Fq, pre, e2, post, rfl, rfl, h0, h1, h2, h3⟩ := owL_at hl (k := k) (y := y) (by simpa using hy)
    have hes := ow_len hx
    exact ⟨F :: Fp, G, Fq, es ++ pre, e2, post, rfl, by simp, by rw [List.length_append, hes, h0, Nat.add_mul]; omega, ⟨F, Fp, es, pre, rfl, rfl, hx, h1⟩, h2, by simpa using h3⟩

/-- An owned row of which one element's slice has been taken out. -/
def holeC {α β : Type} (A : Lay α) (B : Lay β) (e : TypeId) (F : List Nat) (v v2 : Value) (l : List α) (k : Nat) (put : β → α) : Ch where
  A := fun w => (∀ b ∈ F, b < w.heap.size) ∧ ∀ w' G x, (∀ b ∈ F, w'.heap[b]? = w.heap[b]?) → B.ow w' G [v2] x → ∃ F3 : List Nat, F3.Perm (F ++ G) ∧ (sl e A).ow w' F3 [v] (l.set k (put x))
  F := F
  stb := fun w w' h hA => ⟨fun b hb => by
    have h1 := hA.1 b hb
    have h2 := h b hb
    rw [Array.getElem?_eq_getElem h1] at h2
    exact (Array.getElem?_eq_some_iff.1 h2).1, fun w2 G x h3 h4 => hA.2 w2 G x (fun b hb => (h3 b hb).trans (h b hb)) h4⟩
  lt := fun w hA => hA.1

theorem hole_split {α β : Type} {A : Lay α} {B : Lay β} {e g n c k m f : Nat} {F : List Nat} {l : List α} {y : α} {y2 : β} {put : β → α} {w : World}
    (hdec : ∀ w F cs, A.ow w F cs y → ∃ a2 c2, cs[f]? = some (.slice a2 m c2) ∧ B.ow w F [.slice a2 m c2] y2 ∧ ∀ w' G x, B.ow w' G [.slice a2 m c2] x → A.ow w' G cs (put x))
    (h : (owC (sl e A) F [.slice (some ⟨g, 0, none⟩) n c] l).A w) (hk : l[k]? = some y) :
    ∃ a2 c2 F1 F2, F.Perm (F2 ++ F1) ∧ w.cell? ⟨g, 0 + k * A.size + f, none⟩ = some (.slice a2 m c2) ∧ (owC B F2 [.slice a2 m c2] y2).A w ∧
      (holeC A B e F1 (.slice (some ⟨g, 0, none⟩) n c) (.slice a2 m c2) l k put).A w := by
  obtain ⟨cur, xs, Fs, hb, rfl, rfl, hmc, hcm, hlen, ht, hl⟩ := own_openN h
  obtain ⟨Fp, G, Fq, pre, es, post, rfl, rfl, hpl, h1, h2, h3⟩ := owL_at hl hk
  obtain ⟨a2, c2, d1, d2, d3⟩ := hdec w G es h2
  have hkl := (List.getElem?_eq_some_iff.1 hk).1
  refine ⟨a2, c2, g :: (Fp.flatten ++ Fq.flatten), G, ?_, ?_, d2, ?_, ?_⟩
  · rw [List.perm_iff_count]
    intro a
    simp only [List.flatten_append, List.flatten_cons, List.count_append, List.count_cons]
    omega
  · have h4 : (pre ++ (es ++ post))[k * A.size + f]? = some (.slice a2 m c2) := by
      rw [List.getElem?_append_right (by omega), hpl, Nat.add_sub_cancel_left, List.getElem?_append_left (List.getElem?_eq_some_iff.1 d1).1, d1]
    rw [Nat.zero_add, blk_cell hb, ← h4, ← ht]
    rw [← ht] at h4
    have hlt := (List.getElem?_eq_some_iff.1 h4).1
    rw [List.length_take] at hlt
    rw [List.getElem?_take_of_lt (by omega)]
  · intro b hb2
    rcases List.mem_cons.1 hb2 with rfl | hb2
    · exact (blkC b e cur).lt w hb b (by simp [blkC])
    · exact (List.mem_append.1 hb2).elim (owL_lt h1 b) (owL_lt h3 b)
  · intro w' G' x hw hx
    refine ⟨g :: (Fp ++ G' :: Fq).flatten, ?_, ?_⟩
    · rw [List.perm_iff_count]
      intro a
      simp only [List.flatten_append, List.flatten_cons, List.count_append, List.count_cons]
      omega
    · refine own_closeN (cur := cur) (xs := pre ++ (es ++ post)) ((blkC g e cur).stb w w' (fun b hb2 => by
        have : b = g := by simpa [blkC] using hb2
        subst this
        exact hw b (by simp)) hb) (by simp) hmc hcm hlen ht ?_
      rw [List.set_eq_take_append_cons_drop, if_pos hkl]
      exact owL_append (owL_stb h1 (fun b hb2 => hw b (by simp only [List.mem_cons, List.mem_append]; exact .inr (.inl hb2)))) ⟨G', Fq, es, post, rfl, rfl, d3 w' G' x hx, owL_stb h3 (fun b hb2 => hw b (by simp only [List.mem_cons, List.mem_append]; exact .inr (.inr hb2)))⟩

section
variable {w0 w : World} {M : List Nat} {H : List Ch}
theorem Hp.two {c c1 c2 : Ch} (h : Hp w0 M (c :: H) w) (h1 : c1.A w) (h2 : c2.A w) (p : c.F.Perm (c1.F ++ c2.F)) : Hp w0 M (c1 :: c2 :: H) w := by
  have q : (ff (c :: H)).Perm (ff (c1 :: c2 :: H)) := by
    rw [ff_cons, ff_cons, ff_cons, ← List.append_assoc]
    exact p.append_right _
  refine ⟨h.ext, fun d hd => ?_, q.nodup_iff.1 h.nd, fun b hb => h.ge b (q.mem_iff.2 hb)⟩
  rcases List.mem_cons.1 hd with rfl | hd
  · exact h1
  rcases List.mem_cons.1 hd with rfl | hd
  · exact h2
  · exact h.own d (List.mem_cons_of_mem _ hd)
theorem Hp.join {c c1 c2 : Ch} (h : Hp w0 M (c1 :: c2 :: H) w) (hc : c.A w) (p : c.F.Perm (c1.F ++ c2.F)) : Hp w0 M (c :: H) w := by
  have q : (ff (c :: H)).Perm (ff (c1 :: c2 :: H)) := by
    rw [ff_cons, ff_cons, ff_cons, ← List.append_assoc]
    exact p.append_right _
  refine ⟨h.ext, fun d hd => ?_, q.nodup_iff.2 h.nd, fun b hb => h.ge b (q.mem_iff.1 hb)⟩
  rcases List.mem_cons.1 hd with rfl | hd
  · exact hc
  · exact h.own d (by simp [hd])
end

section
variable {P : Program} (T : Tab P) {Q : Exit → Act → World → Prop} {N : Nat} {L : SL} {w0 : World} {M : List Nat} {H : List Ch} {o : Oper} {K : Act → World → Prop} {d : Nat}

/-- The slice inside an element is loaded, and taken out of the row. -/
theorem ow_loadH {α β : Type} {A : Lay α} {B : Lay β} {t e : TypeId} {x : Operand} {g n c k m : Nat} {F : List Nat} {l : List α} {y : α} {y2 : β} {put : β → α} (i f : Nat)
    (hdec : ∀ w F cs, A.ow w F cs y → ∃ a2 c2, cs[f]? = some (.slice a2 m c2) ∧ B.ow w F [.slice a2 m c2] y2 ∧ ∀ w' G x, B.ow w' G [.slice a2 m c2] x → A.ow w' G cs (put x))
    (ho : o.op = .load t x) (hx : ev L x = some (.pointer (some ⟨g, 0 + k * A.size + f, none⟩))) (hg : T.agg t = some false)
    (hi : H[i]? = some (owC (sl e A) F [.slice (some ⟨g, 0, none⟩) n c] l)) (hk : l[k]? = some y) (hd : o.dst = some d) (hN : Nat.blt d N = true)
    (h : ∀ a2 c2 F1 F2, KK K N ((d, .slice a2 m c2) :: L) w0 M (owC B F2 [.slice a2 m c2] y2 :: holeC A B e F1 (.slice (some ⟨g, 0, none⟩) n c) (.slice a2 m c2) l k put :: H.eraseIdx i)) : OW P o Q K N L w0 M H := .mk fun ac w hF hH => by
  obtain ⟨a2, c2, F1, F2, hp, hc, h1, h2⟩ := hole_split hdec (hH.at hi) hk
  have hr : (execOp ac.eval o).run P w = .ok (.value (.slice a2 m c2)) w := by
    generalize (⟨g, 0 + k * A.size + f, none⟩ : Addr) = ad at hx hc
    simp [execOp, ho, hF.ev hx, Instr.loadAt, Instr.sureAddr, run_load1' T hg hc]
  unfold Oper.wp
  rw [hr]
  show K (ac.put o.dst _) _
  rw [hd]
  have hf : Hp w0 M (owC (sl e A) F [.slice (some ⟨g, 0, none⟩) n c] l :: H.eraseIdx i) w := hH.perm (front_perm hi)
  exact (h a2 c2 F1 F2).go _ _ (hF.put _ hN) (hf.two h1 h2 hp)

/-! Calls that hand back three or four slices. -/

theorem ow_cM3 {c0 : Ch} {f : FuncId} {xs : List Operand} {ts : Array TypeId} {vs : List Value} {V : Option Addr → Nat → List Nat → Option Addr → Nat → List Nat → Option Addr → Nat → List Nat → Value} {C : Option Addr → Nat → List Nat → Option Addr → Nat → List Nat → Option Addr → Nat → List Nat → List Ch} (i : Nat) (ho : o.op = .call { callee := .value (.func f), args := xs.toArray, argTypes := ts }) (hb : hasBody P f) (hx : evs L xs = some vs) (hi : H[i]? = some c0)
    (hc : ∀ w, Hp w0 M H w → Ret P f vs w c0.F fun u w' => ∃ a c F a2 c2 F2 a3 c3 F3, u = V a c F a2 c2 F2 a3 c3 F3 ∧ NewM w w' c0.F (C a c F a2 c2 F2 a3 c3 F3)) (hd : o.dst = some d) (hN : Nat.blt d N = true) (h : ∀ a c F a2 c2 F2 a3 c3 F3, KK K N ((d, V a c F a2 c2 F2 a3 c3 F3) :: L) w0 M (C a c F a2 c2 F2 a3 c3 F3 ++ H.eraseIdx i)) : OW P o Q K N L w0 M H :=
  ow_cM (ι := (Option Addr × Nat × List Nat) × (Option Addr × Nat × List Nat) × (Option Addr × Nat × List Nat)) (fun i => V i.1.1 i.1.2.1 i.1.2.2 i.2.1.1 i.2.1.2.1 i.2.1.2.2 i.2.2.1 i.2.2.2.1 i.2.2.2.2) (fun i => C i.1.1 i.1.2.1 i.1.2.2 i.2.1.1 i.2.1.2.1 i.2.1.2.2 i.2.2.1 i.2.2.2.1 i.2.2.2.2) (fun _ => True) ho hb hx hi
    (fun w hw => (hc w hw).mono fun v w' _ ⟨a, c, F, a2, c2, F2, a3, c3, F3, h1, h2⟩ => ⟨((a, c, F), (a2, c2, F2), (a3, c3, F3)), trivial, h1, h2⟩) hd hN (fun i _ => h i.1.1 i.1.2.1 i.1.2.2 i.2.1.1 i.2.1.2.1 i.2.1.2.2 i.2.2.1 i.2.2.2.1 i.2.2.2.2)
theorem ow_cN4 {f : FuncId} {xs : List Operand} {ts : Array TypeId} {vs : List Value} {V : Option Addr → Nat → List Nat → Option Addr → Nat → List Nat → Option Addr → Nat → List Nat → Option Addr → Nat → List Nat → Value} {C : Option Addr → Nat → List Nat → Option Addr → Nat → List Nat → Option Addr → Nat → List Nat → Option Addr → Nat → List Nat → List Ch} (ho : o.op = .call { callee := .value (.func f), args := xs.toArray, argTypes := ts }) (hb : hasBody P f) (hx : evs L xs = some vs)
    (hc : ∀ w, Hp w0 M H w → Ret P f vs w [] fun u w' => ∃ a c F a2 c2 F2 a3 c3 F3 a4 c4 F4, u = V a c F a2 c2 F2 a3 c3 F3 a4 c4 F4 ∧ NewC w w' (C a c F a2 c2 F2 a3 c3 F3 a4 c4 F4)) (hd : o.dst = some d) (hN : Nat.blt d N = true) (h : ∀ a c F a2 c2 F2 a3 c3 F3 a4 c4 F4, KK K N ((d, V a c F a2 c2 F2 a3 c3 F3 a4 c4 F4) :: L) w0 M (C a c F a2 c2 F2 a3 c3 F3 a4 c4 F4 ++ H)) : OW P o Q K N L w0 M H :=
  ow_callN (ι := (Option Addr × Nat × List Nat) × (Option Addr × Nat × List Nat) × (Option Addr × Nat × List Nat) × (Option Addr × Nat × List Nat)) (fun i => V i.1.1 i.1.2.1 i.1.2.2 i.2.1.1 i.2.1.2.1 i.2.1.2.2 i.2.2.1.1 i.2.2.1.2.1 i.2.2.1.2.2 i.2.2.2.1 i.2.2.2.2.1 i.2.2.2.2.2) (fun i => C i.1.1 i.1.2.1 i.1.2.2 i.2.1.1 i.2.1.2.1 i.2.1.2.2 i.2.2.1.1 i.2.2.1.2.1 i.2.2.1.2.2 i.2.2.2.1 i.2.2.2.2.1 i.2.2.2.2.2) (fun _ => True) (first := #[]) (captured := #[]) ho rfl hb hx (by simp)
    (fun w hw => (hc w hw).mono fun v w' _ ⟨a, c, F, a2, c2, F2, a3, c3, F3, a4, c4, F4, h1, h2⟩ => ⟨((a, c, F), (a2, c2, F2), (a3, c3, F3), (a4, c4, F4)), trivial, h1, h2⟩) hd hN (fun i _ => h i.1.1 i.1.2.1 i.1.2.2 i.2.1.1 i.2.1.2.1 i.2.1.2.2 i.2.2.1.1 i.2.2.1.2.1 i.2.2.1.2.2 i.2.2.2.1 i.2.2.2.2.1 i.2.2.2.2.2)

/-- The slice is put back. -/
theorem kk_join {α β : Type} {A : Lay α} {B : Lay β} {e k : Nat} {F1 G : List Nat} {v v2 : Value} {l l2 : List α} {x : β} {put : β → α} (i j : Nat)
    (hi : H[i]? = some (owC B G [v2] x)) (hj : (H.eraseIdx i)[j]? = some (holeC A B e F1 v v2 l k put)) (hl : l2 = l.set k (put x))
    (h : ∀ F3, KK K N L w0 M (owC (sl e A) F3 [v] l2 :: (H.eraseIdx i).eraseIdx j)) : KK K N L w0 M H := .mk fun a w hF hH => by
  subst hl
  have hf : Hp w0 M (owC B G [v2] x :: holeC A B e F1 v v2 l k put :: (H.eraseIdx i).eraseIdx j) w := hH.perm ((front_perm hi).trans ((front_perm hj).cons _))
  have h1 : B.ow w G [v2] x := hf.own (owC B G [v2] x) (by simp)
  have h2 : (holeC A B e F1 v v2 l k put).A w := hf.own _ (by simp)
  obtain ⟨F3, hp, h3⟩ := h2.2 w G x (fun _ _ => rfl) h1
  exact (h F3).go a w hF (hf.join (c := owC (sl e A) F3 [v] (l.set k (put x))) h3 (hp.trans List.perm_append_comm))
end

/-! ## The pieces, told anew -/

section
variable {P : Program} {Q : Exit → Act → World → Prop} {N : Nat} {L : SL} {w0 : World} {M : List Nat} {H : List Ch}
theorem cw_selH {c : Code} (is : List Nat) (Hs : List Ch) (hs : selL H is = some Hs) (h : CW P c Q N L w0 M Hs) : CW P c Q N L w0 M H := ⟨fun a w hF hH => h.go a w hF (hH.sel is hs)⟩
end

/-! ## The program's data -/

section
variable {w w' : World} {F G : List Nat} {cs : List Value}
theorem step_nest (y : Step) : ∀ w F cs, stepL.ow w F cs y → ∃ a2 c2, cs[1]? = some (.slice a2 y.after.length c2) ∧ strsL.ow w F [.slice a2 y.after.length c2] y.after ∧ ∀ w' G x, strsL.ow w' G [.slice a2 y.after.length c2] x → stepL.ow w' G cs (Step.mk y.name x y.undo) := by
  intro w F cs h
  obtain ⟨a, c, rfl, h1⟩ := stepL_ow h
  refine ⟨a, c, rfl, h1, fun w' G x h2 => ?_⟩
  have hl := (sl_len (strsL.ow_rd (M := []) h2 (by simp))).1
  rw [hl] at h2 ⊢
  exact stepL_mk (Step.mk y.name x y.undo) h2
theorem flow_nest (y : Flow) : ∀ w F cs, flowL.ow w F cs y → ∃ a2 c2, cs[1]? = some (.slice a2 y.steps.length c2) ∧ stepsL.ow w F [.slice a2 y.steps.length c2] y.steps ∧ ∀ w' G x, stepsL.ow w' G [.slice a2 y.steps.length c2] x → flowL.ow w' G cs (Flow.mk y.ver x) := by
  intro w F cs h
  obtain ⟨a, c, rfl, h1⟩ := flowL_ow h
  refine ⟨a, c, rfl, h1, fun w' G x h2 => ?_⟩
  have hl := (sl_len (stepsL.ow_rd (M := []) h2 (by simp))).1
  rw [hl] at h2 ⊢
  exact flowL_mk (Flow.mk y.ver x) h2
theorem run_nest (y : Run) : ∀ w F cs, runL.ow w F cs y → ∃ a2 c2, cs[1]? = some (.slice a2 y.done.length c2) ∧ strsL.ow w F [.slice a2 y.done.length c2] y.done ∧ ∀ w' G x, strsL.ow w' G [.slice a2 y.done.length c2] x → runL.ow w' G cs (Run.mk y.state x) := by
  intro w F cs h
  obtain ⟨a, c, rfl, h1⟩ := runL_ow h
  refine ⟨a, c, rfl, h1, fun w' G x h2 => ?_⟩
  have hl := (sl_len (strsL.ow_rd (M := []) h2 (by simp))).1
  rw [hl] at h2 ⊢
  exact runL_mk (Run.mk y.state x) h2
end
end Go.Proofs.YtacecnffggffmaaDoor
