/- Rules for walks that a program prints: facts that move with their base, loops, cuts, regions that draw their order and write at their end. -/
import Derived.Test.YtacecnffggffmaaDoorMore
set_option linter.all false
namespace Go.Proofs.YtacecnffggffmaaDoor
open Go.RowKit

/-! ## Mirrors: what a function computes, as a plain term; none: it would panic, or the fuel is spent -/

inductive Ex (β R : Type) where
  | brk (b : β)
  | ret (r : R)

def Ex.go {β R S : Type} (e : Ex β R) (f : R → S) (k : β → Option S) : Option S :=
  match e with
  | .brk b => k b
  | .ret r => some (f r)

theorem go_brk {β R S : Type} {b : β} {f : R → S} {k : β → Option S} {s : S} (h : (Ex.brk b).go f k = some s) : k b = some s := h
theorem go_ret {β R S : Type} {r : R} {f : R → S} {k : β → Option S} {s : S} (h : (Ex.ret r).go f k = some s) : f r = s := Option.some.inj h
theorem bt {α : Type} {b : Bool} {x y : Option α} {r : α} (hc : b = true) (h : (bif b then x else y) = some r) : x = some r := by rw [hc] at h; exact h
theorem bf {α : Type} {b : Bool} {x y : Option α} {r : α} (hc : b = false) (h : (bif b then x else y) = some r) : y = some r := by rw [hc] at h; exact h
theorem bd {α β : Type} {x : Option α} {f : α → Option β} {r : β} (h : x.bind f = some r) : ∃ a, x = some a ∧ f a = some r := Option.bind_eq_some_iff.1 h
theorem nosome {α : Type} {r : α} {p : Prop} (h : (none : Option α) = some r) : p := by cases h

/-- The element at an integer place. -/
def geti {α : Type} (l : List α) (i : Int) : Option α := if 0 ≤ i then l[i.toNat]? else none
theorem geti_some {α : Type} {l : List α} {i : Int} {x : α} (h : geti l i = some x) : i = (i.toNat : Int) ∧ l[i.toNat]? = some x := by
  unfold geti at h
  split at h
  · exact ⟨by omega, h⟩
  · cases h
theorem get_lt {α : Type} {l : List α} {k : Nat} {x : α} (h : l[k]? = some x) : k < l.length := (List.getElem?_eq_some_iff.1 h).1

def slTo {α : Type} (l : List α) (k : Int) : Option (List α) := if 0 ≤ k ∧ k ≤ l.length then some (l.take k.toNat) else none
def slFrom {α : Type} (l : List α) (k : Int) : Option (List α) := if 0 ≤ k ∧ k ≤ l.length then some (l.drop k.toNat) else none
theorem slTo_some {α : Type} {l m : List α} {k : Int} (h : slTo l k = some m) : k = (k.toNat : Int) ∧ k.toNat ≤ l.length ∧ m = l.take k.toNat ∧ m.length = k.toNat := by
  unfold slTo at h
  split at h
  · rename_i hk; injection h with h; subst h; exact ⟨by omega, by omega, rfl, by simp only [List.length_take]; omega⟩
  · cases h
theorem slFrom_some {α : Type} {l m : List α} {k : Int} (h : slFrom l k = some m) : k = (k.toNat : Int) ∧ k.toNat ≤ l.length ∧ m = l.drop k.toNat ∧ m.length = l.length - k.toNat := by
  unfold slFrom at h
  split at h
  · rename_i hk; injection h with h; subst h; exact ⟨by omega, by omega, rfl, by simp only [List.length_drop]⟩
  · cases h

/-- The byte of a text. -/
def bget (s : ByteArray) (k : Nat) : Option Nat := if h : k < s.size then some (s[k]'h).toNat else none
def bgeti (s : ByteArray) (k : Int) : Option Nat := if 0 ≤ k then bget s k.toNat else none
theorem bget_some {s : ByteArray} {k : Nat} {x : Nat} (h : bget s k = some x) : ∃ hk : k < s.size, x = (s[k]'hk).toNat := by
  unfold bget at h
  split at h
  · rename_i hk; injection h with h; exact ⟨hk, h.symm⟩
  · cases h
theorem bgeti_some {s : ByteArray} {k : Int} {x : Nat} (h : bgeti s k = some x) : k = (k.toNat : Int) ∧ bget s k.toNat = some x := by
  unfold bgeti at h
  split at h
  · exact ⟨by omega, h⟩
  · cases h

def w64 (n : Int) : Int := IntKind.i64.wrap n
theorem w64_id {n : Int} (h : -9223372036854775808 ≤ n ∧ n ≤ 9223372036854775807) : w64 n = n := IntWalk.i64_in n h

/-! ## Bases -/

/-- The base may be moved from (w0, M) to (w1, M1). -/
structure Rb (w0 : World) (M : List Nat) (w1 : World) (M1 : List Nat) : Prop where
  ext : ExtM M w0 w1
  sub : ∀ b ∈ M1, b ∈ M ∨ w0.heap.size ≤ b

section
variable {w0 w1 w2 w : World} {M M1 M2 : List Nat} {H : List Ch}
theorem Rb.refl (w : World) (M : List Nat) : Rb w M w M := ⟨ExtM.refl _ _, fun _ h => .inl h⟩
theorem Rb.trans (h : Rb w0 M w1 M1) (k : Rb w1 M1 w2 M2) : Rb w0 M w2 M2 :=
  ⟨h.ext.trans k.ext h.sub, fun b hb => (k.sub b hb).elim (fun h1 => h.sub b h1) (fun h1 => .inr (Nat.le_trans h.ext.size h1))⟩
theorem Rb.back (h : Rb w0 M w1 M1) (hH : Hp w1 M1 H w) : Hp w0 M H w :=
  ⟨h.ext.trans hH.ext h.sub, hH.own, hH.nd, fun b hb => (hH.ge b hb).elim (fun h1 => h.sub b h1) (fun h1 => .inr (Nat.le_trans h.ext.size h1))⟩
theorem Lay.rb {α : Type} {A : Lay α} {cs : List Value} {x : α} (h : A.rd w0 M cs x) (k : Rb w0 M w1 M1) : A.rd w1 M1 cs x :=
  A.rd_mono (A.rd_ext (A.rd_mono h (M' := M ++ M1) (fun b hb => (List.mem_append.1 hb).elim .inl (fun h1 => k.sub b h1))) (k.ext.mono fun x hx => List.mem_append.2 (.inl hx)))
    (fun b hb => .inl (List.mem_append.2 (.inr hb)))
theorem CellN.rb {b o : Nat} {vs : List Value} (h : CellN w0 M b o vs) (hne : vs ≠ []) (k : Rb w0 M w1 M1) : CellN w1 M1 b o vs := by
  have hlt : b < w0.heap.size := by
    cases vs with
    | nil => exact absurd rfl hne
    | cons v vs => exact World.block_lt_of_cell? w0 ⟨b, o + 0, none⟩ (h.2 0 v rfl)
  exact ⟨fun hb => (k.sub b hb).elim h.1 (fun h1 => by omega), fun j u hj => k.ext.cell (h.2 j u hj) h.1⟩

/-- A fact, at a world of the state. -/
theorem Lay.at_ {α : Type} {A : Lay α} {cs : List Value} {x : α} (h : A.rd w0 M cs x) (hH : Hp w0 M H w) : A.rd w [] cs x := A.rd_mono (A.rd_ext h hH.ext) (by simp)
/-- A fact, at a world of the state, apart from a block that may be written. -/
theorem Lay.atR {α : Type} {A : Lay α} {cs : List Value} {x : α} {i : Nat} {c : Ch} (h : A.rd w0 M cs x) (hi : H[i]? = some c) (hH : Hp w0 M H w) : A.rd w c.F cs x := by
  have hr : ∀ b ∈ c.F, b ∈ M ∨ w0.heap.size ≤ b := fun b hb => hH.ge b (mem_ff.2 ⟨_, List.mem_of_getElem? hi, hb⟩)
  have h1 : A.rd w0 (c.F ++ M) cs x := A.rd_mono h (fun b hb => by
    rcases List.mem_append.1 hb with hb | hb
    · exact hr b hb
    · exact .inl hb)
  have h2 : A.rd w (c.F ++ M) cs x := A.rd_ext h1 (hH.ext.mono fun x hx => by simp [hx])
  exact A.rd_mono h2 (fun b hb => .inl (List.mem_append.2 (.inl hb)))
theorem rdo {α : Type} {A : Lay α} {cs : List Value} {F : List Nat} {x : α} (i : Nat) (hi : H[i]? = some (owC A F cs x)) (hH : Hp w0 M H w) : A.rd w [] cs x := A.ow_rd (hH.at hi) (by simp)
/-- An owned piece, read apart from another piece. -/
theorem rdoR {α : Type} {A : Lay α} {cs : List Value} {F : List Nat} {x : α} {c : Ch} (i j : Nat) (hi : H[i]? = some (owC A F cs x)) (hj : H[j]? = some c) (hne : Nat.beq i j = false) (hH : Hp w0 M H w) : A.rd w c.F cs x := by
  refine A.ow_rd (hH.at hi) (fun b hb hb2 => ?_)
  have hne' : i ≠ j := fun e => by subst e; simp at hne
  have p1 := front_perm hi
  have hj' : ∃ k : Nat, (H.eraseIdx i)[k]? = some c := by
    have hjl := (List.getElem?_eq_some_iff.1 hj).1
    rcases Nat.lt_or_ge j i with h1 | h1
    · exact ⟨j, by rw [List.getElem?_eraseIdx_of_lt h1]; exact hj⟩
    · exact ⟨j - 1, by rw [List.getElem?_eraseIdx_of_ge (by omega), show j - 1 + 1 = j by omega]; exact hj⟩
  obtain ⟨k, hk⟩ := hj'
  have := (hH.perm p1).nd
  rw [ff_cons] at this
  exact (List.nodup_append.1 this).2.2 b hb b (mem_ff.2 ⟨_, List.mem_of_getElem? hk, hb2⟩) rfl

def dmy : Ch := ⟨fun _ => True, [], fun _ _ _ _ => trivial, fun _ _ _ hb => by simp at hb⟩
/-- Pieces, chosen by their places. -/
def selL (H : List Ch) : List Nat → Option (List Ch)
  | [] => some []
  | i :: is =>
    match H[i]?, selL (H.set i dmy) is with
    | some c, some cs => some (c :: cs)
    | _, _ => none
end
section
variable {w0 w : World} {M : List Nat}
theorem ff_set {H : List Ch} {i : Nat} {c : Ch} (hi : H[i]? = some c) : (ff H).Perm (c.F ++ ff (H.set i dmy)) := by
  have hlt := (List.getElem?_eq_some_iff.1 hi).1
  have h1 := ff_perm (front_perm hi)
  rw [ff_cons] at h1
  have h2 := ff_perm (front_perm (H := H.set i dmy) (i := i) (c := dmy) (by simp [hlt]))
  rw [ff_cons, List.eraseIdx_set_eq] at h2
  exact h1.trans (List.Perm.append_left _ (by simpa [dmy] using h2.symm))

theorem Hp.sel1 {C H : List Ch} {i : Nat} {c : Ch} (h : Hp w0 M (C ++ H) w) (hi : H[i]? = some c) : Hp w0 M ((C ++ [c]) ++ H.set i dmy) w := by
  have hp : (ff (C ++ H)).Perm (ff ((C ++ [c]) ++ H.set i dmy)) := by
    rw [ff_append, ff_append, ff_append, List.append_assoc]
    exact List.Perm.append_left _ (by simpa [ff] using ff_set hi)
  refine ⟨h.ext, fun x hx => ?_, hp.nodup_iff.1 h.nd, fun b hb => h.ge b (hp.mem_iff.2 hb)⟩
  rcases List.mem_append.1 hx with hx | hx
  · rcases List.mem_append.1 hx with hx | hx
    · exact h.own x (List.mem_append.2 (.inl hx))
    · simp only [List.mem_singleton] at hx
      subst hx
      exact h.own x (List.mem_append.2 (.inr (List.mem_of_getElem? hi)))
  · rcases List.mem_or_eq_of_mem_set hx with hx | hx
    · exact h.own x (List.mem_append.2 (.inr hx))
    · subst hx; trivial

theorem Hp.selC : ∀ (is : List Nat) (C H H' : List Ch), Hp w0 M (C ++ H) w → selL H is = some H' → Hp w0 M (C ++ H') w
  | [], C, H, H', h, hs => by
    simp only [selL, Option.some.injEq] at hs
    subst hs
    rw [List.append_nil]
    exact h.subl (List.sublist_append_left _ _)
  | i :: is, C, H, H', h, hs => by
    unfold selL at hs
    split at hs
    · rename_i c cs hi hcs
      injection hs with hs
      subst hs
      have := Hp.selC is (C ++ [c]) _ _ (h.sel1 hi) hcs
      simpa using this
    · cases hs

theorem Hp.sel {H H' : List Ch} (h : Hp w0 M H w) (is : List Nat) (hs : selL H is = some H') : Hp w0 M H' w := by
  simpa using Hp.selC is [] H H' (by simpa using h) hs
end

section
variable {P : Program} {Q : Exit → Act → World → Prop} {N : Nat} {L : SL} {w0 : World} {M : List Nat} {H : List Ch} {K : Act → World → Prop}

/-! ## Choosing, freezing, knowing -/

theorem cw_sel {c : Code} (L' : SL) (is : List Nat) {H' : List Ch} (hs : sub L' L) (hh : selL H is = some H') (h : CW P c Q N L' w0 M H') : CW P c Q N L w0 M H :=
  ⟨fun a w hF hH => h.go a w (hF.sub hs) (hH.sel is hh)⟩

/-- An owned piece that is only read from here on: a fact over a new base. -/
theorem cw_freeze {c : Code} {α : Type} {A : Lay α} {F : List Nat} {cs : List Value} {x : α} (i : Nat) (hi : H[i]? = some (owC A F cs x))
    (h : ∀ w1 M1, Rb w0 M w1 M1 → A.rd w1 M1 cs x → CW P c Q N L w1 M1 (H.eraseIdx i)) : CW P c Q N L w0 M H := ⟨fun a w hF hH => by
  have hf := hH.front hi
  have hnd := hf.nd
  rw [ff_cons] at hnd
  have hdis := (List.nodup_append.1 hnd).2.2
  have hge : ∀ b ∈ F, b ∈ M ∨ w0.heap.size ≤ b := fun b hb => hf.ge b (by rw [ff_cons]; exact List.mem_append.2 (.inl hb))
  have hoth : ∀ b ∈ ff (H.eraseIdx i), b ∈ M ∨ w0.heap.size ≤ b := fun b hb => hf.ge b (by rw [ff_cons]; exact List.mem_append.2 (.inr hb))
  refine (h w (ff (H.eraseIdx i)) ⟨hH.ext, hoth⟩ ?_).go a w hF ⟨ExtM.refl _ _, fun c hc => hf.own c (List.mem_cons_of_mem _ hc), (List.nodup_append.1 hnd).2.1, fun b hb => .inl hb⟩
  exact A.ow_rd (hH.at hi) (fun b hb hb2 => hdis b hb b hb2 rfl)⟩

/-- What is known of every world of this state, with a witness. -/
theorem cw_ex {c : Code} {ι : Type} (R : ι → Prop) (hr : ∀ w, Hp w0 M H w → ∃ i, R i) (h : ∀ i, R i → CW P c Q N L w0 M H) : CW P c Q N L w0 M H :=
  ⟨fun a w hF hH => by obtain ⟨i, hi⟩ := hr w hH; exact (h i hi).go a w hF hH⟩

/-! ## Loops and cuts -/

/-- A loop: KL is what a round hands on to. -/
theorem cw_loopG {σ : Type} {c : Code} (I : σ → Prop) (Lf : σ → SL) (Hf : σ → List Ch) (m : σ → Nat) (s0 : σ) (is : List Nat)
    (h0 : I s0) (hs : sub (Lf s0) L) (hh : selL H is = some (Hf s0))
    (round : ∀ (KL : Act → World → Prop) s, I s → (∀ s', m s' < m s → I s' → ∀ a w, Fr a N (Lf s') → Hp w0 M (Hf s') w → KL a w) → CW P c (Exit.then KL Q) N (Lf s) w0 M (Hf s)) : CW P (.loop c) Q N L w0 M H := by
  refine ⟨fun a w hF hH => ?_⟩
  refine wp_loop_ghost (fun n a w => ∃ s, m s = n ∧ I s ∧ Fr a N (Lf s) ∧ Hp w0 M (Hf s) w) (m s0) ⟨s0, rfl, h0, hF.sub hs, hH.sel is hh⟩ ?_
  rintro n a w ⟨s, rfl, hI, hF, hH⟩
  refine wp_mono ((round (fun a w => ∃ s', m s' < m s ∧ I s' ∧ Fr a N (Lf s') ∧ Hp w0 M (Hf s') w) s hI (fun s' h1 h2 a w h3 h4 => ⟨s', h1, h2, h3, h4⟩)).go a w hF hH) ?_
  intro e a' w' hq
  cases e with
  | normal =>
    obtain ⟨s', hlt, hI', hF', hH'⟩ := hq
    exact ⟨m s', hlt, s', rfl, hI', hF', hH'⟩
  | exit id => exact hq
  | goto l => exact hq
  | ret => exact hq
  | panic ch => exact hq
  | outgrown => exact hq

theorem ex_next {KL : Act → World → Prop} {L' : SL} {H' : List Ch} (is : List Nat) (hn : ∀ a w, Fr a N L' → Hp w0 M H' w → KL a w) (hs : sub L' L) (hh : selL H is = some H') : EX (Exit.then KL Q) .normal N L w0 M H :=
  .mk fun a w hF hH => hn a w (hF.sub hs) (hH.sel is hh)
theorem ex_nextB {w1 : World} {M1 : List Nat} {KL : Act → World → Prop} {L' : SL} {H' : List Ch} (hB : Rb w0 M w1 M1) (is : List Nat) (hn : ∀ a w, Fr a N L' → Hp w0 M H' w → KL a w) (hs : sub L' L) (hh : selL H is = some H') : EX (Exit.then KL Q) .normal N L w1 M1 H :=
  .mk fun a w hF hH => hn a w (hF.sub hs) ((hB.back hH).sel is hh)

/-- Ways that meet: what stands behind is walked once. -/
theorem cw_cut {σ : Type} {x y : Code} (I : σ → Prop) (Lf : σ → SL) (Hf : σ → List Ch) (hy : ∀ s, I s → CW P y Q N (Lf s) w0 M (Hf s))
    (hx : ∀ KL : Act → World → Prop, (∀ s, I s → ∀ a w, Fr a N (Lf s) → Hp w0 M (Hf s) w → KL a w) → CW P x (Exit.then KL Q) N L w0 M H) : CW P (.seq x y) Q N L w0 M H :=
  ⟨fun a w hF hH => wp_seq (wp_mono ((hx (fun a w => ∃ s, I s ∧ Fr a N (Lf s) ∧ Hp w0 M (Hf s) w) (fun s hI a w h1 h2 => ⟨s, hI, h1, h2⟩)).go a w hF hH) (by
    intro e a' w' hq
    cases e with
    | normal =>
      obtain ⟨s, hI, h1, h2⟩ := hq
      exact (hy s hI).go _ _ h1 h2
    | exit id => exact hq
    | goto l => exact hq
    | ret => exact hq
    | panic ch => exact hq
    | outgrown => exact hq))⟩
end

/-! ## Regions that draw their order: those of F only read, and are taken as early as they may; S holds behind all but those of T, and each of T waits for all of F -/

def reach (ops : Array Oper) : Nat → Nat → Nat → Bool
  | 0, _, _ => false
  | n + 1, j, i => match ops[j]? with
    | none => false
    | some o => o.after.any fun e => Region.binds .any e && (Nat.beq e.on i || reach ops n e.on i)
def tailOk (ops : Array Oper) (F T : List Nat) : Bool := T.all fun j => F.all fun i => reach ops ops.size j i
def dcB (ops : Array Oper) (listed : Array Bool) : Bool :=
  (List.range ops.size).all fun j => !listed.getD j false || match ops[j]? with
    | none => true
    | some o => o.after.all fun e => !Region.binds .any e || listed.getD e.on false

def wpT (P : Program) (ops : Array Oper) (Q : Exit → Act → World → Prop) (S : World → Prop) (T : List Nat) : Nat → Array Bool → Act → World → Prop
  | 0, listed, a, w => Region.ready .any ops listed = [] ∧ Q .normal a w
  | n + 1, listed, a, w => (Region.ready .any ops listed = [] → Q .normal a w) ∧
      ∀ i ∈ Region.ready .any ops listed, wpOp P ops Q i (fun a' w' => (T.contains i = false → S w') ∧ wpT P ops Q S T n (listed.setIfInBounds i true) a' w') a w

section
variable {P : Program} {ops : Array Oper} {Q : Exit → Act → World → Prop} {S : World → Prop} {F T : List Nat}

theorem wpT_any : ∀ (n : Nat) (listed : Array Bool) (a : Act) (w : World), wpT P ops Q S T n listed a w → wpAny P .any ops Q n listed a w
  | 0, _, _, _, h => h
  | n + 1, _, _, _, h => ⟨h.1, fun i hi => wpOp_mono (fun a' w' h' => wpT_any n _ a' w' h'.2) (h.2 i hi)⟩

def DC (ops : Array Oper) (listed : Array Bool) : Prop := ∀ j o, ops[j]? = some o → listed.getD j false = true → ∀ e ∈ o.after, Region.binds .any e = true → listed.getD e.on false = true

theorem dcB_ok {listed : Array Bool} (h : dcB ops listed = true) : DC ops listed := by
  intro j o ho hl e he hb
  have hlt : j < ops.size := (Array.getElem?_eq_some_iff.1 ho).1
  have h1 := (List.all_eq_true.1 h) j (List.mem_range.2 hlt)
  simp only [hl, Bool.not_true, Bool.false_or, ho] at h1
  have h2 := (Array.all_eq_true_iff_forall_mem.1 h1) e he
  simpa [hb] using h2

theorem reach_listed {listed : Array Bool} (hd : DC ops listed) : ∀ (n j i : Nat), reach ops n j i = true → (∀ o, ops[j]? = some o → ∀ e ∈ o.after, Region.binds .any e = true → listed.getD e.on false = true) → listed.getD i false = true
  | 0, _, _, h, _ => by simp [reach] at h
  | n + 1, j, i, h, hj => by
    unfold reach at h
    split at h
    · cases h
    · rename_i o ho
      obtain ⟨e, he, hb⟩ := Array.any_eq_true'.1 h
      simp only [Bool.and_eq_true, Bool.or_eq_true] at hb
      have hl := hj o ho e he hb.1
      rcases hb.2 with h1 | h1
      · rw [← Nat.eq_of_beq_eq_true h1]; exact hl
      · exact reach_listed hd n e.on i h1 (fun o' ho' => hd e.on o' ho' hl)

theorem getD_tf {listed : Array Bool} {i : Nat} (h : listed.getD i true = false) : listed.getD i false = false := by
  rw [Array.getD_eq_getD_getElem?] at h ⊢
  cases hl : listed[i]? with
  | none => rfl
  | some b => rw [hl] at h; simpa using h

theorem wpT_first {i : Nat} {oi : Oper} {v : Value} (hF : i ∈ F) (hT : tailOk ops F T = true) (hi : ops[i]? = some oi) (hsel : ∀ (j : Nat) (o : Oper) cs b, ops[j]? = some o → o.op ≠ .select cs b)
    (hQ : ∀ c a w, Q (.panic c) (a.put oi.dst v) w → Q (.panic c) a w) :
    ∀ (n : Nat) (listed : Array Bool) (a : Act) (w : World), DC ops listed →
      (∀ j oj, ops[j]? = some oj → j ≠ i → listed.getD j true = false → (∀ e ∈ oj.after, Region.binds .any e = true → e.on ≠ i) → oi.apart ops oj = true) →
      i ∈ Region.ready .any ops listed → YieldsIf P ops S oi v a → S w →
      wpT P ops Q S T n (listed.setIfInBounds i true) (a.put oi.dst v) w → wpT P ops Q S T (n + 1) listed a w := by
  intro n
  induction n with
  | zero =>
    intro listed a w _ _ hr hy hS hW
    refine ⟨fun h0 => absurd hr (by simp [h0]), fun j hj => ?_⟩
    rcases Decidable.em (j = i) with e | e
    · subst e
      exact hy.wpOp hi hS ⟨fun _ => hS, hW⟩
    · have hj2 := ready_mono hj e
      rw [hW.1] at hj2
      simp at hj2
  | succ n ih =>
    intro listed a w hdc hfree hr hy hS hW
    refine ⟨fun h0 => absurd hr (by simp [h0]), fun j hj => ?_⟩
    rcases Decidable.em (j = i) with e | e
    · subst e
      exact hy.wpOp hi hS ⟨fun _ => hS, hW⟩
    · obtain ⟨hju, oj, hoj, hdep⟩ := mem_ready.1 hj
      have hiu : listed.getD i true = false := (mem_ready.1 hr).1
      have hno : ∀ ed ∈ oj.after, Region.binds .any ed = true → ed.on ≠ i := by
        intro ed he hb hq
        have hup := hdep ed he hb
        rw [hq, getD_tf hiu] at hup
        cases hup
      have hjT : T.contains j = false := by
        cases hc : T.contains j with
        | false => rfl
        | true =>
          have hre := (List.all_eq_true.1 ((List.all_eq_true.1 hT) j (by simpa using hc))) i hF
          have := reach_listed hdc _ j i hre (fun o ho e he hb => by rw [hoj] at ho; injection ho with ho; subst ho; exact hdep e he hb)
          rw [getD_tf hiu] at this
          cases this
      have hstep := wpOp_putIf hoj (hfree j oj hoj e hju hno) (fun cs b => hsel i oi cs b hi) (fun cs b => hsel j oj cs b hoj) hQ hy (hW.2 j (ready_mono hj e))
      refine wpOp_mono (fun a' w' k => ?_) hstep
      obtain ⟨hy', hS', hW'⟩ := k
      have hSw : S w' := hS' hjT
      have hdc' : DC ops (listed.setIfInBounds j true) := by
        intro k ok hk hl ed he hb
        rcases Decidable.em (j = k) with e2 | e2
        · subst e2
          rw [hoj] at hk
          injection hk with hk
          subst hk
          exact getD_set_true (hdep ed he hb)
        · rw [getD_set_ne false e2] at hl
          exact getD_set_true (hdc k ok hk hl ed he hb)
      refine ⟨fun _ => hSw, ih _ a' w' hdc' (fun k ok hk hki hku hkn => hfree k ok hk hki ?_ hkn) (ready_mono hr (Ne.symm e)) hy' hSw ?_⟩
      · rcases Decidable.em (j = k) with e2 | e2
        · subst e2; exact hju
        · rw [getD_set_ne true e2] at hku; exact hku
      · rw [Array.setIfInBounds_comm _ _ e]
        exact hW'
end

/-- In a region that draws: bs tells who has come up, F and T as above; while ph holds, S (the pieces Hs over the base) holds. -/
structure WD (P : Program) (l : List Oper) (Q : Exit → Act → World → Prop) (F T : List Nat) (w0 : World) (M : List Nat) (Hs : List Ch) (fuel : Nat) (bs : List Bool) (N : Nat) (L : SL) (H : List Ch) : Prop where
  go : ∀ a w, Fr a N L → Hp w0 M H w → wpT P l.toArray Q (fun w => Hp w0 M Hs w) T fuel bs.toArray a w

def tkT (l : List Oper) (F T : List Nat) (bs : List Bool) (i : Nat) : Bool := tkB l bs i && (F.contains i && (tailOk l.toArray F T && dcB l.toArray bs.toArray))

/-- What stands behind an operation of such a region. -/
structure WC (P : Program) (l : List Oper) (Q : Exit → Act → World → Prop) (F T : List Nat) (w0 : World) (M : List Nat) (Hs : List Ch) (fuel : Nat) (bs : List Bool) (i : Nat) (a : Act) (w : World) : Prop where
  go : (T.contains i = false → Hp w0 M Hs w) ∧ wpT P l.toArray Q (fun w => Hp w0 M Hs w) T fuel bs.toArray a w

section
variable {P : Program} {Q : Exit → Act → World → Prop} {N : Nat} {L : SL} {w0 : World} {M : List Nat} {H Hs : List Ch} {l : List Oper} {bs : List Bool} {F T : List Nat} {fuel i d : Nat} {o : Oper} {v : Value}

theorem cw_dr {id : Nat} (F T : List Nat) (Hs : List Ch) (hm : P.follows .mixedOrders = true) (h : WD P l Q F T w0 M Hs l.length (List.replicate l.length false) N L H) : CW P (.region id l.toArray true) Q N L w0 M H := ⟨fun a w hF hH =>
  wp_region_any hm (by
    have := wpT_any _ _ _ _ (h.go a _ hF (hH.step (ExtM.drewN [] w)))
    simpa using this)⟩

theorem wd_take (is : List Nat) (hi : l[i]? = some o) (_hf : floaty o.op = true) (hon : isOn l L o = true)
    (hd : o.dst = some d) (hN : Nat.blt d N = true) (hk : tkT l F T bs i = true) (hs : selL H is = some Hs)
    (hQ : ∀ c a w v, Q (.panic c) (a.put (some d) v) w → Q (.panic c) a w)
    (hy : YH P o v N L w0 M Hs) (h : WD P l Q F T w0 M Hs fuel (bs.set i true) N ((d, v) :: L) H) : WD P l Q F T w0 M Hs (fuel + 1) bs N L H := ⟨fun a w hF hH => by
  unfold tkT at hk
  simp only [Bool.and_eq_true] at hk
  obtain ⟨hn, hf, hr⟩ := tkB_ok hk.1
  refine wpT_first (oi := o) (v := v) (by simpa using hk.2.1) hk.2.2.1 (by simpa using hi) (Region.noSelect_spec hn) (by rw [hd]; exact fun c a w => hQ c a w v) fuel _ _ _ (dcB_ok hk.2.2.2)
    (Region.free_spec (by simpa using hi) hf) (by simpa using hr) (.inl ⟨gwd_wanted hF (isOn_eq hon), fun w' hw' => hy.go a w' hF hw'⟩) (hH.sel is hs) ?_
  have := h.go (a.put o.dst v) w (by rw [hd]; exact hF.put v hN) hH
  simpa using this⟩

theorem wd_skip (is : List Nat) (hi : l[i]? = some o) (hoff : isOff l L o = true)
    (hd : o.dst = some d) (hN : Nat.blt d N = true) (hk : tkT l F T bs i = true) (hs : selL H is = some Hs)
    (hQ : ∀ c a w, Q (.panic c) (a.put (some d) undef) w → Q (.panic c) a w)
    (h : WD P l Q F T w0 M Hs fuel (bs.set i true) N ((d, undef) :: L) H) : WD P l Q F T w0 M Hs (fuel + 1) bs N L H := ⟨fun a w hF hH => by
  unfold tkT at hk
  simp only [Bool.and_eq_true] at hk
  obtain ⟨hn, hf, hr⟩ := tkB_ok hk.1
  refine wpT_first (oi := o) (v := undef) (by simpa using hk.2.1) hk.2.2.1 (by simpa using hi) (Region.noSelect_spec hn) (by rw [hd]; exact hQ) fuel _ _ _ (dcB_ok hk.2.2.2)
    (Region.free_spec (by simpa using hi) hf) (by simpa using hr) (.inr ⟨gwd_wanted hF (isOff_eq hoff), rfl⟩) (hH.sel is hs) ?_
  have := h.go (a.put o.dst undef) w (by rw [hd]; exact hF.put undef hN) hH
  simpa using this⟩

theorem wd_split {j e : Nat} {b x : Bool} (i : Nat) (_hi : l[i]? = some o) (_hg : o.guard = some (j, b)) (hx : gx l L j = some (e, x))
    (h1 : x = true → WD P l Q F T w0 M Hs fuel bs N ((e, .bool true) :: (e + 100000, .bool true) :: L) H) (h2 : x = false → WD P l Q F T w0 M Hs fuel bs N ((e, .bool false) :: (e + 100000, .bool false) :: L) H) :
    WD P l Q F T w0 M Hs fuel bs N L H := ⟨fun a w hF hH => by
  cases hb : x with
  | true => exact (h1 hb).go a w (hF.set_bool (gx_get hx).1 hb) hH
  | false => exact (h2 hb).go a w (hF.set_bool (gx_get hx).1 hb) hH⟩

/-- Whichever may come up comes up. -/
theorem wd_all (rs : List Nat) (hr : Region.ready .any l.toArray bs.toArray = rs) (hne : rs ≠ [])
    (h : ∀ i ∈ rs, ∃ o, l[i]? = some o ∧ isOn l L o = true ∧ OW P o Q (WC P l Q F T w0 M Hs fuel (bs.set i true) i) N L w0 M H) : WD P l Q F T w0 M Hs (fuel + 1) bs N L H := ⟨fun a w hF hH => by
  refine ⟨fun h0 => absurd (hr ▸ h0) hne, fun i hi => ?_⟩
  rw [hr] at hi
  obtain ⟨o, ho, hon, hw⟩ := h i hi
  unfold wpOp
  have hi' : l.toArray[i]? = some o := by simpa using ho
  simp only [hi']
  rw [if_pos (gwd_wanted hF (isOn_eq hon))]
  refine .inl (Oper.wp_mono (fun _ _ k => ?_) (hw.go a w hF hH))
  have := k.go
  simpa using this⟩

theorem wd_one (i : Nat) (hi : l[i]? = some o) (hon : isOn l L o = true) (hr : Region.ready .any l.toArray bs.toArray = [i])
    (h : OW P o Q (WC P l Q F T w0 M Hs fuel (bs.set i true) i) N L w0 M H) : WD P l Q F T w0 M Hs (fuel + 1) bs N L H :=
  wd_all [i] hr (by simp) (fun k hk => by simp only [List.mem_singleton] at hk; subst hk; exact ⟨o, hi, hon, h⟩)

/-- A guarded operation that is not wanted comes up alone. -/
theorem wd_off (i : Nat) (hi : l[i]? = some o) (hoff : isOff l L o = true) (hd : o.dst = none) (hr : Region.ready .any l.toArray bs.toArray = [i]) (is : List Nat) (hs : T.contains i = false → selL H is = some Hs)
    (h : WD P l Q F T w0 M Hs fuel (bs.set i true) N L H) : WD P l Q F T w0 M Hs (fuel + 1) bs N L H := ⟨fun a w hF hH => by
  refine ⟨fun h0 => absurd (hr ▸ h0) (by simp), fun k hk => ?_⟩
  rw [hr] at hk
  simp only [List.mem_singleton] at hk
  subst hk
  unfold wpOp
  have hi' : l.toArray[k]? = some o := by simpa using hi
  simp only [hi']
  rw [if_neg (by rw [gwd_wanted hF (isOff_eq hoff)]; simp), hd]
  refine ⟨fun hc => hH.sel is (hs hc), ?_⟩
  have := h.go a w hF hH
  simpa [Act.put] using this⟩

theorem wd_offD (i : Nat) (hi : l[i]? = some o) (hoff : isOff l L o = true) (hd : o.dst = some d) (hN : Nat.blt d N = true) (hr : Region.ready .any l.toArray bs.toArray = [i]) (is : List Nat) (hs : T.contains i = false → selL H is = some Hs)
    (h : WD P l Q F T w0 M Hs fuel (bs.set i true) N ((d, undef) :: L) H) : WD P l Q F T w0 M Hs (fuel + 1) bs N L H := ⟨fun a w hF hH => by
  refine ⟨fun h0 => absurd (hr ▸ h0) (by simp), fun k hk => ?_⟩
  rw [hr] at hk
  simp only [List.mem_singleton] at hk
  subst hk
  unfold wpOp
  have hi' : l.toArray[k]? = some o := by simpa using hi
  simp only [hi']
  rw [if_neg (by rw [gwd_wanted hF (isOff_eq hoff)]; simp), hd]
  refine ⟨fun hc => hH.sel is (hs hc), ?_⟩
  have := h.go (a.put (some d) undef) w (hF.put undef hN) hH
  simpa using this⟩

theorem kk_wd (is : List Nat) (hs : selL H is = some Hs) (h : WD P l Q F T w0 M Hs fuel bs N L H) : KK (WC P l Q F T w0 M Hs fuel bs i) N L w0 M H :=
  ⟨fun a w hF hH => ⟨fun _ => hH.sel is hs, h.go a w hF hH⟩⟩
theorem kk_wdT (ht : T.contains i = true) (h : WD P l Q F T w0 M Hs fuel bs N L H) : KK (WC P l Q F T w0 M Hs fuel bs i) N L w0 M H :=
  ⟨fun a w hF hH => ⟨fun h0 => absurd (ht.symm.trans h0) (by simp), h.go a w hF hH⟩⟩

theorem wd_done (hr : Region.ready .any l.toArray bs.toArray = []) (h : EX Q .normal N L w0 M H) : WD P l Q F T w0 M Hs fuel bs N L H := by
  refine ⟨fun a w hF hH => ?_⟩
  cases fuel with
  | zero => exact ⟨hr, h.go a w hF hH⟩
  | succ n => exact ⟨fun _ => h.go a w hF hH, by rw [hr]; simp⟩
end

end Go.Proofs.YtacecnffggffmaaDoor
