/- A small program logic over the kit's weakest preconditions: a state is a list of known slots, a base world, and a list of owned pieces of memory. Nothing here speaks of a program. -/
import Derived.WalkKit
import Derived.WalkSpells
import Derived.WalkLawsBesides
import Derived.OrdersHeld
import Derived.Deep.LoopGhost
import Derived.ProofKit
set_option linter.all false
namespace Go.Proofs.YtacecnffggffmaaDoor
open Go.RowKit

/-! ## Slots -/

abbrev SL := List (Nat × Value)

def sget : SL → Nat → Option Value
  | [], _ => none
  | (i, v) :: L, n => bif Nat.beq i n then some v else sget L n

structure Fr (a : Act) (N : Nat) (L : SL) : Prop where
  dfr : a.defers = []
  size : a.tmps.size = N
  get : ∀ n v, Nat.blt n 100000 = true → sget L n = some v → a.tmps.getD n undef = v

theorem sget_cons_self (d : Nat) (v : Value) (L : SL) : sget ((d, v) :: L) d = some v := by simp [sget]

theorem sget_cons_ne {d n : Nat} (v : Value) (L : SL) (h : d ≠ n) : sget ((d, v) :: L) n = sget L n := by
  have : Nat.beq d n = false := by
    cases e : Nat.beq d n with
    | false => rfl
    | true => exact absurd (Nat.eq_of_beq_eq_true e) h
  simp [sget, this]

theorem Fr.put {a : Act} {N : Nat} {L : SL} (h : Fr a N L) {d : Nat} (v : Value) (hd : Nat.blt d N = true) : Fr (a.put (some d) v) N ((d, v) :: L) := by
  have hd' : d < N := by simpa [Nat.blt_eq] using hd
  refine ⟨h.dfr, by simp [Act.put, h.size], ?_⟩
  intro n u hb hn
  by_cases e : d = n
  · subst e
    rw [sget_cons_self] at hn
    injection hn with hn
    subst hn
    simp [Act.put, h.size, hd']
  · rw [sget_cons_ne v L e] at hn
    have := h.get n u hb hn
    simpa [Act.put, Array.getElem?_setIfInBounds_ne e] using this

def ev (L : SL) : Operand → Option Value
  | .tmp t => bif Nat.blt t 100000 then sget L t else none
  | .const v => some v
  | .global g => some (.pointer (some ⟨g, 0, none⟩))
  | .func f => some (.func (.func f) #[] #[])

theorem Fr.ev {a : Act} {N : Nat} {L : SL} (h : Fr a N L) {x : Operand} {v : Value} (hx : ev L x = some v) : a.eval x = v := by
  cases x with
  | tmp t =>
    have hx : (bif Nat.blt t 100000 then sget L t else none) = some v := hx
    cases e : Nat.blt t 100000 with
    | true => rw [e] at hx; exact h.get t v e hx
    | false => rw [e] at hx; cases hx
  | const c => injection hx
  | global g => injection hx
  | func f => injection hx

def evs (L : SL) : List Operand → Option (List Value)
  | [] => some []
  | x :: xs =>
    match ev L x, evs L xs with
    | some v, some vs => some (v :: vs)
    | _, _ => none

theorem Fr.evs {a : Act} {N : Nat} {L : SL} (h : Fr a N L) : ∀ {xs : List Operand} {vs : List Value}, evs L xs = some vs → xs.map a.eval = vs
  | [], vs, hx => by simp [Go.Proofs.YtacecnffggffmaaDoor.evs] at hx; subst hx; rfl
  | x :: xs, vs, hx => by
    unfold Go.Proofs.YtacecnffggffmaaDoor.evs at hx
    split at hx
    · rename_i v us hv hus
      injection hx with hx
      subst hx
      rw [List.map_cons, h.ev hv, h.evs hus]
    · cases hx

/-- Every slot of the first list is known, so, in the second. -/
def sub : SL → SL → Prop
  | [], _ => True
  | (n, v) :: L', L => sget L n = some v ∧ sub L' L

theorem sub_get : ∀ {L' L : SL}, sub L' L → ∀ n v, sget L' n = some v → sget L n = some v
  | [], _, _, _, _, h => by simp [sget] at h
  | (i, u) :: L', L, hs, n, v, h => by
    by_cases e : i = n
    · subst e
      rw [sget_cons_self] at h
      injection h with h
      subst h
      exact hs.1
    · rw [sget_cons_ne u L' e] at h
      exact sub_get hs.2 n v h

theorem Fr.sub {a : Act} {N : Nat} {L L' : SL} (h : Fr a N L) (hs : sub L' L) : Fr a N L' :=
  ⟨h.dfr, h.size, fun n v hb hn => h.get n v hb (sub_get hs n v hn)⟩

/-! ## Worlds -/

/-- All blocks of w but those in M are in w' as they were. -/
structure ExtM (M : List Nat) (w w' : World) : Prop where
  os : w'.os = w.os
  tape : w'.tape = w.tape
  output : w'.output = w.output
  size : w.heap.size ≤ w'.heap.size
  block : ∀ b, b < w.heap.size → b ∉ M → w'.heap[b]? = w.heap[b]?

theorem ExtM.refl (M : List Nat) (w : World) : ExtM M w w := ⟨rfl, rfl, rfl, Nat.le_refl _, fun _ _ _ => rfl⟩

theorem ExtM.trans {M M' : List Nat} {a b c : World} (h : ExtM M a b) (k : ExtM M' b c) (hM : ∀ x ∈ M', x ∈ M ∨ a.heap.size ≤ x) : ExtM M a c :=
  ⟨k.os.trans h.os, k.tape.trans h.tape, k.output.trans h.output, Nat.le_trans h.size k.size, fun x hx hn =>
    (k.block x (Nat.lt_of_lt_of_le hx h.size) (fun hm => (hM x hm).elim hn (fun h1 => absurd hx (Nat.not_lt.2 h1)))).trans (h.block x hx hn)⟩

theorem ExtM.trans0 {M : List Nat} {a b c : World} (h : ExtM M a b) (k : ExtM [] b c) : ExtM M a c := h.trans k (by simp)

theorem ExtM.mono {M M' : List Nat} {a b : World} (h : ExtM M a b) (hM : ∀ x ∈ M, x ∈ M') : ExtM M' a b :=
  ⟨h.os, h.tape, h.output, h.size, fun x hx hn => h.block x hx fun hm => hn (hM x hm)⟩

theorem ExtM.drew {M : List Nat} {a b : World} (h : ExtM M a b) : ExtM M a b.drew := ⟨h.os, h.tape, h.output, h.size, h.block⟩

theorem ExtM.drewN (M : List Nat) (w : World) : ExtM M w w.drew := (ExtM.refl M w).drew

theorem ExtM.alloc (w : World) (o : Obj) : ExtM [] w (w.alloc o) :=
  ⟨rfl, rfl, rfl, by simp, fun b hb _ => Below.heap_alloc w o b hb⟩

theorem ExtM.of_below {w w' : World} (h : Below w.heap.size w w') : ExtM [] w w' := ⟨h.os, h.tape, h.output, h.size, fun b hb _ => h.block b hb⟩

theorem ExtM.below {w w' : World} (h : ExtM [] w w') : Below w.heap.size w w' := ⟨h.os, h.tape, h.output, h.size, fun b hb => h.block b hb (by simp)⟩

theorem ExtM.cell {M : List Nat} {w w' : World} (h : ExtM M w w') {a : Addr} {v : Value} (hc : w.cell? a = some v) (hn : a.block ∉ M) : w'.cell? a = some v :=
  (World.cell?_of_block (h.block a.block (World.block_lt_of_cell? w a hc) hn)).trans hc

/-- An owned piece of memory: a predicate that hangs on its blocks alone. -/
structure Ch where
  A : World → Prop
  F : List Nat
  stb : ∀ w w', (∀ b ∈ F, w'.heap[b]? = w.heap[b]?) → A w → A w'
  lt : ∀ w, A w → ∀ b ∈ F, b < w.heap.size

def ff (H : List Ch) : List Nat := H.flatMap Ch.F

theorem ff_cons (c : Ch) (H : List Ch) : ff (c :: H) = c.F ++ ff H := by simp [ff]
theorem ff_nil : ff [] = [] := rfl
theorem ff_append (C H : List Ch) : ff (C ++ H) = ff C ++ ff H := by simp [ff]
theorem mem_ff {H : List Ch} {b : Nat} : b ∈ ff H ↔ ∃ c ∈ H, b ∈ c.F := by simp [ff]

structure Hp (w0 : World) (M : List Nat) (H : List Ch) (w : World) : Prop where
  ext : ExtM M w0 w
  own : ∀ c ∈ H, c.A w
  nd : (ff H).Nodup
  ge : ∀ b ∈ ff H, b ∈ M ∨ w0.heap.size ≤ b

section
variable {w0 w w' : World} {M : List Nat} {H : List Ch}

theorem Hp.refl (w : World) (M : List Nat) : Hp w M [] w := ⟨ExtM.refl _ _, by simp, by simp [ff], by simp [ff]⟩

theorem Hp.lt (h : Hp w0 M H w) : ∀ b ∈ ff H, b < w.heap.size := by
  intro b hb
  obtain ⟨c, hc, hb⟩ := mem_ff.1 hb
  exact c.lt w (h.own c hc) b hb

theorem Hp.step (h : Hp w0 M H w) (e : ExtM [] w w') : Hp w0 M H w' :=
  ⟨h.ext.trans0 e, fun c hc => c.stb w w' (fun b hb => e.block b (c.lt w (h.own c hc) b hb) (by simp)) (h.own c hc), h.nd, h.ge⟩

/-- New pieces: their blocks are new. -/
structure NewC (w w' : World) (C : List Ch) : Prop where
  own : ∀ c ∈ C, c.A w'
  nd : (ff C).Nodup
  ge : ∀ b ∈ ff C, w.heap.size ≤ b

theorem NewC.nil (w w' : World) : NewC w w' [] := ⟨by simp, by simp [ff], by simp [ff]⟩

theorem Hp.new {C : List Ch} (h : Hp w0 M H w) (e : ExtM [] w w') (n : NewC w w' C) : Hp w0 M (C ++ H) w' := by
  have h1 := h.step e
  refine ⟨h1.ext, fun c hc => ?_, ?_, ?_⟩
  · rcases List.mem_append.1 hc with hc | hc
    · exact n.own c hc
    · exact h1.own c hc
  · rw [ff_append]
    refine List.nodup_append.2 ⟨n.nd, h.nd, ?_⟩
    intro a ha b hb e
    subst e
    have := n.ge a ha
    have := h.lt a hb
    omega
  · intro b hb
    rw [ff_append] at hb
    rcases List.mem_append.1 hb with hb | hb
    · exact .inr (Nat.le_trans h.ext.size (n.ge b hb))
    · exact h.ge b hb

/-- Pieces C are written (their blocks and new ones alone turn); what stands then is C'. -/
theorem Hp.mod {C C' : List Ch} (h : Hp w0 M (C ++ H) w) (e : ExtM (ff C) w w') (ho : ∀ c ∈ C', c.A w') (hn : (ff C').Nodup)
    (hg : ∀ b ∈ ff C', b ∈ ff C ∨ w.heap.size ≤ b) : Hp w0 M (C' ++ H) w' := by
  have hnd := h.nd
  rw [ff_append] at hnd
  have hdis : ∀ b ∈ ff H, b ∉ ff C := fun b hb hc => (List.nodup_append.1 hnd).2.2 b hc b hb rfl
  have hlt := h.lt
  rw [ff_append] at hlt
  refine ⟨h.ext.trans e (fun x hx => h.ge x (by rw [ff_append]; exact List.mem_append.2 (.inl hx))), fun c hc => ?_, ?_, ?_⟩
  · rcases List.mem_append.1 hc with hc | hc
    · exact ho c hc
    · have hA := h.own c (List.mem_append.2 (.inr hc))
      exact c.stb w w' (fun b hb => e.block b (c.lt w hA b hb) (hdis b (mem_ff.2 ⟨c, hc, hb⟩))) hA
  · rw [ff_append]
    refine List.nodup_append.2 ⟨hn, (List.nodup_append.1 hnd).2.1, ?_⟩
    intro a ha b hb e'
    subst e'
    rcases hg a ha with h1 | h1
    · exact hdis a hb h1
    · have := hlt a (List.mem_append.2 (.inr hb))
      omega
  · intro b hb
    rw [ff_append] at hb
    rcases List.mem_append.1 hb with hb | hb
    · rcases hg b hb with h1 | h1
      · exact h.ge b (by rw [ff_append]; exact List.mem_append.2 (.inl h1))
      · exact .inr (Nat.le_trans h.ext.size h1)
    · exact h.ge b (by rw [ff_append]; exact List.mem_append.2 (.inr hb))

theorem ff_perm {H H' : List Ch} (p : H.Perm H') : (ff H).Perm (ff H') := p.flatMap_right _

theorem Hp.perm {H' : List Ch} (h : Hp w0 M H w) (p : H.Perm H') : Hp w0 M H' w :=
  ⟨h.ext, fun c hc => h.own c (p.mem_iff.2 hc), (ff_perm p).nodup_iff.1 h.nd, fun b hb => h.ge b ((ff_perm p).mem_iff.2 hb)⟩

theorem ff_subl {H H' : List Ch} (p : H'.Sublist H) : (ff H').Sublist (ff H) := by
  induction p with
  | slnil => exact List.Sublist.refl _
  | cons c _ ih => rw [ff_cons]; exact ih.trans (List.sublist_append_right _ _)
  | cons_cons c _ ih => rw [ff_cons, ff_cons]; exact (List.Sublist.refl _).append ih

theorem Hp.subl {H' : List Ch} (h : Hp w0 M H w) (p : H'.Sublist H) : Hp w0 M H' w :=
  ⟨h.ext, fun c hc => h.own c (p.subset hc), h.nd.sublist (ff_subl p), fun b hb => h.ge b ((ff_subl p).subset hb)⟩

theorem front_perm {H : List Ch} : ∀ {i : Nat} {c : Ch}, H[i]? = some c → H.Perm (c :: H.eraseIdx i) := by
  induction H with
  | nil => intro i c h; simp at h
  | cons x H ih =>
    intro i c h
    cases i with
    | zero => simp at h; subst h; exact List.Perm.refl _
    | succ i =>
      simp only [List.getElem?_cons_succ] at h
      exact ((ih h).cons x).trans (List.Perm.swap _ _ _)

/-- The i-th piece and the others. -/
theorem Hp.front {i : Nat} {c : Ch} (h : Hp w0 M H w) (hi : H[i]? = some c) : Hp w0 M (c :: H.eraseIdx i) w := by
  exact h.perm (front_perm hi)

theorem Hp.at {i : Nat} {c : Ch} (h : Hp w0 M H w) (hi : H[i]? = some c) : c.A w := h.own c (List.mem_of_getElem? hi)
end

/-! ## The judgements -/

section
variable (P : Program)

/-- From every state of this form the continuation holds. -/
structure KK (K : Act → World → Prop) (N : Nat) (L : SL) (w0 : World) (M : List Nat) (H : List Ch) : Prop where
  go : ∀ a w, Fr a N L → Hp w0 M H w → K a w

structure EX (Q : Exit → Act → World → Prop) (e : Exit) (N : Nat) (L : SL) (w0 : World) (M : List Nat) (H : List Ch) : Prop where
  go : ∀ a w, Fr a N L → Hp w0 M H w → Q e a w

structure CW (c : Code) (Q : Exit → Act → World → Prop) (N : Nat) (L : SL) (w0 : World) (M : List Nat) (H : List Ch) : Prop where
  go : ∀ a w, Fr a N L → Hp w0 M H w → c.wp P Q a w

structure WL (ops : Array Oper) (Q : Exit → Act → World → Prop) (l : List Oper) (N : Nat) (L : SL) (w0 : World) (M : List Nat) (H : List Ch) : Prop where
  go : ∀ a w, Fr a N L → Hp w0 M H w → wpList P ops Q l a w

structure OW (o : Oper) (Q : Exit → Act → World → Prop) (K : Act → World → Prop) (N : Nat) (L : SL) (w0 : World) (M : List Nat) (H : List Ch) : Prop where
  go : ∀ a w, Fr a N L → Hp w0 M H w → o.wp P a w K Q

/-- The operation only reads, and gives v. -/
structure YH (o : Oper) (v : Value) (N : Nat) (L : SL) (w0 : World) (M : List Nat) (H : List Ch) : Prop where
  go : ∀ a w, Fr a N L → Hp w0 M H w → (execOp a.eval o).run P w = .ok (.value v) w
end

/-- The operation only reads, and C holds of what it gives. -/
structure YG (P : Program) (o : Oper) (N : Nat) (L : SL) (w0 : World) (M : List Nat) (H : List Ch) (C : Value → Prop) : Prop where
  go : ∃ v, YH P o v N L w0 M H ∧ C v

/-- Operations that only read. -/
def floaty : Op → Bool
  | .move _ | .assign _ | .pick .. | .binOp .. | .unOp .. | .load .. | .fieldAddr .. | .indexAddr .. | .index .. | .extract .. | .slice .. | .makeFunc .. | .nilCheck _ | .lookup .. | .field .. | .build .. | .convert .. => true
  | .call { callee := .builtin .len, .. } => true
  | _ => false

section
variable {P : Program} {Q : Exit → Act → World → Prop} {N : Nat} {L : SL} {w0 : World} {M : List Nat} {H : List Ch}

theorem yg {o : Oper} {v : Value} {C : Value → Prop} (hy : YH P o v N L w0 M H) (h : C v) : YG P o N L w0 M H C := ⟨v, hy, h⟩

/-! ### Code -/

theorem cw_seq {x y : Code} (h : CW P x (Exit.then (y.wp P Q) Q) N L w0 M H) : CW P (.seq x y) Q N L w0 M H :=
  .mk fun a w hF hH => wp_seq (h.go a w hF hH)

theorem cw_skip (h : EX Q .normal N L w0 M H) : CW P .skip Q N L w0 M H := .mk fun a w hF hH => wp_skip (h.go a w hF hH)
theorem cw_ret (h : EX Q .ret N L w0 M H) : CW P .ret Q N L w0 M H := .mk fun a w hF hH => wp_ret (h.go a w hF hH)
theorem cw_exit {id : Nat} (h : EX Q (.exit id) N L w0 M H) : CW P (.exit id) Q N L w0 M H := .mk fun a w hF hH => wp_exit (h.go a w hF hH)
theorem cw_block {id : Nat} {c : Code} (h : CW P c (Exit.inBlock id Q) N L w0 M H) : CW P (.block id c) Q N L w0 M H :=
  .mk fun a w hF hH => wp_block (h.go a w hF hH)
theorem cw_region {id : Nat} {l : List Oper} (h : WL P l.toArray Q l N L w0 M H) : CW P (.region id l.toArray false) Q N L w0 M H :=
  .mk fun a w hF hH => wp_region_lit (h.go a w hF hH)
theorem cw_true {c : Operand} {x y : Code} (hc : ev L c = some (.bool true)) (h : CW P x Q N L w0 M H) : CW P (.cond c x y) Q N L w0 M H :=
  .mk fun a w hF hH => wp_cond_true (hF.ev hc) (h.go a w hF hH)
theorem cw_false {c : Operand} {x y : Code} (hc : ev L c = some (.bool false)) (h : CW P y Q N L w0 M H) : CW P (.cond c x y) Q N L w0 M H :=
  .mk fun a w hF hH => wp_cond_false (hF.ev hc) (h.go a w hF hH)
theorem cw_split {c : Operand} {x y : Code} {t : Bool} (hc : ev L c = some (.bool t)) (h1 : t = true → CW P x Q N L w0 M H) (h2 : t = false → CW P y Q N L w0 M H) :
    CW P (.cond c x y) Q N L w0 M H :=
  .mk fun a w hF hH => wp_cond_split (hF.ev hc) (fun e => (h1 e).go a w hF hH) (fun e => (h2 e).go a w hF hH)

/-- Fewer slots and pieces. -/
theorem cw_weak {c : Code} (L' : SL) (H' : List Ch) (hs : sub L' L) (hh : H'.Sublist H) (h : CW P c Q N L' w0 M H') : CW P c Q N L w0 M H :=
  .mk fun a w hF hH => h.go a w (hF.sub hs) (hH.subl hh)

theorem cw_perm {c : Code} (H' : List Ch) (hh : H.Perm H') (h : CW P c Q N L w0 M H') : CW P c Q N L w0 M H :=
  .mk fun a w hF hH => h.go a w hF (hH.perm hh)

/-- What is known of every world of this state. -/
theorem cw_know {c : Code} (R : Prop) (hr : ∀ w, Hp w0 M H w → R) (h : R → CW P c Q N L w0 M H) : CW P c Q N L w0 M H :=
  .mk fun a w hF hH => (h (hr w hH)).go a w hF hH

/-! ### Exits -/

theorem ex_seq {y : Code} (h : CW P y Q N L w0 M H) : EX (Exit.then (y.wp P Q) Q) .normal N L w0 M H := .mk h.go
theorem ex_then_ret {K : Act → World → Prop} (h : EX Q .ret N L w0 M H) : EX (Exit.then K Q) .ret N L w0 M H := .mk h.go
theorem ex_then_exit {K : Act → World → Prop} {id : Nat} (h : EX Q (.exit id) N L w0 M H) : EX (Exit.then K Q) (.exit id) N L w0 M H := .mk h.go
theorem ex_block_normal {id : Nat} (h : EX Q .normal N L w0 M H) : EX (Exit.inBlock id Q) .normal N L w0 M H := .mk h.go
theorem ex_block_ret {id : Nat} (h : EX Q .ret N L w0 M H) : EX (Exit.inBlock id Q) .ret N L w0 M H := .mk h.go
theorem ex_block_exit {id : Nat} (h : EX Q .normal N L w0 M H) : EX (Exit.inBlock id Q) (.exit id) N L w0 M H := .mk fun a w hF hH => by
  show (if id = id then _ else _)
  rw [if_pos rfl]
  exact h.go a w hF hH
theorem ex_block_other {id id' : Nat} (hne : Nat.beq id' id = false) (h : EX Q (.exit id') N L w0 M H) : EX (Exit.inBlock id Q) (.exit id') N L w0 M H := .mk fun a w hF hH => by
  show (if id' = id then _ else _)
  rw [if_neg (fun e => by subst e; simp at hne)]
  exact h.go a w hF hH

/-! ### Loops -/

/-- What a round hands on. -/
def LoopK {σ : Type} (N : Nat) (w0 : World) (M : List Nat) (I : σ → Prop) (Lf : σ → SL) (Hf : σ → List Ch) (m : σ → Nat) (s : σ) (a : Act) (w : World) : Prop :=
  ∃ s', m s' < m s ∧ I s' ∧ Fr a N (Lf s') ∧ Hp w0 M (Hf s') w

theorem cw_loop {σ : Type} {c : Code} (I : σ → Prop) (Lf : σ → SL) (Hf : σ → List Ch) (m : σ → Nat) (s0 : σ)
    (h0 : I s0) (hs : sub (Lf s0) L) (hh : (Hf s0).Sublist H)
    (round : ∀ s, I s → CW P c (Exit.then (LoopK N w0 M I Lf Hf m s) Q) N (Lf s) w0 M (Hf s)) : CW P (.loop c) Q N L w0 M H := by
  refine ⟨fun a w hF hH => ?_⟩
  refine wp_loop_ghost (fun n a w => ∃ s, m s = n ∧ I s ∧ Fr a N (Lf s) ∧ Hp w0 M (Hf s) w) (m s0) ⟨s0, rfl, h0, hF.sub hs, hH.subl hh⟩ ?_
  rintro n a w ⟨s, rfl, hI, hF, hH⟩
  refine wp_mono ((round s hI).go a w hF hH) ?_
  intro e a' w' hq
  cases e with
  | normal =>
    obtain ⟨s', hlt, hI', hF', hH'⟩ := hq
    exact ⟨m s', hlt, s', rfl, hI', hF', hH'⟩
  | exit id => exact hq
  | goto l => exact hq
  | ret => exact hq
  | panic ch => exact hq
  | outgrown => exact hq

theorem ex_loop {σ : Type} {I : σ → Prop} {Lf : σ → SL} {Hf : σ → List Ch} {m : σ → Nat} {s : σ} (s' : σ) (hm : m s' < m s) (hI : I s')
    (hs : sub (Lf s') L) (hh : (Hf s').Sublist H) : EX (Exit.then (LoopK N w0 M I Lf Hf m s) Q) .normal N L w0 M H :=
  .mk fun _ _ hF hH => ⟨s', hm, hI, hF.sub hs, hH.subl hh⟩

/-! ### Lists of operations -/

/-- Is the guard's operation's yield as wanted? (none: not known; a slot whose bool has been decided bears a mark, at its number and 100000) -/
def gw (ops : List Oper) (L : SL) (j : Nat) (b : Bool) : Option Bool :=
  match ops[j]? with
  | none => none
  | some o =>
    match o.dst with
    | none => none
    | some d =>
      match ev L (.tmp d) with
      | some (.bool x) =>
        match sget L (d + 100000) with
        | none => none
        | some _ =>
          match x, b with
          | true, true => some true
          | false, false => some true
          | true, false => some false
          | false, true => some false
      | some (.tuple _) => some false
      | _ => none

def gx (ops : List Oper) (L : SL) (j : Nat) : Option (Nat × Bool) :=
  match ops[j]? with
  | none => none
  | some o =>
    match o.dst with
    | none => none
    | some d =>
      match ev L (.tmp d) with
      | some (.bool x) => bif Nat.blt d 100000 then some (d, x) else none
      | _ => none

theorem getD_of {a : Act} {d : Nat} {v : Value} (h : a.tmps.getD d undef = v) (hne : v ≠ undef) : a.tmps[d]? = some v := by
  rw [Array.getD_eq_getD_getElem?] at h
  cases hq : a.tmps[d]? with
  | none => rw [hq] at h; exact absurd h.symm hne
  | some u => rw [hq] at h; simp at h; rw [h]

theorem gw_wanted {ops : List Oper} {a : Act} {o : Oper} {j : Nat} {b r : Bool} (hF : Fr a N L) (hg : o.guard = some (j, b)) (hw : gw ops L j b = some r) :
    Region.wanted o (yielded ops.toArray a.tmps) = r := by
  unfold gw at hw
  unfold Region.wanted yielded
  rw [hg]
  cases ho : ops[j]? with
  | none => rw [ho] at hw; cases hw
  | some oj =>
    rw [ho] at hw
    simp only [] at hw
    cases hd : oj.dst with
    | none => rw [hd] at hw; cases hw
    | some d =>
      rw [hd] at hw
      simp only [] at hw
      cases hs : ev L (.tmp d) with
      | none => rw [hs] at hw; cases hw
      | some v =>
        rw [hs] at hw
        have hv : a.tmps.getD d undef = v := hF.ev hs
        cases v with
        | bool x =>
          have h2 := getD_of hv (by simp [undef])
          simp only [] at hw
          cases hmk : sget L (d + 100000) with
          | none => rw [hmk] at hw; cases hw
          | some _ =>
          rw [hmk] at hw
          simp only [List.getElem?_toArray, ho, Option.bind_some, hd, h2]
          cases x <;> cases b <;> simp at hw <;> simp [hw]
        | tuple vs =>
          simp only [] at hw
          injection hw with hw
          subst hw
          simp only [List.getElem?_toArray, ho, Option.bind_some, hd]
          cases hq : a.tmps[d]? with
          | none => simp
          | some u =>
            rw [Array.getD_eq_getD_getElem?, hq] at hv
            simp at hv
            subst hv
            simp
        | _ => simp at hw

section
variable {ops : List Oper} {rest : List Oper} {o : Oper}

theorem wl_nil (h : EX Q .normal N L w0 M H) : WL P ops.toArray Q [] N L w0 M H := .mk fun a w hF hH => wpList_nil (h.go a w hF hH)

theorem wl_u (hg : o.guard = none) (h : OW P o Q (wpList P ops.toArray Q rest) N L w0 M H) : WL P ops.toArray Q (o :: rest) N L w0 M H :=
  .mk fun a w hF hH => wpList_step fun K hK => by
    simp only [Region.wanted, hg, if_true]
    exact Oper.wp_mono (fun a w h => hK a w h) (h.go a w hF hH)

theorem wl_g {j : Nat} {b : Bool} (hg : o.guard = some (j, b)) (hw : gw ops L j b = some true) (h : OW P o Q (wpList P ops.toArray Q rest) N L w0 M H) : WL P ops.toArray Q (o :: rest) N L w0 M H :=
  .mk fun a w hF hH => wpList_step fun K hK => by
    rw [if_pos (gw_wanted hF hg hw)]
    exact Oper.wp_mono (fun a w h => hK a w h) (h.go a w hF hH)

theorem wl_n {j : Nat} {b : Bool} {d : Nat} (hg : o.guard = some (j, b)) (hw : gw ops L j b = some false) (hd : o.dst = some d) (hN : Nat.blt d N = true)
    (h : WL P ops.toArray Q rest N ((d, undef) :: L) w0 M H) : WL P ops.toArray Q (o :: rest) N L w0 M H :=
  .mk fun a w hF hH => wpList_step fun K hK => by
    rw [if_neg (by rw [gw_wanted hF hg hw]; simp)]
    refine hK _ _ (h.go _ w ?_ hH)
    rw [hd]
    exact hF.put undef hN

theorem wl_n0 {j : Nat} {b : Bool} (hg : o.guard = some (j, b)) (hw : gw ops L j b = some false) (hd : o.dst = none)
    (h : WL P ops.toArray Q rest N L w0 M H) : WL P ops.toArray Q (o :: rest) N L w0 M H :=
  .mk fun a w hF hH => wpList_step fun K hK => by
    rw [if_neg (by rw [gw_wanted hF hg hw]; simp)]
    refine hK _ _ (h.go _ w ?_ hH)
    rw [hd]
    exact hF

theorem gx_get {j d : Nat} {x : Bool} (hx : gx ops L j = some (d, x)) : ev L (.tmp d) = some (.bool x) ∧ Nat.blt d 100000 = true := by
  unfold gx at hx
  cases ho : ops[j]? with
  | none => rw [ho] at hx; cases hx
  | some oj =>
    rw [ho] at hx
    simp only [] at hx
    cases hd : oj.dst with
    | none => rw [hd] at hx; cases hx
    | some e =>
      rw [hd] at hx
      simp only [] at hx
      cases hs : ev L (.tmp e) with
      | none => rw [hs] at hx; cases hx
      | some v =>
        rw [hs] at hx
        cases v with
        | bool y =>
          cases hb : Nat.blt e 100000 with
          | false => simp [hb] at hx
          | true =>
            simp only [hb, cond_true, Option.some.injEq, Prod.mk.injEq] at hx
            obtain ⟨rfl, rfl⟩ := hx
            exact ⟨hs, hb⟩
        | _ => simp at hx

theorem Fr.set_bool {a : Act} {d : Nat} {x b : Bool} (hF : Fr a N L) (hs : Go.Proofs.YtacecnffggffmaaDoor.ev L (.tmp d) = some (.bool x)) (hx : x = b) : Fr a N ((d, .bool b) :: (d + 100000, .bool b) :: L) := by
  subst hx
  refine ⟨hF.dfr, hF.size, fun n v hb hn => ?_⟩
  by_cases e : d = n
  · subst e
    rw [sget_cons_self] at hn
    injection hn with hn
    subst hn
    exact hF.ev hs
  · rw [sget_cons_ne _ _ e] at hn
    have e2 : d + 100000 ≠ n := fun h => by
      have : n < 100000 := by simpa [Nat.blt_eq] using hb
      omega
    rw [sget_cons_ne _ _ e2] at hn
    exact hF.get n v hb hn

theorem wl_s {j d : Nat} {b x : Bool} (_hg : o.guard = some (j, b)) (hx : gx ops L j = some (d, x))
    (h1 : x = true → WL P ops.toArray Q (o :: rest) N ((d, .bool true) :: (d + 100000, .bool true) :: L) w0 M H) (h2 : x = false → WL P ops.toArray Q (o :: rest) N ((d, .bool false) :: (d + 100000, .bool false) :: L) w0 M H) :
    WL P ops.toArray Q (o :: rest) N L w0 M H := .mk fun a w hF hH => by
  cases hb : x with
  | true => exact (h1 hb).go a w (hF.set_bool (gx_get hx).1 hb) hH
  | false => exact (h2 hb).go a w (hF.set_bool (gx_get hx).1 hb) hH
end

/-! ### Operations -/

section
variable {o : Oper} {K : Act → World → Prop} {d : Nat} {v : Value}

theorem ow_y (hy : YH P o v N L w0 M H) (hd : o.dst = some d) (hN : Nat.blt d N = true) (h : KK K N ((d, v) :: L) w0 M H) : OW P o Q K N L w0 M H :=
  .mk fun a w hF hH => by
    unfold Oper.wp
    rw [hy.go a w hF hH]
    show K (a.put o.dst v) w
    rw [hd]
    exact h.go _ w (hF.put v hN) hH

theorem ow_f (_hf : floaty o.op = true) (hd : o.dst = some d) (hN : Nat.blt d N = true) (h : YG P o N L w0 M H (fun v => KK K N ((d, v) :: L) w0 M H)) : OW P o Q K N L w0 M H := by
  obtain ⟨v, hy, hk⟩ := h.go
  exact ow_y hy hd hN hk

theorem yh_move {x : Operand} (ho : o.op = .move x) (hx : ev L x = some v) : YH P o v N L w0 M H := .mk fun a w hF _ => by
  simp [execOp, ho, hF.ev hx]
theorem yh_assign {x : Operand} (ho : o.op = .assign x) (hx : ev L x = some v) : YH P o v N L w0 M H := .mk fun a w hF _ => by
  simp [execOp, ho, hF.ev hx]
theorem yh_pickT {c x y : Operand} (ho : o.op = .pick c x y) (hc : ev L c = some (.bool true)) (hx : ev L x = some v) : YH P o v N L w0 M H := .mk fun a w hF _ => by
  simp [execOp, ho, hF.ev hc, hF.ev hx, asBool]
theorem yh_pickF {c x y : Operand} (ho : o.op = .pick c x y) (hc : ev L c = some (.bool false)) (hx : ev L y = some v) : YH P o v N L w0 M H := .mk fun a w hF _ => by
  simp [execOp, ho, hF.ev hc, hF.ev hx, asBool]

theorem beq_int (m n : Int) : (m == n) = decide (m = n) := by
  rw [Bool.eq_iff_iff]; simp

/-- Comparisons of integers, closed to evaluation. -/
@[irreducible] def eqb (a b : Int) : Bool := decide (a = b)
@[irreducible] def ltb (a b : Int) : Bool := decide (a < b)
@[irreducible] def leb (a b : Int) : Bool := decide (a ≤ b)
theorem eqb_true {a b : Int} : eqb a b = true ↔ a = b := by unfold eqb; simp
theorem eqb_false {a b : Int} : eqb a b = false ↔ a ≠ b := by unfold eqb; simp
theorem ltb_true {a b : Int} : ltb a b = true ↔ a < b := by unfold ltb; simp
theorem ltb_false {a b : Int} : ltb a b = false ↔ b ≤ a := by unfold ltb; simp
theorem leb_true {a b : Int} : leb a b = true ↔ a ≤ b := by unfold leb; simp
theorem leb_false {a b : Int} : leb a b = false ↔ b < a := by unfold leb; simp
theorem eqb_dec (a b : Int) : eqb a b = decide (a = b) := by unfold eqb; rfl
theorem ltb_dec (a b : Int) : ltb a b = decide (a < b) := by unfold ltb; rfl
theorem leb_dec (a b : Int) : leb a b = decide (a ≤ b) := by unfold leb; rfl

def cmpI : BinOp → Int → Int → Option Bool
  | .eql, a, b => some (eqb a b)
  | .neq, a, b => some (!eqb a b)
  | .lss, a, b => some (ltb a b)
  | .leq, a, b => some (leb a b)
  | .gtr, a, b => some (ltb b a)
  | .geq, a, b => some (leb b a)
  | _, _, _ => none

theorem yh_cmpI {op : BinOp} {t u : TypeId} {x y : Operand} {k : IntKind} {m n : Int} {r : Bool} (ho : o.op = .binOp op t x y u) (hx : ev L x = some (.int k m)) (hy : ev L y = some (.int k n))
    (hr : cmpI op m n = some r) : YH P o (.bool r) N L w0 M H := .mk fun a w hF _ => by
  cases op <;> simp only [cmpI, Option.some.injEq, reduceCtorEq] at hr <;> subst hr <;>
    simp [execOp, ho, hF.ev hx, hF.ev hy, eqGuard_at_int, binOp_eql, binOp_neq, binOp_lss, binOp_leq, binOp_gtr, binOp_geq, bne, beq_int, eqb_dec, ltb_dec, leb_dec]

/-- Sums, differences and products that fit. -/
def arI : BinOp → Int → Int → Option Int
  | .add, a, b => some (a + b)
  | .sub, a, b => some (a - b)
  | .mul, a, b => some (a * b)
  | _, _, _ => none

theorem yh_arI {op : BinOp} {t u : TypeId} {x y : Operand} {m n r : Int} (ho : o.op = .binOp op t x y u) (hx : ev L x = some (.int .i64 m)) (hy : ev L y = some (.int .i64 n))
    (hr : arI op m n = some r) (hfit : -9223372036854775808 ≤ r ∧ r ≤ 9223372036854775807) : YH P o (.int .i64 r) N L w0 M H := .mk fun a w hF _ => by
  have hw := IntWalk.i64_in r hfit
  cases op <;> simp only [arI, Option.some.injEq, reduceCtorEq] at hr <;> subst hr <;>
    simp [execOp, ho, hF.ev hx, hF.ev hy, eqGuard_at_int, binOp_add, binOp_sub, binOp_mul, Op.intArith, hw]

@[irreducible] def seq (s r : ByteArray) : Bool := s.toList == r.toList
@[irreducible] def slt (s r : ByteArray) : Bool := Op.bytesLess s.toList r.toList

def cmpS : BinOp → ByteArray → ByteArray → Option Bool
  | .eql, a, b => some (seq a b)
  | .neq, a, b => some (!seq a b)
  | .lss, a, b => some (slt a b)
  | .leq, a, b => some (slt a b || seq a b)
  | .gtr, a, b => some (!(slt a b || seq a b))
  | .geq, a, b => some (!slt a b)
  | _, _, _ => none

theorem yh_cmpS {op : BinOp} {t u : TypeId} {x y : Operand} {m n : ByteArray} {r : Bool} (ho : o.op = .binOp op t x y u) (hx : ev L x = some (.string m)) (hy : ev L y = some (.string n))
    (hr : cmpS op m n = some r) : YH P o (.bool r) N L w0 M H := .mk fun a w hF _ => by
  cases op <;> simp only [cmpS, Option.some.injEq, reduceCtorEq] at hr <;> subst hr <;>
    simp [execOp, ho, hF.ev hx, hF.ev hy, eqGuard_at_string, binOp, Op.stringOp, seq, slt]

theorem yh_not {t : TypeId} {x : Operand} {b : Bool} (ho : o.op = .unOp .not t x) (hx : ev L x = some (.bool b)) : YH P o (.bool !b) N L w0 M H := .mk fun a w hF _ => by
  simp [execOp, ho, hF.ev hx, Op.unary]

theorem yh_extract {x : Operand} {i : Nat} {vs : Array Value} (ho : o.op = .extract x i) (hx : ev L x = some (.tuple vs)) (hv : vs[i]? = some v) : YH P o v N L w0 M H := .mk fun a w hF _ => by
  simp [execOp, ho, hF.ev hx, Instr.extract, hv]
end
end

end Go.Proofs.YtacecnffggffmaaDoor
