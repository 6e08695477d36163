/- More rules: regions that draw their order, literals of slices, append, stores into owned rows, a map used as a set. -/
import Derived.Test.YtacecnffggffmaaDoorMem
set_option linter.all false
namespace Go.Proofs.YtacecnffggffmaaDoor
open Go.RowKit

/-! ## A region that draws its order -/

structure WA (P : Program) (l : List Oper) (Q : Exit → Act → World → Prop) (fuel : Nat) (bs : List Bool) (ps : List Nat) (N : Nat) (L : SL) (w0 : World) (M : List Nat) (H Hs : List Ch) : Prop where
  go : Hs.Sublist H → ∀ a w, Fr a N L → Hp w0 M H w → wpAnyH P .any l.toArray Q (fun w => Hp w0 M Hs w) fuel bs.toArray a w

def gwd (l : List Oper) (L : SL) (o : Oper) : Option Bool :=
  match o.guard with
  | none => some true
  | some (j, b) => gw l L j b

def isOn (l : List Oper) (L : SL) (o : Oper) : Bool := match gwd l L o with | some true => true | _ => false
def isOff (l : List Oper) (L : SL) (o : Oper) : Bool := match gwd l L o with | some false => true | _ => false
/-- May operation i be taken first? -/
def tkB (l : List Oper) (bs : List Bool) (i : Nat) : Bool :=
  Region.noSelect l.toArray && (Region.free .any l.toArray bs.toArray i && (Region.ready .any l.toArray bs.toArray).contains i)

theorem tkB_ok {l : List Oper} {bs : List Bool} {i : Nat} (h : tkB l bs i = true) :
    Region.noSelect l.toArray = true ∧ Region.free .any l.toArray bs.toArray i = true ∧ (Region.ready .any l.toArray bs.toArray).contains i = true := by
  unfold tkB at h
  simp only [Bool.and_eq_true] at h
  exact ⟨h.1, h.2.1, h.2.2⟩

section
variable {P : Program} {Q : Exit → Act → World → Prop} {N : Nat} {L : SL} {w0 : World} {M : List Nat} {H Hs : List Ch} {l : List Oper} {bs : List Bool} {ps : List Nat} {fuel i d : Nat} {o : Oper} {v : Value}

theorem cw_draw {id : Nat} (Hs : List Ch) (ps : List Nat) (hm : P.follows .mixedOrders = true) (hsub : Hs.Sublist H)
    (h : WA P l Q l.length (List.replicate l.length false) ps N L w0 M H Hs) : CW P (.region id l.toArray true) Q N L w0 M H := ⟨fun a w hF hH =>
  wp_region_held (S := fun w => Hp w0 M Hs w) hm (by
    have := h.go hsub a _ hF (hH.step (ExtM.drewN [] w))
    simpa using this)⟩

theorem cw_drawH (id : Nat) (ps : List Nat) (hm : P.follows .mixedOrders = true)
    (h : WA P l Q l.length (List.replicate l.length false) ps N L w0 M H H) : CW P (.region id l.toArray true) Q N L w0 M H := cw_draw H ps hm (List.Sublist.refl _) h

theorem id_wa (h : WA P l Q fuel bs ps N L w0 M H Hs) : WA P l Q fuel bs ps N L w0 M H Hs := h
theorem id_cw {c : Code} (h : CW P c Q N L w0 M H) : CW P c Q N L w0 M H := h
theorem id_wl {ops : Array Oper} (h : WL P ops Q l N L w0 M H) : WL P ops Q l N L w0 M H := h
theorem id_ow {K : Act → World → Prop} (h : OW P o Q K N L w0 M H) : OW P o Q K N L w0 M H := h
theorem id_ex {e : Exit} (h : EX Q e N L w0 M H) : EX Q e N L w0 M H := h
theorem id_kk {K : Act → World → Prop} (h : KK K N L w0 M H) : KK K N L w0 M H := h

theorem gwd_wanted {a : Act} {o : Oper} {r : Bool} (hF : Fr a N L) (hw : gwd l L o = some r) : Region.wanted o (yielded l.toArray a.tmps) = r := by
  unfold gwd at hw
  cases hg : o.guard with
  | none =>
    rw [hg] at hw
    injection hw with hw
    subst hw
    simp [Region.wanted, hg]
  | some g =>
    obtain ⟨j, b⟩ := g
    rw [hg] at hw
    exact gw_wanted hF hg hw

theorem isOn_eq {o : Oper} (h : isOn l L o = true) : gwd l L o = some true := by
  unfold isOn at h
  split at h
  · assumption
  · cases h
theorem isOff_eq {o : Oper} (h : isOff l L o = true) : gwd l L o = some false := by
  unfold isOff at h
  split at h
  · assumption
  · cases h

theorem wa_take (hi : l[i]? = some o) (_hf : floaty o.op = true) (hon : isOn l L o = true)
    (hd : o.dst = some d) (hN : Nat.blt d N = true) (hk : tkB l bs i = true)
    (hQ : ∀ c a w v, Q (.panic c) (a.put (some d) v) w → Q (.panic c) a w)
    (h : YG P o N L w0 M Hs (fun v => WA P l Q fuel (bs.set i true) ps N ((d, v) :: L) w0 M H Hs)) : WA P l Q (fuel + 1) bs (i :: ps) N L w0 M H Hs := ⟨fun hsub a w hF hH => by
  obtain ⟨v, hy, h⟩ := h.go
  obtain ⟨hn, hf, hr⟩ := tkB_ok hk
  refine wpAnyH_take (oi := o) (v := v) (by simpa using hi) hn hf hr (by rw [hd]; exact fun c a w => hQ c a w v) (.inl ⟨gwd_wanted hF (isOn_eq hon), fun w' hw' => hy.go a w' hF hw'⟩) (hH.subl hsub) ?_
  have := h.go hsub (a.put o.dst v) w (by rw [hd]; exact hF.put v hN) hH
  simpa using this⟩

theorem wa_skip (hi : l[i]? = some o) (hoff : isOff l L o = true)
    (hd : o.dst = some d) (hN : Nat.blt d N = true) (hk : tkB l bs i = true)
    (hQ : ∀ c a w, Q (.panic c) (a.put (some d) undef) w → Q (.panic c) a w)
    (h : WA P l Q fuel (bs.set i true) ps N ((d, undef) :: L) w0 M H Hs) : WA P l Q (fuel + 1) bs (i :: ps) N L w0 M H Hs := ⟨fun hsub a w hF hH => by
  obtain ⟨hn, hf, hr⟩ := tkB_ok hk
  refine wpAnyH_take (oi := o) (v := undef) (by simpa using hi) hn hf hr (by rw [hd]; exact hQ) (.inr ⟨gwd_wanted hF (isOff_eq hoff), rfl⟩) (hH.subl hsub) ?_
  have := h.go hsub (a.put o.dst undef) w (by rw [hd]; exact hF.put undef hN) hH
  simpa using this⟩

theorem wa_split {j e : Nat} {b x : Bool} (_hi : l[i]? = some o) (_hg : o.guard = some (j, b)) (hx : gx l L j = some (e, x))
    (h1 : x = true → WA P l Q fuel bs (i :: ps) N ((e, .bool true) :: (e + 100000, .bool true) :: L) w0 M H Hs) (h2 : x = false → WA P l Q fuel bs (i :: ps) N ((e, .bool false) :: (e + 100000, .bool false) :: L) w0 M H Hs) :
    WA P l Q fuel bs (i :: ps) N L w0 M H Hs := ⟨fun hsub a w hF hH => by
  cases hb : x with
  | true => exact (h1 hb).go hsub a w (hF.set_bool (gx_get hx).1 hb) hH
  | false => exact (h2 hb).go hsub a w (hF.set_bool (gx_get hx).1 hb) hH⟩

theorem wa_call (hi : l[i]? = some o) (hon : isOn l L o = true)
    (hr : Region.ready .any l.toArray bs.toArray = [i])
    (h : OW P o Q (fun a' w' => Hp w0 M Hs w' ∧ wpAnyH P .any l.toArray Q (fun w => Hp w0 M Hs w) fuel (bs.set i true).toArray a' w') N L w0 M H)
    (ps' : List Nat) (_hp : ps = ps') : WA P l Q (fuel + 1) bs (i :: ps) N L w0 M H Hs := ⟨fun hsub a w hF hH => by
  refine wpAnyH_all hr (by simp) ?_
  intro k hk
  simp only [List.mem_singleton] at hk
  subst hk
  unfold wpOp
  have hi' : l.toArray[k]? = some o := by simpa using hi
  simp only [hi']
  rw [if_pos (gwd_wanted hF (isOn_eq hon))]
  refine .inl ?_
  simpa using h.go a w hF hH⟩

/-- What stands behind a call in such a region. -/
structure WK (P : Program) (l : List Oper) (Q : Exit → Act → World → Prop) (fuel : Nat) (bs : List Bool) (ps : List Nat) (w0 : World) (M : List Nat) (Hs : List Ch) (a : Act) (w : World) : Prop where
  go : Hp w0 M Hs w ∧ wpAnyH P .any l.toArray Q (fun w => Hp w0 M Hs w) fuel bs.toArray a w

theorem wa_callK (hi : l[i]? = some o) (_hf : floaty o.op = false) (hon : isOn l L o = true)
    (hr : Region.ready .any l.toArray bs.toArray = [i])
    (h : OW P o Q (WK P l Q fuel (bs.set i true) ps w0 M Hs) N L w0 M H) : WA P l Q (fuel + 1) bs (i :: ps) N L w0 M H Hs :=
  wa_call hi hon hr ⟨fun a w hF hH => Oper.wp_mono (fun _ _ k => k.go) (h.go a w hF hH)⟩ ps rfl

theorem kk_wa (hsub : Hs.Sublist H) (h : WA P l Q fuel bs ps N L w0 M H Hs) : KK (WK P l Q fuel bs ps w0 M Hs) N L w0 M H :=
  ⟨fun a w hF hH => ⟨hH.subl hsub, h.go hsub a w hF hH⟩⟩

theorem wa_done (hr : Region.ready .any l.toArray bs.toArray = []) (h : EX Q .normal N L w0 M H) : WA P l Q fuel bs [] N L w0 M H Hs :=
  ⟨fun _ a w hF hH => wpAnyH_done hr (h.go a w hF hH) fuel⟩
end

/-! ## Changing what is said of a piece -/

section
variable {P : Program} {Q : Exit → Act → World → Prop} {N : Nat} {L : SL} {w0 : World} {M : List Nat} {H Hs : List Ch} {K : Act → World → Prop}

theorem Hp.chg {w : World} {i : Nat} {c c' : Ch} (h : Hp w0 M H w) (hi : H[i]? = some c) (hc : c.A w → c'.A w) (hF : c'.F = c.F) : Hp w0 M (c' :: H.eraseIdx i) w := by
  have h1 := h.front hi
  refine ⟨h1.ext, fun x hx => ?_, ?_, ?_⟩
  · rcases List.mem_cons.1 hx with rfl | hx
    · exact hc (h.at hi)
    · exact h1.own x (List.mem_cons_of_mem _ hx)
  · have := h1.nd
    rw [ff_cons] at this ⊢
    rwa [hF]
  · have := h1.ge
    rw [ff_cons] at this ⊢
    rwa [hF]

theorem kk_chg (i : Nat) {c c' : Ch} (hi : H[i]? = some c) (hc : ∀ w, c.A w → c'.A w) (hF : c'.F = c.F) (h : KK K N L w0 M (c' :: H.eraseIdx i)) : KK K N L w0 M H :=
  ⟨fun a w hf hH => h.go a w hf (hH.chg hi (hc w) hF)⟩
theorem cw_chg {c : Code} (i : Nat) {k k' : Ch} (hi : H[i]? = some k) (hc : ∀ w, k.A w → k'.A w) (hF : k'.F = k.F) (h : CW P c Q N L w0 M (k' :: H.eraseIdx i)) : CW P c Q N L w0 M H :=
  ⟨fun a w hf hH => h.go a w hf (hH.chg hi (hc w) hF)⟩

theorem Hp.cons0 {w : World} {c : Ch} (h : Hp w0 M H w) (hF : c.F = []) (hA : c.A w) : Hp w0 M (c :: H) w := by
  refine ⟨h.ext, fun x hx => ?_, ?_, ?_⟩
  · rcases List.mem_cons.1 hx with rfl | hx
    · exact hA
    · exact h.own x hx
  · rw [ff_cons, hF]; exact h.nd
  · rw [ff_cons, hF]; exact h.ge

theorem ow_nil {α : Type} (e : TypeId) (A : Lay α) (w : World) : (sl e A).ow w [] [.slice none 0 0] [] :=
  ⟨.slice none 0 0, [], [], rfl, World.ownsRow_nil w 0 e A.size, ⟨rfl, rfl⟩, by simp [Value.ownBlock]⟩

/-- The nil slice is owned. -/
theorem cw_nil {α : Type} {c : Code} (e : TypeId) (A : Lay α) (h : CW P c Q N L w0 M (owC (sl e A) [] [.slice none 0 0] [] :: H)) : CW P c Q N L w0 M H :=
  ⟨fun a w hf hH => h.go a w hf (hH.cons0 rfl (ow_nil e A w))⟩

theorem cw_weakL {c : Code} (L' : SL) (hs : sub L' L) (h : CW P c Q N L' w0 M H) : CW P c Q N L w0 M H :=
  ⟨fun a w hF hH => h.go a w (hF.sub hs) hH⟩

theorem kk_know (R : Prop) (hr : ∀ w, Hp w0 M H w → R) (h : R → KK K N L w0 M H) : KK K N L w0 M H :=
  ⟨fun a w hF hH => (h (hr w hH)).go a w hF hH⟩
theorem ow_know {o : Oper} (R : Prop) (hr : ∀ w, Hp w0 M H w → R) (h : R → OW P o Q K N L w0 M H) : OW P o Q K N L w0 M H :=
  ⟨fun a w hF hH => (h (hr w hH)).go a w hF hH⟩
end

/-! ## Literals of slices -/

theorem foldl_set : ∀ (vs : List Value) (off j : Nat) (cs : Array Value), (∀ k, k < vs.length → off + (j + k) < cs.size) →
    ((vs.zipIdx j).foldl (fun cs (p : Value × Nat) => cs.setIfInBounds (off + p.2) p.1) cs).toList = cs.toList.take (off + j) ++ vs ++ cs.toList.drop (off + j + vs.length)
  | [], off, j, cs, _ => by simp
  | v :: vs, off, j, cs, h => by
    have h0 := h 0 (by simp)
    rw [List.zipIdx_cons, List.foldl_cons, foldl_set vs off (j + 1) _ (fun k hk => by have := h (k + 1) (by simp; omega); simp; omega)]
    simp only [Array.toList_setIfInBounds]
    have hlt : off + j < cs.toList.length := by simpa using h0
    rw [show off + (j + 1) = off + j + 1 by omega, List.take_succ_eq_append_getElem (by simpa using hlt)]
    rw [List.take_set_of_le (by omega), List.getElem_set_self]
    rw [List.drop_set_of_lt (by omega)]
    simp only [List.append_assoc, List.cons_append, List.nil_append, List.length_cons]
    rw [show off + j + 1 + vs.length = off + j + (vs.length + 1) by omega]

theorem fill_all (s : Nat) : ∀ (vs : List Value) (k : Nat) (is : List Nat) (cells : Array Value), is = (List.range' k vs.length) → (∀ v ∈ vs, v.cells.size = s) → cells.size = (k + vs.length) * s →
    Instr.fill (fun i => some (i * s, s)) cells (is.zip vs) = some (cells.toList.take (k * s) ++ vs.flatMap (fun v => v.cells.toList)).toArray
  | [], k, is, cells, hi, _, hc => by
    subst hi
    simp only [List.length_nil, Nat.add_zero] at hc
    simp only [List.range'_zero, List.zip_nil_right, Instr.fill, List.flatMap_nil, List.append_nil]
    rw [List.take_of_length_le (by simp [hc])]
  | v :: vs, k, is, cells, hi, hv, hc => by
    subst hi
    have h1 : v.cells.size = s := hv v (by simp)
    simp only [List.length_cons, List.range'_succ, List.zip_cons_cons, Instr.fill, h1]
    have hle : k * s + s ≤ cells.size := by rw [hc, List.length_cons, Nat.add_mul, Nat.add_mul]; omega
    have hno : ¬ (k * s + s > cells.size) := by omega
    simp only [ne_eq, not_true, decide_false, Bool.false_or, decide_eq_true_eq, hno, if_false]
    have hfold := foldl_set v.cells.toList (k * s) 0 cells (fun j hj => by simp at hj; omega)
    have harr : v.cells.zipIdx.foldl (fun cs (p : Value × Nat) => cs.setIfInBounds (k * s + p.2) p.1) cells = (cells.toList.take (k * s) ++ v.cells.toList ++ cells.toList.drop (k * s + v.cells.toList.length)).toArray := by
      apply Array.ext'
      rw [← Array.foldl_toList]
      simpa using hfold
    rw [show (fun (cs : Array Value) (x : Value × Nat) => match x with | (c, j) => cs.setIfInBounds (k * s + j) c) = (fun cs (p : Value × Nat) => cs.setIfInBounds (k * s + p.2) p.1) from rfl, harr]
    have hl : v.cells.toList.length = s := by simpa using h1
    rw [fill_all s vs (k + 1) _ _ rfl (fun x hx => hv x (by simp [hx])) (by
      simp only [List.size_toArray, List.length_append, List.length_take, List.length_drop, Array.length_toList, hl, hc, List.length_cons]
      simp only [Nat.add_mul]
      omega)]
    rw [if_neg (by simp)]
    congr 2
    have hk : (cells.toList.take (k * s)).length = k * s := by simp; omega
    rw [show (k + 1) * s = (cells.toList.take (k * s) ++ v.cells.toList).length by rw [List.length_append, hk, hl, Nat.add_mul]; omega]
    show List.take (List.take (k * s) cells.toList ++ v.cells.toList).length ((List.take (k * s) cells.toList ++ v.cells.toList) ++ List.drop (k * s + v.cells.toList.length) cells.toList) ++ _ = _
    rw [List.take_left, List.flatMap_cons, List.append_assoc]

section
variable {P : Program} (T : Tab P) {Q : Exit → Act → World → Prop} {N : Nat} {L : SL} {w0 : World} {M : List Nat} {H : List Ch} {o : Oper} {K : Act → World → Prop} {d : Nat} {v : Value}

theorem ow_lit {t e n s by_ : Nat} {z : Value} {parts : Array (Nat × Operand)} {vs cs : List Value} (ho : o.op = .buildSlice t n parts) (hu : T.sle t = some e) (hin : T.inf e = some (z, s, by_))
    (hp : parts.toList.map (·.1) = List.range n) (hx : evs L (parts.toList.map (·.2)) = some vs) (hs : vs.all (fun v => Nat.beq v.cells.size s) = true) (hz : z.cells.size = s) (hbig : n * s ≤ 16777216)
    (hcs : vs.flatMap (fun v => v.cells.toList) = cs) (hd : o.dst = some d) (hN : Nat.blt d N = true)
    (h : ∀ g, KK K N ((d, .slice (some ⟨g, 0, none⟩) n n) :: L) w0 M (blkC g e cs :: H)) : OW P o Q K N L w0 M H := .mk fun a w hF hH => by
  obtain ⟨ti, h1, h2, h3, _⟩ := T.info hin
  have hmap := hF.evs hx
  have hlen : vs.length = n := by
    have e1 := congrArg List.length hp
    have e2 := congrArg List.length hmap
    simp at e1 e2
    omega
  have hparts : (parts.map fun (p : Nat × Operand) => (p.1, a.eval p.2)).toList = (List.range' 0 vs.length).zip vs := by
    rw [Array.toList_map, hlen, ← List.range_eq_range', ← hp, ← hmap]
    generalize parts.toList = l
    induction l with
    | nil => rfl
    | cons x l ih => simp [ih]
  have hfill := fill_all s vs 0 _ ((Array.range (n * s)).map (z.cells[· % z.cells.size]!)) rfl (fun x hx => Nat.eq_of_beq_eq_true ((List.all_eq_true.1 hs) x hx)) (by simp [hlen])
  simp only [Nat.zero_mul, List.take_zero, List.nil_append, hcs] at hfill
  have hr : (execOp a.eval o).run P w = .ok (.value (.slice (some ⟨w.heap.size, 0, none⟩) n n)) (w.alloc (.cells cs.toArray e)) := by
    have hbig' : ¬ (n * s > 16777216) := by omega
    have hmapE : (parts.map fun (x : Nat × Operand) => match x with | (i, x) => (i, a.eval x)) = (parts.map fun (p : Nat × Operand) => (p.1, a.eval p.2)) := rfl
    rw [← hparts, Array.toList_map] at hfill
    have hm0 : ∀ f : Nat → Value, Array.map f (Array.range 0) = #[] := fun f => by simp
    by_cases h0 : n * s = 0
    · have hcells : Array.map (fun x => z.cells[x % z.cells.size]!) (Array.range (n * s)) = #[] := by rw [h0]; simp
      rw [hcells] at hfill
      simp [execOp, ho, Instr.buildSlice, run_underlying (T.sle_ok hu), sizeOf, typeInfo, h1, h3, h0, hm0, hfill, newRow]
    · simp [execOp, ho, Instr.buildSlice, run_underlying (T.sle_ok hu), sizeOf, zeroValue, typeInfo, h1, h2, h3, h0, hbig', hfill, newRow]
  unfold Oper.wp
  rw [hr]
  show K (a.put o.dst _) _
  rw [hd]
  exact (h w.heap.size).go _ _ (hF.put _ hN) (hH.alloc e cs)
end

section
variable {α : Type} {n : Nat} {enc : α → List Value} {hl : ∀ x, (enc x).length = n} {h1 : ∀ x, ∀ u ∈ enc x, u.oneCell' = true}

theorem owL_plain (w : World) : ∀ l : List α, owL (plain n enc hl h1) w (l.map fun _ => []) (l.flatMap enc) l
  | [] => ⟨rfl, rfl⟩
  | x :: l => ⟨[], _, enc x, _, rfl, by simp, ⟨rfl, rfl⟩, owL_plain w l⟩

theorem flatten_nils (l : List α) : (l.map fun _ => ([] : List Nat)).flatten = [] := by
  induction l with
  | nil => rfl
  | cons x l ih => simpa using ih

/-- A block of plain elements reads as a slice. -/
theorem rd_blkP {e : TypeId} {g : Nat} {t : TypeId} {cs : List Value} {w : World} (l : List α) (h : (blkC g t cs).A w) (hcs : cs = l.flatMap enc) (hm : l.length ≤ maxLen) :
    (sl e (plain n enc hl h1)).rd w [] [.slice (some ⟨g, 0, none⟩) l.length l.length] l := by
  refine ⟨_, _, rfl, Nat.le_refl _, hm, fun _ => ⟨g, 0, rfl, by simp, (blkC g t cs).lt w h g (by simp [blkC]), fun k x hx => ?_⟩⟩
  obtain ⟨F, es, _, ho, hc⟩ := owL_get (owL_plain (hl := hl) (h1 := h1) w l) hx
  refine ⟨es, fun j u hj => ?_, ho.2⟩
  have h2 := hc j u hj
  rw [← hcs] at h2
  rw [blk_cell h, Nat.zero_add]
  exact h2

/-- A block of plain elements is owned as a slice. -/
theorem own_blkP {e : TypeId} {g : Nat} {cs : List Value} {w : World} (l : List α) (h : (blkC g e cs).A w) (hcs : cs = l.flatMap enc) (hm : l.length ≤ maxLen) :
    (sl e (plain n enc hl h1)).ow w [g] [.slice (some ⟨g, 0, none⟩) l.length l.length] l := by
  have hlen := (owL_len (owL_plain (hl := hl) (h1 := h1) w l)).1
  refine ⟨_, cs, _, rfl, ⟨by rw [hcs]; exact hlen, .inr ⟨g, l.length, cs.toArray, rfl, Nat.zero_le _, h, Nat.le_refl _, hm, ?_, ?_⟩⟩, by rw [hcs]; exact owL_plain w l, by rw [flatten_nils]; rfl⟩
  · rw [List.size_toArray, hcs]; exact hlen
  · rw [List.take_of_length_le]
    rw [hcs]; exact Nat.le_of_eq hlen
end

/-! ## The rules in the forms that the walk uses: nothing is left to be reckoned -/

section
variable {P : Program} (T : Tab P) {Q : Exit → Act → World → Prop} {N : Nat} {L : SL} {w0 : World} {M : List Nat} {H : List Ch} {o : Oper} {K : Act → World → Prop} {d : Nat} {v : Value}

theorem cells_one (h : v.oneCell' = true) : v.cells.toList = [v] := by cases v <;> simp_all [Value.oneCell', Value.cells]

theorem ow_boxA {t : TypeId} {x : Operand} {vs : List Value} (ho : o.op = .box t x) (hx : ev L x = some (.agg vs.toArray)) (hd : o.dst = some d) (hN : Nat.blt d N = true)
    (h : ∀ g, KK K N ((d, .pointer (some ⟨g, 0, none⟩)) :: L) w0 M (blkC g t vs :: H)) : OW P o Q K N L w0 M H :=
  ow_box ho hx hd hN (fun g => by simpa [Value.cells] using h g)
theorem ow_box1 {t : TypeId} {x : Operand} (ho : o.op = .box t x) (hx : ev L x = some v) (h1 : v.oneCell' = true) (hd : o.dst = some d) (hN : Nat.blt d N = true)
    (h : ∀ g, KK K N ((d, .pointer (some ⟨g, 0, none⟩)) :: L) w0 M (blkC g t [v] :: H)) : OW P o Q K N L w0 M H :=
  ow_box ho hx hd hN (fun g => by rw [cells_one h1]; exact h g)
theorem ow_allocA {t : TypeId} {zs : List Value} {s by_ : Nat} (ho : o.op = .alloc t) (hin : T.inf t = some (.agg zs.toArray, s, by_)) (hd : o.dst = some d) (hN : Nat.blt d N = true)
    (h : ∀ g, KK K N ((d, .pointer (some ⟨g, 0, none⟩)) :: L) w0 M (blkC g t zs :: H)) : OW P o Q K N L w0 M H :=
  ow_alloc T ho hin hd hN (fun g => by simpa [Value.cells] using h g)
theorem ow_alloc1 {t : TypeId} {z : Value} {s by_ : Nat} (ho : o.op = .alloc t) (hin : T.inf t = some (z, s, by_)) (h1 : z.oneCell' = true) (hd : o.dst = some d) (hN : Nat.blt d N = true)
    (h : ∀ g, KK K N ((d, .pointer (some ⟨g, 0, none⟩)) :: L) w0 M (blkC g t [z] :: H)) : OW P o Q K N L w0 M H :=
  ow_alloc T ho hin hd hN (fun g => by rw [cells_one h1]; exact h g)

theorem put_all {cs vs : List Value} (h : vs.length = cs.length) : put cs vs 0 = vs := by
  simp [put, h]

/-- A whole struct into its block. -/
theorem ow_storeA {t e : TypeId} {x y : Operand} {g n k by_ : Nat} {z : Value} {cs vs : List Value} (ho : o.op = .store t x y) (hx : ev L x = some (.pointer (some ⟨g, 0, none⟩))) (hy : ev L y = some (.agg vs.toArray))
    (hin : T.inf t = some (z, n, by_)) (hi : H[k]? = some (blkC g e cs)) (hn : vs.length = n) (hc : cs.length = n) (h1 : vs.all (·.oneCell') = true) (hd : o.dst = none)
    (h : KK K N L w0 M (blkC g e vs :: H.eraseIdx k)) : OW P o Q K N L w0 M H :=
  ow_store T ho hx hy hin hi (by simpa [Value.cells] using hn) (by omega) (by simpa [Value.cells] using h1) (by simpa [Value.cells] using put_all (hn.trans hc.symm)) hd h

/-- One cell. -/
theorem ow_store1 {t e : TypeId} {x y : Operand} {g i k by_ : Nat} {z : Value} {cs cs' : List Value} (ho : o.op = .store t x y) (hx : ev L x = some (.pointer (some ⟨g, i, none⟩))) (hy : ev L y = some v)
    (hin : T.inf t = some (z, 1, by_)) (hi : H[k]? = some (blkC g e cs)) (h1 : v.oneCell' = true) (hfit : Nat.blt i cs.length = true) (hc : cs.set i v = cs') (hd : o.dst = none)
    (h : KK K N L w0 M (blkC g e cs' :: H.eraseIdx k)) : OW P o Q K N L w0 M H :=
  ow_store T ho hx hy hin hi (by rw [cells_one h1]; rfl) (by have : i < cs.length := by simpa [Nat.blt_eq] using hfit
                                                             omega) (by rw [cells_one h1]; simp [h1]) (by
    have hlt : i < cs.length := by simpa [Nat.blt_eq] using hfit
    rw [cells_one h1, ← hc, put, List.set_eq_take_append_cons_drop, if_pos hlt]
    simp) hd h

theorem yh_loadBA {t e : TypeId} {x : Operand} {b k n by_ : Nat} {cs : List Value} {z : Value} (ho : o.op = .load t x) (hx : ev L x = some (.pointer (some ⟨b, 0, none⟩))) (hg : T.agg t = some true)
    (hin : T.inf t = some (z, n, by_)) (hi : H[k]? = some (blkC b e cs)) (hn : cs.length = n) : YH P o (.agg cs.toArray) N L w0 M H :=
  yh_loadBN T ho hx hg hin hi (by rw [List.drop_zero, List.take_of_length_le (by omega)]) hn

theorem ow_litA {t e s by_ : Nat} {z : Value} {y : Operand} {es : List Value} (ho : o.op = .buildSlice t 1 #[(0, y)]) (hu : T.sle t = some e) (hin : T.inf e = some (z, s, by_)) (hy : ev L y = some (.agg es.toArray))
    (hs : es.length = s) (hz : z.cells.size = s) (hbig : s ≤ 16777216) (hd : o.dst = some d) (hN : Nat.blt d N = true)
    (h : ∀ g, KK K N ((d, .slice (some ⟨g, 0, none⟩) 1 1) :: L) w0 M (blkC g e es :: H)) : OW P o Q K N L w0 M H :=
  ow_lit T (vs := [.agg es.toArray]) ho hu hin rfl (by simp [evs, hy]) (by simp [Value.cells, hs]) hz (by omega) (by simp [Value.cells]) hd hN h

theorem ow_lit1 {t e n by_ : Nat} {z : Value} {parts : List (Nat × Operand)} {vs : List Value} (ho : o.op = .buildSlice t n parts.toArray) (hu : T.sle t = some e) (hin : T.inf e = some (z, 1, by_))
    (hp : parts.map (·.1) = List.range n) (hx : evs L (parts.map (·.2)) = some vs) (h1 : vs.all (·.oneCell') = true) (hz : z.cells.size = 1) (hbig : Nat.ble n 1000 = true) (hd : o.dst = some d) (hN : Nat.blt d N = true)
    (h : ∀ g, KK K N ((d, .slice (some ⟨g, 0, none⟩) n n) :: L) w0 M (blkC g e vs :: H)) : OW P o Q K N L w0 M H := by
  have hall : ∀ v ∈ vs, v.cells.toList = [v] := fun v hv => cells_one ((List.all_eq_true.1 h1) v hv)
  refine ow_lit T (vs := vs) (cs := vs) ho hu hin hp hx (List.all_eq_true.2 fun v hv => ?_) hz (by have := Nat.le_of_ble_eq_true hbig; omega) ?_ hd hN h
  · have : v.cells.size = 1 := by rw [← Array.length_toList, hall v hv]; rfl
    rw [this]; rfl
  · clear hx h1 h
    induction vs with
    | nil => rfl
    | cons v vs ih =>
      rw [List.flatMap_cons, hall v (by simp), ih (fun u hu => hall u (by simp [hu]))]
      rfl

/-- An empty literal. -/
theorem ow_lit0 {t e s by_ : Nat} {z : Value} (ho : o.op = .buildSlice t 0 #[]) (hu : T.sle t = some e) (hin : T.inf e = some (z, s, by_)) (hz : z.cells.size = s) (hd : o.dst = some d) (hN : Nat.blt d N = true)
    (h : ∀ g, KK K N ((d, .slice (some ⟨g, 0, none⟩) 0 0) :: L) w0 M (blkC g e [] :: H)) : OW P o Q K N L w0 M H :=
  ow_lit T (vs := []) ho hu hin rfl rfl rfl hz (by omega) rfl hd hN h

/-- A call of a named function. -/
theorem ow_cV {f : FuncId} {xs : List Operand} {ts : Array TypeId} {vs : List Value} (ho : o.op = .call { callee := .value (.func f), args := xs.toArray, argTypes := ts }) (hb : hasBody P f) (hx : evs L xs = some vs)
    (hc : ∀ w, Hp w0 M H w → Ret P f vs w [] fun u _ => u = v) (hd : o.dst = some d) (hN : Nat.blt d N = true) (h : KK K N ((d, v) :: L) w0 M H) : OW P o Q K N L w0 M H :=
  ow_callV (first := #[]) (captured := #[]) ho rfl hb hx (by simp) hc hd hN h

theorem ow_cN {ι : Type} {f : FuncId} {xs : List Operand} {ts : Array TypeId} {vs : List Value} {V : ι → Value} {C : ι → Ch} {I : ι → Prop} (ho : o.op = .call { callee := .value (.func f), args := xs.toArray, argTypes := ts }) (hb : hasBody P f) (hx : evs L xs = some vs)
    (hc : ∀ w, Hp w0 M H w → Ret P f vs w [] fun u w' => ∃ i, I i ∧ u = V i ∧ NewC w w' [C i]) (hd : o.dst = some d) (hN : Nat.blt d N = true) (h : ∀ i, I i → KK K N ((d, V i) :: L) w0 M (C i :: H)) : OW P o Q K N L w0 M H :=
  ow_callN V (fun i => [C i]) I (first := #[]) (captured := #[]) ho rfl hb hx (by simp) hc hd hN h
end

end Go.Proofs.YtacecnffggffmaaDoor
