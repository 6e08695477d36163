/- From a law's contract to its given statement: arguments opened, the result shut. -/
import Derived.Test.YtacecnffggffmaaDoorU
import Derived.SizedLaws
import Derived.ProofKit
set_option linter.all false
namespace Go.Proofs.YtacecnffggffmaaDoor
open Go.RowKit

section
variable {P : Program}

/-- Whatever reads as a datum of type t reads by the layout A, as something of which Sz holds. -/
def Opens (P : Program) {α : Type} (A : Lay α) (Sz : α → Prop) (t : TypeId) : Prop :=
  ∀ (H : Type) (enc : TypeId × Value → H) (w : World) (fuel : Nat) (cs : List Value) (x : DataW H × List MemPlace), DataW.trod enc P w 0 (fun _ => true) true fuel t cs = some x → (DataW.weights P t x.1).all (· ≤ reachBytes) = true → ∃ y : α, A.rd w [] cs y ∧ Sz y

theorem opens_map {α β : Type} {A : Lay α} {B : Lay β} {S : α → Prop} {S' : β → Prop} {t : TypeId} (h : Opens P A S t) (g : α → β) (hg : ∀ w cs x, A.rd w [] cs x → B.rd w [] cs (g x)) (hS : ∀ x, S x → S' (g x)) : Opens P B S' t := by
  intro H enc w fuel cs x h1 h2
  obtain ⟨y, h3, h4⟩ := h H enc w fuel cs x h1 h2
  exact ⟨g y, hg _ _ _ h3, hS _ h4⟩

def fits (n : Int) : Prop := -9223372036854775808 ≤ n ∧ n ≤ 9223372036854775807
def short (s : Str) : Prop := s.size ≤ 140737488351232

theorem opens_int {t : TypeId} (ht : P.underlying t = some (.int .i64)) : Opens P layI fits t := by
  intro H enc w fuel cs x h1 _
  obtain ⟨n, rfl, _, hw⟩ := DataW.trod_int ht h1
  refine ⟨n, rfl, ?_⟩
  simp [Lit.wf, IntKind.min, IntKind.max, IntKind.signed, IntKind.bits] at hw
  unfold fits
  omega
theorem opens_u8 {t : TypeId} (ht : P.underlying t = some (.int .u8)) : Opens P layU (fun _ => True) t := by
  intro H enc w fuel cs x h1 _
  obtain ⟨n, rfl, _, hw⟩ := DataW.trod_int ht h1
  simp [Lit.wf, IntKind.min, IntKind.max, IntKind.signed, IntKind.bits] at hw
  refine ⟨UInt8.ofNat n.toNat, ?_, trivial⟩
  show [_] = [_]
  have : (UInt8.ofNat n.toNat).toNat = n.toNat := by rw [UInt8.toNat_ofNat']; omega
  rw [this]
  congr 2
  omega
theorem opens_bool {t : TypeId} (ht : P.underlying t = some .bool) : Opens P layB (fun _ => True) t := by
  intro H enc w fuel cs x h1 _
  obtain ⟨b, rfl, _⟩ := DataW.trod_bool ht h1
  exact ⟨b, rfl, trivial⟩
theorem opens_str {t : TypeId} (ht : P.underlying t = some .string) : Opens P layS short t := by
  intro H enc w fuel cs x h1 h2
  obtain ⟨s, rfl, hx, _⟩ := DataW.trod_string ht h1
  refine ⟨s, rfl, ?_⟩
  rw [hx] at h2
  simp only [DataW.weights, List.all_cons, List.all_nil, Bool.and_true, decide_eq_true_eq, size_toList] at h2
  unfold short
  have : reachBytes = 140737488351232 := rfl
  omega

theorem opens_st2 {α β : Type} {A : Lay α} {B : Lay β} {SA : α → Prop} {SB : β → Prop} {t : TypeId} {f0 f1 : Field} {fs : Array Field} (ht : P.underlying t = some (.struct fs)) (hfs : fs.toList = [f0, f1]) (o0 : f0.offset = 0) (o1 : f1.offset = A.size)
    (c0 : P.cellsOf f0.type = A.size) (c1 : P.cellsOf f1.type = B.size) (ct : P.cellsOf t = A.size + B.size) (hA : Opens P A SA f0.type) (hB : Opens P B SB f1.type) : Opens P (prod A B) (fun x => SA x.1 ∧ SB x.2) t := by
  intro H enc w fuel cs x h1 h2
  obtain ⟨xs, n, _, hx, hl, hxs, hf⟩ := DataW.trod_struct ht h1
  have hsz : fs.size = 2 := by rw [← Array.length_toList, hfs]; rfl
  have g0 : fs[0]? = some f0 := by rw [← Array.getElem?_toList, hfs]; rfl
  have g1 : fs[1]? = some f1 := by rw [← Array.getElem?_toList, hfs]; rfl
  have e0 := hf 0 f0 g0
  have e1 := hf 1 f1 g1
  obtain ⟨x0, x1, rfl⟩ : ∃ x0 x1, xs = [x0, x1] := by
    rw [hsz] at hxs
    match xs, hxs with
    | [a, b], _ => exact ⟨a, b, rfl⟩
  rw [hx] at h2
  simp only [DataW.weights, ht, hfs, List.map_cons, List.map_nil, DataW.weightsEach, List.all_append, Bool.and_eq_true] at h2
  obtain ⟨ya, ra, sa⟩ := hA H enc w n _ x0 (by simpa using e0) h2.1
  obtain ⟨yb, rb, sb⟩ := hB H enc w n _ x1 (by simpa using e1) h2.2.1
  refine ⟨(ya, yb), ⟨_, _, ?_, ra, rb⟩, sa, sb⟩
  rw [o0, o1, c0, c1, List.drop_zero, List.take_of_length_le (l := cs.drop A.size) (by rw [List.length_drop]; omega), List.take_append_drop]

theorem opens_st3 {α β γ : Type} {A : Lay α} {B : Lay β} {C : Lay γ} {SA : α → Prop} {SB : β → Prop} {SC : γ → Prop} {t : TypeId} {f0 f1 f2 : Field} {fs : Array Field} (ht : P.underlying t = some (.struct fs)) (hfs : fs.toList = [f0, f1, f2]) (o0 : f0.offset = 0) (o1 : f1.offset = A.size) (o2 : f2.offset = A.size + B.size)
    (c0 : P.cellsOf f0.type = A.size) (c1 : P.cellsOf f1.type = B.size) (c2 : P.cellsOf f2.type = C.size) (ct : P.cellsOf t = A.size + B.size + C.size) (hA : Opens P A SA f0.type) (hB : Opens P B SB f1.type) (hC : Opens P C SC f2.type) : Opens P (prod A (prod B C)) (fun x => SA x.1 ∧ SB x.2.1 ∧ SC x.2.2) t := by
  intro H enc w fuel cs x h1 h2
  obtain ⟨xs, n, _, hx, hl, hxs, hf⟩ := DataW.trod_struct ht h1
  have hsz : fs.size = 3 := by rw [← Array.length_toList, hfs]; rfl
  have g0 : fs[0]? = some f0 := by rw [← Array.getElem?_toList, hfs]; rfl
  have g1 : fs[1]? = some f1 := by rw [← Array.getElem?_toList, hfs]; rfl
  have g2 : fs[2]? = some f2 := by rw [← Array.getElem?_toList, hfs]; rfl
  have e0 := hf 0 f0 g0
  have e1 := hf 1 f1 g1
  have e2 := hf 2 f2 g2
  obtain ⟨x0, x1, x2, rfl⟩ : ∃ x0 x1 x2, xs = [x0, x1, x2] := by
    rw [hsz] at hxs
    match xs, hxs with
    | [a, b, c], _ => exact ⟨a, b, c, rfl⟩
  rw [hx] at h2
  simp only [DataW.weights, ht, hfs, List.map_cons, List.map_nil, DataW.weightsEach, List.all_append, Bool.and_eq_true] at h2
  obtain ⟨ya, ra, sa⟩ := hA H enc w n _ x0 (by simpa using e0) h2.1
  obtain ⟨yb, rb, sb⟩ := hB H enc w n _ x1 (by simpa using e1) h2.2.1
  obtain ⟨yc, rc, sc⟩ := hC H enc w n _ x2 (by simpa using e2) h2.2.2.1
  refine ⟨(ya, yb, yc), ⟨_, _, ?_, ra, _, _, rfl, rb, rc⟩, sa, sb, sc⟩
  rw [o0, o1, o2, c0, c1, c2, List.drop_zero, List.take_of_length_le (l := cs.drop (A.size + B.size)) (by rw [List.length_drop]; omega), ← List.drop_drop, List.take_append_drop, List.take_append_drop]

theorem weightsAll_mem {H : Type} {e : TypeId} : ∀ {l : List (DataW H)} {d : DataW H}, d ∈ l → (DataW.weightsAll P e l).all (· ≤ reachBytes) = true → (d.weights P e).all (· ≤ reachBytes) = true
  | [], _, h, _ => by simp at h
  | x :: l, d, h, hw => by
    simp only [DataW.weightsAll, List.all_append, Bool.and_eq_true] at hw
    rcases List.mem_cons.1 h with rfl | h
    · exact hw.1
    · exact weightsAll_mem h hw.2

theorem opens_sl {α : Type} {A : Lay α} {S : α → Prop} {t e e' : TypeId} (ht : P.underlying t = some (.slice e)) (hc : P.cellsOf e = A.size) (hpos : 0 < A.size) (hb : 1 ≤ P.bytesOf e) (hA : Opens P A S e) : Opens P (sl e' A) (fun l => l.length ≤ 140737488351232 ∧ ∀ x ∈ l, S x) t := by
  intro H enc w fuel cs x h1 h2
  rcases DataW.trod_slice ht h1 with ⟨rfl, _⟩ | ⟨a, len, cap, elems, rest, n, _, rfl, hx, _, hl, hm, hlen, hel, hsp, _⟩
  · exact ⟨[], ⟨none, 0, rfl, Nat.le_refl _, by simp [maxLen], fun h => by simp at h⟩, by simp, by simp⟩
  · rw [hx] at h2
    simp only [DataW.weights, ht, List.all_cons, List.all_append, Bool.and_eq_true, decide_eq_true_eq, List.length_map] at h2
    obtain ⟨hw0, hw1, _⟩ := h2
    have each : ∀ i, i < len → ∃ y ci, w.cells? 0 (a.add (i * A.size)) A.size = some ci ∧ A.rd w [] ci y ∧ S y := by
      intro i hi
      have he := hel i hi
      rw [List.getElem?_eq_getElem (by omega)] at he
      obtain ⟨ci, h3, h4⟩ := Option.bind_eq_some_iff.1 he
      obtain ⟨y, h5, h6⟩ := hA H enc w n ci _ h4 (weightsAll_mem (List.mem_map.2 ⟨_, List.getElem_mem (by omega), rfl⟩) hw1)
      rw [hc] at h3
      exact ⟨y, ci, h3, h5, h6⟩
    obtain ⟨ys, hys, hyl⟩ : ∃ ys : List α, (∀ (i : Nat) (y : α), ys[i]? = some y → ∃ ci, w.cells? 0 (a.add (i * A.size)) A.size = some ci ∧ A.rd w [] ci y ∧ S y) ∧ ys.length = len := by
      clear hel hx hw0 hw1 hsp hlen hl h1
      induction len with
      | zero => exact ⟨[], by simp, rfl⟩
      | succ k ih =>
        obtain ⟨ys, h3, h4⟩ := ih (fun i hi => each i (by omega))
        obtain ⟨y, hy⟩ := each k (by omega)
        refine ⟨ys ++ [y], fun i z hz => ?_, by simp [h4]⟩
        rcases Nat.lt_trichotomy i k with h5 | h5 | h5
        · exact h3 i z (by rw [List.getElem?_append_left (by omega)] at hz; exact hz)
        · subst h5
          rw [List.getElem?_append_right (by omega), h4, Nat.sub_self] at hz
          simp at hz
          subst hz
          exact hy
        · have := (List.getElem?_eq_some_iff.1 hz).1
          simp at this
          omega
    have hcap : ys.length ≤ 140737488351232 := by
      have : reachBytes = 140737488351232 := rfl
      have h3 := Nat.le_trans (Nat.le_mul_of_pos_right (elems.length + rest.length) hb) hw0
      omega
    refine ⟨ys, ⟨some a, cap, by rw [hyl], by omega, hm, fun h0 => ?_⟩, hcap, fun z hz => ?_⟩
    · obtain ⟨ci, h3, h4, _⟩ := hys 0 _ (List.getElem?_eq_getElem h0)
      obtain ⟨_, h5, h6⟩ := World.cells?_some h3
      have h7 := h6 0 hpos
      rw [Nat.zero_mul] at h7
      have h8 : w.cell? ((a.add 0).add 0) = some (ci[0]'(by omega)) := by rw [h7]; exact List.getElem?_eq_getElem (by omega)
      have h9 : (a.add 0).add 0 = a := by simp [Addr.add]
      rw [h9] at h8
      have hspot := World.cell?_spot h8
      obtain ⟨b, o, spot⟩ := a
      simp only at hspot
      subst hspot
      refine ⟨b, o, rfl, by simp, World.block_lt_of_cell? w _ h8, fun k y hk => ?_⟩
      obtain ⟨ck, g1, g2, _⟩ := hys k y hk
      refine ⟨ck, fun j u hj => ?_, g2⟩
      obtain ⟨_, g3, g4⟩ := World.cells?_some g1
      have g5 := g4 j (by have := (List.getElem?_eq_some_iff.1 hj).1; omega)
      rw [hj, Addr.add_lit, Addr.add_lit] at g5
      exact g5
    · obtain ⟨i, hi, rfl⟩ := List.mem_iff_getElem.1 hz
      obtain ⟨_, _, _, h5⟩ := hys i _ (List.getElem?_eq_getElem hi)
      exact h5

theorem ok_cell {H : Type} {W : World} {base t : Nat} {v : Value} {D : TypeDesc} (ht : P.underlying t = some D) (hD : aggD D = false) (hok : Value.okWide P W .any base t v) : ∀ cs, v ≠ .agg cs := by
  intro cs e
  subst e
  unfold Value.okWide at hok
  rw [ht] at hok
  cases D <;> simp_all [aggD, Cell.okWide, Cell.ok]

/-- A parameter that is a slice. -/
theorem arg_sl {α H : Type} {enc : TypeId × Value → H} {A : Lay α} {S : List α → Prop} {t e e' : TypeId} {W : World} {base : Nat} {v : Value} {d : DataW H} {p : List MemPlace} (ho : Opens P (sl e' A) S t) (ht : P.underlying t = some (.slice e)) (hok : Value.okWide P W .any base t v)
    (h : DataW.Trod enc P W 0 (fun _ => true) true t v d p) (hw : (d.weights P t).all (· ≤ reachBytes) = true) : ∃ a c l, v = .slice a l.length c ∧ (sl e' A).rd W [] [.slice a l.length c] l ∧ S l := by
  obtain ⟨fuel, hf⟩ := h
  obtain ⟨l, h1, h2⟩ := ho H enc W fuel _ _ hf hw
  obtain ⟨a, c, h3, h4⟩ := sl_form h1
  refine ⟨a, c, l, ?_, by rw [h3] at h1; exact h1, h2⟩
  have hna := ok_cell (H := H) ht rfl hok
  cases v <;> simp_all [Value.cells]
theorem arg_int {H : Type} {enc : TypeId × Value → H} {S : Int → Prop} {t : TypeId} {W : World} {base : Nat} {v : Value} {d : DataW H} {p : List MemPlace} (ho : Opens P layI S t) (ht : P.underlying t = some (.int .i64)) (hok : Value.okWide P W .any base t v)
    (h : DataW.Trod enc P W 0 (fun _ => true) true t v d p) (hw : (d.weights P t).all (· ≤ reachBytes) = true) : ∃ n, v = .int .i64 n ∧ S n := by
  obtain ⟨fuel, hf⟩ := h
  obtain ⟨n, h1, h2⟩ := ho H enc W fuel _ _ hf hw
  have h1 : v.cells.toList = [.int .i64 n] := h1
  refine ⟨n, ?_, h2⟩
  have hna := ok_cell (H := H) ht rfl hok
  cases v <;> simp_all [Value.cells]
theorem arg_str {H : Type} {enc : TypeId × Value → H} {S : Str → Prop} {t : TypeId} {W : World} {base : Nat} {v : Value} {d : DataW H} {p : List MemPlace} (ho : Opens P layS S t) (ht : P.underlying t = some .string) (hok : Value.okWide P W .any base t v)
    (h : DataW.Trod enc P W 0 (fun _ => true) true t v d p) (hw : (d.weights P t).all (· ≤ reachBytes) = true) : ∃ n, v = .string n ∧ S n := by
  obtain ⟨fuel, hf⟩ := h
  obtain ⟨n, h1, h2⟩ := ho H enc W fuel _ _ hf hw
  have h1 : v.cells.toList = [.string n] := h1
  refine ⟨n, ?_, h2⟩
  have hna := ok_cell (H := H) ht rfl hok
  cases v <;> simp_all [Value.cells]
theorem arg_st {α H : Type} {enc : TypeId × Value → H} {A : Lay α} {S : α → Prop} {t : TypeId} {fs : Array Field} {W : World} {base : Nat} {v : Value} {d : DataW H} {p : List MemPlace} (ho : Opens P A S t) (ht : P.underlying t = some (.struct fs)) (hok : Value.okWide P W .any base t v)
    (h : DataW.Trod enc P W 0 (fun _ => true) true t v d p) (hw : (d.weights P t).all (· ≤ reachBytes) = true) : ∃ cs x, v = .agg (List.toArray cs) ∧ A.rd W [] cs x ∧ S x := by
  obtain ⟨fuel, hf⟩ := h
  obtain ⟨x, h1, h2⟩ := ho H enc W fuel _ _ hf hw
  unfold Value.okWide at hok
  rw [ht] at hok
  obtain ⟨cs, rfl, _⟩ := hok
  exact ⟨cs.toList, x, by simp, h1, h2⟩

/-! ## The end -/

theorem trodAll_below {H : Type} {enc : TypeId × Value → H} (hl : laidOutB P = true) {W W' : World} (hb : Below W.heap.size W W') : ∀ {ts : List TypeId} {vs : List Value} {ds : List (DataW H)} {ps : List MemPlace}, (∀ t ∈ ts, P.readableRec t = true ∧ t < P.types.size) →
    DataW.TrodAll enc P W 0 (fun _ => true) true ts vs ds ps → (∀ p ∈ ps, p.block < W.heap.size) → DataW.TrodAll enc P W' 0 (fun b => decide (b < W.heap.size)) true ts vs ds ps
  | [], [], [], _, _, h, _ => h
  | [], [], _ :: _, _, _, h, _ => h.elim
  | [], _ :: _, _, _, _, h, _ => h.elim
  | _ :: _, [], _, _, _, h, _ => h.elim
  | _ :: _, _ :: _, [], _, _, h, _ => h.elim
  | t :: ts, v :: vs, d :: ds, ps, hr, h, hlt => by
    obtain ⟨p, q, h1, h2, rfl⟩ := h
    obtain ⟨r1, r2⟩ := hr t (by simp)
    exact ⟨p, q, Below.trod hl r1 r2 h1 hb (fun x hx => hlt x (by simp [hx])), trodAll_below hl hb (fun t ht => hr t (by simp [ht])) h2 (fun x hx => hlt x (by simp [hx])), rfl⟩

theorem kept_of_below {W W' : World} (hb : Below W.heap.size W W') (may : MemPlace → Prop) : W.keptBut W' may := by
  refine ⟨hb.os, hb.output, fun i hi => ?_⟩
  rw [hb.block i hi]
  cases W.heap[i]? with
  | none => rfl
  | some o => cases o <;> simp

/-- A law: it gives true, and turns nothing that was there. -/
theorem law_post {H : Type} {enc : TypeId × Value → H} {f : Func} {s : ChangeSpec} {fresh handsOn : Bool} {W W' : World} {args : Array Value} {ds : List (DataW H)} {before : List MemPlace} {tb : TypeId} (hl : laidOutB P = true) (hv : s.vars = []) (hrt : f.resultTypes = #[tb]) (htb : P.underlying tb = some .bool)
    (hr : ∀ t ∈ f.params.toList, P.readableRec t = true ∧ t < P.types.size) (hW : DataW.Whole enc P f.params.toList s.vars false W args.toList ds [] before) (hfn : s.fn H (ds ++ []) = { results := [.lit (.bool true)], args := ds }) (hE : ExtM [] W W') :
    s.post enc P f false fresh handsOn false W args (.bool true) W' := by
  have hb := hE.below
  have hlt := hW.lt
  obtain ⟨p, q, h1, h2, rfl, h3, h4⟩ := id hW
  have hpl : ∀ x ∈ p, x.block < W.heap.size := fun x hx => hlt x (by simp [hx])
  have hq : q = [] := by rw [hv] at h2; exact h2
  refine ⟨ds, [], p ++ q, [], p, [], hW, ?_, ?_, ?_, kept_of_below hb _, fun h => by cases h⟩
  · rw [hrt, hfn]
    exact ⟨[], [], ⟨1, by simp [Value.cells, Value.resultList, DataW.trod, htb]⟩, rfl, rfl⟩
  · rw [hfn]; exact trodAll_below hl hb hr h1 hpl
  · rw [hfn, hv]; exact rfl
end

end Go.Proofs.YtacecnffggffmaaDoor
