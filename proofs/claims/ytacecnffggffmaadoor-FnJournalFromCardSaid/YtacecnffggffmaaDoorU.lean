/- Rules for walks that a program prints, second part: how the data lie, reads, calls. -/
import Derived.Test.YtacecnffggffmaaDoorT
import Derived.Test.YtacecnffggffmaaDoorLay
set_option linter.all false
namespace Go.Proofs.YtacecnffggffmaaDoor
open Go.RowKit

/-! ## Layouts -/

def stepL : Lay Step := lmap (fun s => (s.name, (s.after, s.undo))) (prod layS (prod strsL layB))
def stepsL : Lay (List Step) := sl 0 stepL
def flowL : Lay Flow := lmap (fun s => (s.ver, s.steps)) (prod layI stepsL)
def flowsL : Lay (List Flow) := sl 0 flowL
def runL : Lay Run := lmap (fun s => (s.state, s.done)) (prod layI strsL)
def runsL : Lay (List Run) := sl 0 runL
def changeL : Lay Change := lmap (fun s => (s.kind, s.step)) (prod layI stepL)
def changesL : Lay (List Change) := sl 0 changeL
def eventL : Lay Event := plain 2 (fun t => [.int .i64 t.kind, .string t.name]) (fun _ => rfl) (fun _ u hu => by simp at hu; rcases hu with rfl | rfl <;> rfl)
def eventsL : Lay (List Event) := sl 35 eventL
def intsL : Lay (List Int) := sl 0 layI

section
variable {w0 w : World} {M F : List Nat} {cs : List Value}
theorem stepL_rd {x : Step} (h : stepL.rd w M cs x) : ∃ a c, cs = [.string x.name, .slice a x.after.length c, .bool x.undo] ∧ strsL.rd w M [.slice a x.after.length c] x.after := by
  obtain ⟨c1, c2, rfl, h1, c3, c4, rfl, h2, h3⟩ := h
  obtain ⟨a, c, rfl, _⟩ := sl_form h2
  cases h1; cases h3
  exact ⟨a, c, rfl, h2⟩
theorem stepL_ow {x : Step} (h : stepL.ow w F cs x) : ∃ a c, cs = [.string x.name, .slice a x.after.length c, .bool x.undo] ∧ strsL.ow w F [.slice a x.after.length c] x.after := by
  obtain ⟨F1, F2, c1, c2, rfl, rfl, ⟨rfl, h1⟩, F3, F4, c3, c4, rfl, rfl, h2, ⟨rfl, h3⟩⟩ := h
  obtain ⟨a, c, rfl, _⟩ := sl_form (strsL.ow_rd h2 (M := []) (by simp))
  cases h1; cases h3
  exact ⟨a, c, rfl, by simpa using h2⟩
theorem stepL_mk {a : Option Addr} {c : Nat} (x : Step) (h : strsL.ow w F [.slice a x.after.length c] x.after) : stepL.ow w F [.string x.name, .slice a x.after.length c, .bool x.undo] x :=
  ⟨[], F, [.string x.name], [.slice a x.after.length c, .bool x.undo], rfl, rfl, ⟨rfl, rfl⟩, F, [], [.slice a x.after.length c], [.bool x.undo], by simp, rfl, h, rfl, rfl⟩
theorem flowL_rd {x : Flow} (h : flowL.rd w M cs x) : ∃ a c, cs = [.int .i64 x.ver, .slice a x.steps.length c] ∧ stepsL.rd w M [.slice a x.steps.length c] x.steps := by
  obtain ⟨c1, c2, rfl, h1, h2⟩ := h
  obtain ⟨a, c, rfl, _⟩ := sl_form h2
  cases h1
  exact ⟨a, c, rfl, h2⟩
theorem flowL_ow {x : Flow} (h : flowL.ow w F cs x) : ∃ a c, cs = [.int .i64 x.ver, .slice a x.steps.length c] ∧ stepsL.ow w F [.slice a x.steps.length c] x.steps := by
  obtain ⟨F1, F2, c1, c2, rfl, rfl, ⟨rfl, h1⟩, h2⟩ := h
  obtain ⟨a, c, rfl, _⟩ := sl_form (stepsL.ow_rd h2 (M := []) (by simp))
  cases h1
  exact ⟨a, c, rfl, by simpa using h2⟩
theorem flowL_mk {a : Option Addr} {c : Nat} (x : Flow) (h : stepsL.ow w F [.slice a x.steps.length c] x.steps) : flowL.ow w F [.int .i64 x.ver, .slice a x.steps.length c] x :=
  ⟨[], F, [.int .i64 x.ver], [.slice a x.steps.length c], rfl, rfl, ⟨rfl, rfl⟩, h⟩
theorem runL_rd {x : Run} (h : runL.rd w M cs x) : ∃ a c, cs = [.int .i64 x.state, .slice a x.done.length c] ∧ strsL.rd w M [.slice a x.done.length c] x.done := by
  obtain ⟨c1, c2, rfl, h1, h2⟩ := h
  obtain ⟨a, c, rfl, _⟩ := sl_form h2
  cases h1
  exact ⟨a, c, rfl, h2⟩
theorem runL_ow {x : Run} (h : runL.ow w F cs x) : ∃ a c, cs = [.int .i64 x.state, .slice a x.done.length c] ∧ strsL.ow w F [.slice a x.done.length c] x.done := by
  obtain ⟨F1, F2, c1, c2, rfl, rfl, ⟨rfl, h1⟩, h2⟩ := h
  obtain ⟨a, c, rfl, _⟩ := sl_form (strsL.ow_rd h2 (M := []) (by simp))
  cases h1
  exact ⟨a, c, rfl, by simpa using h2⟩
theorem runL_mk {a : Option Addr} {c : Nat} (x : Run) (h : strsL.ow w F [.slice a x.done.length c] x.done) : runL.ow w F [.int .i64 x.state, .slice a x.done.length c] x :=
  ⟨[], F, [.int .i64 x.state], [.slice a x.done.length c], rfl, rfl, ⟨rfl, rfl⟩, h⟩
theorem changeL_rd {x : Change} (h : changeL.rd w M cs x) : ∃ a c, cs = [.int .i64 x.kind, .string x.step.name, .slice a x.step.after.length c, .bool x.step.undo] ∧ strsL.rd w M [.slice a x.step.after.length c] x.step.after := by
  obtain ⟨c1, c2, rfl, h1, h2⟩ := h
  obtain ⟨a, c, rfl, h3⟩ := stepL_rd h2
  cases h1
  exact ⟨a, c, rfl, h3⟩
theorem changeL_ow {x : Change} (h : changeL.ow w F cs x) : ∃ a c, cs = [.int .i64 x.kind, .string x.step.name, .slice a x.step.after.length c, .bool x.step.undo] ∧ strsL.ow w F [.slice a x.step.after.length c] x.step.after := by
  obtain ⟨F1, F2, c1, c2, rfl, rfl, ⟨rfl, h1⟩, h2⟩ := h
  obtain ⟨a, c, rfl, h3⟩ := stepL_ow h2
  cases h1
  exact ⟨a, c, rfl, by simpa using h3⟩
theorem changeL_mk {a : Option Addr} {c : Nat} (x : Change) (h : strsL.ow w F [.slice a x.step.after.length c] x.step.after) : changeL.ow w F [.int .i64 x.kind, .string x.step.name, .slice a x.step.after.length c, .bool x.step.undo] x :=
  ⟨[], F, [.int .i64 x.kind], _, rfl, rfl, ⟨rfl, rfl⟩, stepL_mk x.step h⟩

variable {e : TypeId} {α : Type} {A : Lay α} {a : Option Addr} {n c k : Nat}
theorem sl_get {l : List α} {x : α} (h : (sl e A).rd w0 M [.slice a n c] l) (hk : l[k]? = some x) : ∃ b o es, a = some ⟨b, o, none⟩ ∧ CellN w0 M b (o + k * A.size) es ∧ A.rd w0 M es x := by
  obtain ⟨hlt, rfl⟩ := List.getElem?_eq_some_iff.1 hk
  exact sl_at h hlt
theorem sl_getK {l : List α} {x : α} {b o : Nat} (h : (sl e A).rd w0 M [.slice (some ⟨b, o, none⟩) n c] l) (hk : l[k]? = some x) : ∃ es, CellN w0 M b (o + k * A.size) es ∧ A.rd w0 M es x := by
  obtain ⟨b', o', es, he, h1, h2⟩ := sl_get h hk
  simp only [Option.some.injEq, Addr.mk.injEq, and_true] at he
  obtain ⟨rfl, rfl⟩ := he
  exact ⟨es, h1, h2⟩
/-- Where the cells of a slice lie that has an element. -/
theorem sl_addr {l : List α} {x : α} (h : (sl e A).rd w0 M [.slice a n c] l) (hk : l[k]? = some x) : ∃ b o, a = some ⟨b, o, none⟩ := by
  obtain ⟨b, o, _, h1, _⟩ := sl_get h hk
  exact ⟨b, o, h1⟩
theorem get_plain {m : Nat} {enc : α → List Value} {hl : ∀ x, (enc x).length = m} {h1 : ∀ x, ∀ u ∈ enc x, u.oneCell' = true} {l : List α} {x : α} {b o : Nat} (h : (sl e (plain m enc hl h1)).rd w0 M [.slice (some ⟨b, o, none⟩) n c] l) (hk : l[k]? = some x) : CellN w0 M b (o + k * m) (enc x) := by
  obtain ⟨es, h2, h3⟩ := sl_getK h hk
  cases h3
  exact h2
theorem get_str {l : List Str} {x : Str} {b o : Nat} (h : strsL.rd w0 M [.slice (some ⟨b, o, none⟩) n c] l) (hk : l[k]? = some x) : CellN w0 M b (o + k * 1) [.string x] := by
  obtain ⟨es, h2, h3⟩ := sl_getK (A := layS) h hk
  cases h3
  exact h2
theorem get_int {l : List Int} {x : Int} {b o : Nat} (h : intsL.rd w0 M [.slice (some ⟨b, o, none⟩) n c] l) (hk : l[k]? = some x) : CellN w0 M b (o + k * 1) [.int .i64 x] := by
  obtain ⟨es, h2, h3⟩ := sl_getK (A := layI) h hk
  cases h3
  exact h2
theorem get_byte {l : List UInt8} {x : UInt8} {b o : Nat} (h : bytesL.rd w0 M [.slice (some ⟨b, o, none⟩) n c] l) (hk : l[k]? = some x) : CellN w0 M b (o + k * 1) [.int .u8 x.toNat] := by
  obtain ⟨es, h2, h3⟩ := sl_getK (A := layU) h hk
  cases h3
  exact h2
theorem get_timer {l : List Timer} {x : Timer} {b o : Nat} (h : timersL.rd w0 M [.slice (some ⟨b, o, none⟩) n c] l) (hk : l[k]? = some x) : CellN w0 M b (o + k * 2) [.int .i64 x.at_, .string x.name] := by
  obtain ⟨es, h2, h3⟩ := sl_getK (A := timerL) h hk
  cases h3
  exact h2
theorem get_event {l : List Event} {x : Event} {b o : Nat} (h : eventsL.rd w0 M [.slice (some ⟨b, o, none⟩) n c] l) (hk : l[k]? = some x) : CellN w0 M b (o + k * 2) [.int .i64 x.kind, .string x.name] := by
  obtain ⟨es, h2, h3⟩ := sl_getK (A := eventL) h hk
  cases h3
  exact h2
theorem get_step {l : List Step} {x : Step} {b o : Nat} (h : stepsL.rd w0 M [.slice (some ⟨b, o, none⟩) n c] l) (hk : l[k]? = some x) : ∃ a2 c2, CellN w0 M b (o + k * 3) [.string x.name, .slice a2 x.after.length c2, .bool x.undo] ∧ strsL.rd w0 M [.slice a2 x.after.length c2] x.after := by
  obtain ⟨es, h2, h3⟩ := sl_getK h hk
  obtain ⟨a2, c2, rfl, h4⟩ := stepL_rd h3
  exact ⟨a2, c2, h2, h4⟩
theorem get_flow {l : List Flow} {x : Flow} {b o : Nat} (h : flowsL.rd w0 M [.slice (some ⟨b, o, none⟩) n c] l) (hk : l[k]? = some x) : ∃ a2 c2, CellN w0 M b (o + k * 2) [.int .i64 x.ver, .slice a2 x.steps.length c2] ∧ stepsL.rd w0 M [.slice a2 x.steps.length c2] x.steps := by
  obtain ⟨es, h2, h3⟩ := sl_getK h hk
  obtain ⟨a2, c2, rfl, h4⟩ := flowL_rd h3
  exact ⟨a2, c2, h2, h4⟩
theorem get_run {l : List Run} {x : Run} {b o : Nat} (h : runsL.rd w0 M [.slice (some ⟨b, o, none⟩) n c] l) (hk : l[k]? = some x) : ∃ a2 c2, CellN w0 M b (o + k * 2) [.int .i64 x.state, .slice a2 x.done.length c2] ∧ strsL.rd w0 M [.slice a2 x.done.length c2] x.done := by
  obtain ⟨es, h2, h3⟩ := sl_getK h hk
  obtain ⟨a2, c2, rfl, h4⟩ := runL_rd h3
  exact ⟨a2, c2, h2, h4⟩
theorem get_change {l : List Change} {x : Change} {b o : Nat} (h : changesL.rd w0 M [.slice (some ⟨b, o, none⟩) n c] l) (hk : l[k]? = some x) : ∃ a2 c2, CellN w0 M b (o + k * 4) [.int .i64 x.kind, .string x.step.name, .slice a2 x.step.after.length c2, .bool x.step.undo] ∧ strsL.rd w0 M [.slice a2 x.step.after.length c2] x.step.after := by
  obtain ⟨es, h2, h3⟩ := sl_getK h hk
  obtain ⟨a2, c2, rfl, h4⟩ := changeL_rd h3
  exact ⟨a2, c2, h2, h4⟩
/-- The length of a slice fits. -/
theorem rd_max {l : List α} (h : (sl e A).rd w0 M [.slice a n c] l) : l.length ≤ 9223372036854775807 := by
  obtain ⟨h1, h2, h3⟩ := sl_len h
  simp only [maxLen] at h3
  omega
theorem rd_cap {l : List α} (h : (sl e A).rd w0 M [.slice a n c] l) : l.length ≤ c := by
  obtain ⟨h1, h2, h3⟩ := sl_len h
  omega
end

section
variable {P : Program} (T : Tab P) {Q : Exit → Act → World → Prop} {N : Nat} {L : SL} {w0 : World} {M : List Nat} {H Hs : List Ch} {o : Oper} {K : Act → World → Prop} {d : Nat} {v : Value}

theorem wl_ex {ops : Array Oper} {l : List Oper} {ι : Type} (R : ι → Prop) (hr : ∀ w, Hp w0 M H w → ∃ i, R i) (h : ∀ i, R i → WL P ops Q l N L w0 M H) : WL P ops Q l N L w0 M H :=
  ⟨fun a w hF hH => by obtain ⟨i, hi⟩ := hr w hH; exact (h i hi).go a w hF hH⟩
theorem wd_ex {l : List Oper} {F T : List Nat} {fuel : Nat} {bs : List Bool} {ι : Type} (R : ι → Prop) (hr : ∀ w, Hp w0 M H w → ∃ i, R i) (h : ∀ i, R i → WD P l Q F T w0 M Hs fuel bs N L H) : WD P l Q F T w0 M Hs fuel bs N L H :=
  ⟨fun a w hF hH => by obtain ⟨i, hi⟩ := hr w hH; exact (h i hi).go a w hF hH⟩

/-! ## Reads -/

theorem yh_loadA0 {t : TypeId} {x : Operand} {b i : Nat} {vs : List Value} (ho : o.op = .load t x) (hx : ev L x = some (.pointer (some ⟨b, i, none⟩))) (hg : T.agg t = some false)
    (hc : CellN w0 M b i vs) (hv : vs[0]? = some v) : YH P o v N L w0 M H := yh_loadAF T (j := 0) ho hx hg hc hv
theorem yh_loadAP {t : TypeId} {x : Operand} {b i n : Nat} {vs us : List Value} {z : Value} {by_ : Nat} (j : Nat) (ho : o.op = .load t x) (hx : ev L x = some (.pointer (some ⟨b, i + j, none⟩))) (hg : T.agg t = some true)
    (hi : T.inf t = some (z, n, by_)) (hc : CellN w0 M b i vs) (hu : (vs.drop j).take n = us) (hn : us.length = n) : YH P o (.agg us.toArray) N L w0 M H := .mk fun ac w hF hH => by
  obtain ⟨ti, h1, _, h3, _⟩ := T.info hi
  have := run_loadN' T (a := ⟨b, i + j, none⟩) hg h1 (w := w) (h3.trans hn.symm) (fun q u hj => by
    rw [Addr.add_lit, Nat.add_assoc]
    refine hc.at_ hH ?_
    rw [← hu, List.getElem?_take] at hj
    split at hj
    · rw [List.getElem?_drop] at hj; exact hj
    · cases hj)
  simp [execOp, ho, hF.ev hx, Instr.loadAt, Instr.sureAddr, this]

theorem yh_indexS {t : TypeId} {x y : Operand} {s : ByteArray} {k u : Nat} {m : Int} {kk : IntKind} (ho : o.op = .index t x y) (hx : ev L x = some (.string s)) (hy : ev L y = some (.int kk m)) (hm : m = (k : Int)) (hk : bget s k = some u)
    (hu : T.str t = some ()) : YH P o (.int .u8 (u : Int)) N L w0 M H := by
  obtain ⟨hk', rfl⟩ := bget_some hk
  exact yh_indexT T ho hx hy hm hk' hu

theorem yh_arW {op : BinOp} {t u : TypeId} {x y : Operand} {m n r : Int} (ho : o.op = .binOp op t x y u) (hx : ev L x = some (.int .i64 m)) (hy : ev L y = some (.int .i64 n))
    (hr : arI op m n = some r) : YH P o (.int .i64 (w64 r)) N L w0 M H := .mk fun a w hF _ => by
  cases op <;> simp only [arI, Option.some.injEq, reduceCtorEq] at hr <;> subst hr <;>
    simp [execOp, ho, hF.ev hx, hF.ev hy, eqGuard_at_int, binOp_add, binOp_sub, binOp_mul, Op.intArith, w64]

/-- A field of a struct value. -/
theorem yh_idx {t e : TypeId} {x y : Operand} {b i n c k s by_ : Nat} {m : Int} {kk : IntKind} {z : Value} (ho : o.op = .indexAddr t x y) (hx : ev L x = some (.slice (some ⟨b, i, none⟩) n c)) (hy : ev L y = some (.int kk m))
    (hm : m = (k : Int)) (hk : k < n) (hu : T.sle t = some e) (hin : T.inf e = some (z, s, by_)) : YH P o (.pointer (some ⟨b, i + k * s, none⟩)) N L w0 M H := yh_index T (ix := 0) rfl ho hx hy hm hk hu hin

section
variable {α : Type} {n : Nat} {enc : α → List Value} {hel : ∀ x, (enc x).length = n} {he1 : ∀ x, ∀ u ∈ enc x, u.oneCell' = true}
/-- A load of a field of an element of an owned slice of plain elements. -/
theorem yh_loadOF {t e : TypeId} {x : Operand} {g m c k : Nat} {F : List Nat} {l : List α} {u : α} (i f : Nat) (ho : o.op = .load t x) (hx : ev L x = some (.pointer (some ⟨g, 0 + k * n + f, none⟩))) (hg : T.agg t = some false)
    (hi : H[i]? = some (owC (sl e (plain n enc hel he1)) F [.slice (some ⟨g, 0, none⟩) m c] l)) (hf : Nat.blt f n = true) (hk : l[k]? = some u) (hv : (enc u)[f]? = some v) : YH P o v N L w0 M H := by
  obtain ⟨hlt, rfl⟩ := List.getElem?_eq_some_iff.1 hk
  exact yh_loadO T k f ho hx hg hi (by simpa [Nat.blt_eq] using hf) hlt hv
theorem yh_loadO0 {t e : TypeId} {x : Operand} {g m c k : Nat} {F : List Nat} {l : List α} {u : α} (i : Nat) (ho : o.op = .load t x) (hx : ev L x = some (.pointer (some ⟨g, 0 + k * n, none⟩))) (hg : T.agg t = some false)
    (hi : H[i]? = some (owC (sl e (plain n enc hel he1)) F [.slice (some ⟨g, 0, none⟩) m c] l)) (hf : Nat.blt 0 n = true) (hk : l[k]? = some u) (hv : (enc u)[0]? = some v) : YH P o v N L w0 M H :=
  yh_loadOF T i 0 ho hx hg hi hf hk hv
theorem yh_loadON {t e : TypeId} {x : Operand} {g m c k by_ : Nat} {F : List Nat} {l : List α} {u : α} {z : Value} (i : Nat) (ho : o.op = .load t x) (hx : ev L x = some (.pointer (some ⟨g, 0 + k * n, none⟩))) (hg : T.agg t = some true)
    (hin : T.inf t = some (z, n, by_)) (hi : H[i]? = some (owC (sl e (plain n enc hel he1)) F [.slice (some ⟨g, 0, none⟩) m c] l)) (hk : l[k]? = some u) : YH P o (.agg (enc u).toArray) N L w0 M H := .mk fun ac w hF hH => by
  obtain ⟨hlt, rfl⟩ := List.getElem?_eq_some_iff.1 hk
  obtain ⟨ti, h1, _, h3, _⟩ := T.info hin
  have := run_loadN' T (a := ⟨g, 0 + k * n, none⟩) hg h1 (w := w) (h3.trans (hel _).symm) (fun q v hj => by
    have hq : q < n := by have := (List.getElem?_eq_some_iff.1 hj).1; rw [hel] at this; exact this
    rw [Addr.add_lit, own_cell hi hq hlt hH]
    exact hj)
  simp only [Nat.zero_add] at this
  simp [execOp, ho, hF.ev hx, Instr.loadAt, Instr.sureAddr, this]
theorem own_addrK {e m c k : Nat} {a : Option Addr} {F : List Nat} {β : Type} {B : Lay β} {l : List β} {x : β} {w : World} (i : Nat) (hi : H[i]? = some (owC (sl e B) F [.slice a m c] l)) (hk : l[k]? = some x) (hH : Hp w0 M H w) : ∃ g, a = some ⟨g, 0, none⟩ := by
  have h := hH.at hi
  refine own_addr h ?_
  have h2 := (sl_len (A := B) ((sl e B).ow_rd (F := F) (M := []) h (by simp))).1
  have := get_lt hk
  omega
end

/-! ## Calls of named functions: what they hand back, in the forms that are met -/

section
variable {f : FuncId} {xs : List Operand} {ts : Array TypeId} {vs : List Value}
theorem ow_cN1 {V : Option Addr → Nat → List Nat → Value} {C : Option Addr → Nat → List Nat → List Ch} (ho : o.op = .call { callee := .value (.func f), args := xs.toArray, argTypes := ts }) (hb : hasBody P f) (hx : evs L xs = some vs)
    (hc : ∀ w, Hp w0 M H w → Ret P f vs w [] fun u w' => ∃ a c F, u = V a c F ∧ NewC w w' (C a c F)) (hd : o.dst = some d) (hN : Nat.blt d N = true) (h : ∀ a c F, KK K N ((d, V a c F) :: L) w0 M (C a c F ++ H)) : OW P o Q K N L w0 M H :=
  ow_callN (ι := Option Addr × Nat × List Nat) (fun i => V i.1 i.2.1 i.2.2) (fun i => C i.1 i.2.1 i.2.2) (fun _ => True) (first := #[]) (captured := #[]) ho rfl hb hx (by simp)
    (fun w hw => (hc w hw).mono fun v w' _ ⟨a, c, F, h1, h2⟩ => ⟨(a, c, F), trivial, h1, h2⟩) hd hN (fun i _ => h i.1 i.2.1 i.2.2)
theorem ow_cN2 {V : Option Addr → Nat → List Nat → Option Addr → Nat → List Nat → Value} {C : Option Addr → Nat → List Nat → Option Addr → Nat → List Nat → List Ch} (ho : o.op = .call { callee := .value (.func f), args := xs.toArray, argTypes := ts }) (hb : hasBody P f) (hx : evs L xs = some vs)
    (hc : ∀ w, Hp w0 M H w → Ret P f vs w [] fun u w' => ∃ a c F a2 c2 F2, u = V a c F a2 c2 F2 ∧ NewC w w' (C a c F a2 c2 F2)) (hd : o.dst = some d) (hN : Nat.blt d N = true) (h : ∀ a c F a2 c2 F2, KK K N ((d, V a c F a2 c2 F2) :: L) w0 M (C a c F a2 c2 F2 ++ H)) : OW P o Q K N L w0 M H :=
  ow_callN (ι := (Option Addr × Nat × List Nat) × (Option Addr × Nat × List Nat)) (fun i => V i.1.1 i.1.2.1 i.1.2.2 i.2.1 i.2.2.1 i.2.2.2) (fun i => C i.1.1 i.1.2.1 i.1.2.2 i.2.1 i.2.2.1 i.2.2.2) (fun _ => True) (first := #[]) (captured := #[]) ho rfl hb hx (by simp)
    (fun w hw => (hc w hw).mono fun v w' _ ⟨a, c, F, a2, c2, F2, h1, h2⟩ => ⟨((a, c, F), (a2, c2, F2)), trivial, h1, h2⟩) hd hN (fun i _ => h i.1.1 i.1.2.1 i.1.2.2 i.2.1 i.2.2.1 i.2.2.2)
theorem ow_cN3 {V : Option Addr → Nat → List Nat → Option Addr → Nat → List Nat → Option Addr → Nat → List Nat → Value} {C : Option Addr → Nat → List Nat → Option Addr → Nat → List Nat → Option Addr → Nat → List Nat → List Ch} (ho : o.op = .call { callee := .value (.func f), args := xs.toArray, argTypes := ts }) (hb : hasBody P f) (hx : evs L xs = some vs)
    (hc : ∀ w, Hp w0 M H w → Ret P f vs w [] fun u w' => ∃ a c F a2 c2 F2 a3 c3 F3, u = V a c F a2 c2 F2 a3 c3 F3 ∧ NewC w w' (C a c F a2 c2 F2 a3 c3 F3)) (hd : o.dst = some d) (hN : Nat.blt d N = true) (h : ∀ a c F a2 c2 F2 a3 c3 F3, KK K N ((d, V a c F a2 c2 F2 a3 c3 F3) :: L) w0 M (C a c F a2 c2 F2 a3 c3 F3 ++ H)) : OW P o Q K N L w0 M H :=
  ow_callN (ι := (Option Addr × Nat × List Nat) × (Option Addr × Nat × List Nat) × (Option Addr × Nat × List Nat)) (fun i => V i.1.1 i.1.2.1 i.1.2.2 i.2.1.1 i.2.1.2.1 i.2.1.2.2 i.2.2.1 i.2.2.2.1 i.2.2.2.2) (fun i => C i.1.1 i.1.2.1 i.1.2.2 i.2.1.1 i.2.1.2.1 i.2.1.2.2 i.2.2.1 i.2.2.2.1 i.2.2.2.2) (fun _ => True) (first := #[]) (captured := #[]) ho rfl hb hx (by simp)
    (fun w hw => (hc w hw).mono fun v w' _ ⟨a, c, F, a2, c2, F2, a3, c3, F3, h1, h2⟩ => ⟨((a, c, F), (a2, c2, F2), (a3, c3, F3)), trivial, h1, h2⟩) hd hN (fun i _ => h i.1.1 i.1.2.1 i.1.2.2 i.2.1.1 i.2.1.2.1 i.2.1.2.2 i.2.2.1 i.2.2.2.1 i.2.2.2.2)
theorem ow_cM0 {c0 : Ch} {C : List Ch} (i : Nat) (ho : o.op = .call { callee := .value (.func f), args := xs.toArray, argTypes := ts }) (hb : hasBody P f) (hx : evs L xs = some vs) (hi : H[i]? = some c0)
    (hc : ∀ w, Hp w0 M H w → Ret P f vs w c0.F fun u w' => u = v ∧ NewM w w' c0.F C) (hd : o.dst = some d) (hN : Nat.blt d N = true) (h : KK K N ((d, v) :: L) w0 M (C ++ H.eraseIdx i)) : OW P o Q K N L w0 M H :=
  ow_cM (ι := Unit) (fun _ => v) (fun _ => C) (fun _ => True) ho hb hx hi (fun w hw => (hc w hw).mono fun v w' _ ⟨h1, h2⟩ => ⟨(), trivial, h1, h2⟩) hd hN (fun _ _ => h)
theorem ow_cM1 {c0 : Ch} {V : Option Addr → Nat → List Nat → Value} {C : Option Addr → Nat → List Nat → List Ch} (i : Nat) (ho : o.op = .call { callee := .value (.func f), args := xs.toArray, argTypes := ts }) (hb : hasBody P f) (hx : evs L xs = some vs) (hi : H[i]? = some c0)
    (hc : ∀ w, Hp w0 M H w → Ret P f vs w c0.F fun u w' => ∃ a c F, u = V a c F ∧ NewM w w' c0.F (C a c F)) (hd : o.dst = some d) (hN : Nat.blt d N = true) (h : ∀ a c F, KK K N ((d, V a c F) :: L) w0 M (C a c F ++ H.eraseIdx i)) : OW P o Q K N L w0 M H :=
  ow_cM (ι := Option Addr × Nat × List Nat) (fun i => V i.1 i.2.1 i.2.2) (fun i => C i.1 i.2.1 i.2.2) (fun _ => True) ho hb hx hi (fun w hw => (hc w hw).mono fun v w' _ ⟨a, c, F, h1, h2⟩ => ⟨(a, c, F), trivial, h1, h2⟩) hd hN (fun i _ => h i.1 i.2.1 i.2.2)
theorem ow_cM2 {c0 : Ch} {V : Option Addr → Nat → List Nat → Option Addr → Nat → List Nat → Value} {C : Option Addr → Nat → List Nat → Option Addr → Nat → List Nat → List Ch} (i : Nat) (ho : o.op = .call { callee := .value (.func f), args := xs.toArray, argTypes := ts }) (hb : hasBody P f) (hx : evs L xs = some vs) (hi : H[i]? = some c0)
    (hc : ∀ w, Hp w0 M H w → Ret P f vs w c0.F fun u w' => ∃ a c F a2 c2 F2, u = V a c F a2 c2 F2 ∧ NewM w w' c0.F (C a c F a2 c2 F2)) (hd : o.dst = some d) (hN : Nat.blt d N = true) (h : ∀ a c F a2 c2 F2, KK K N ((d, V a c F a2 c2 F2) :: L) w0 M (C a c F a2 c2 F2 ++ H.eraseIdx i)) : OW P o Q K N L w0 M H :=
  ow_cM (ι := (Option Addr × Nat × List Nat) × (Option Addr × Nat × List Nat)) (fun i => V i.1.1 i.1.2.1 i.1.2.2 i.2.1 i.2.2.1 i.2.2.2) (fun i => C i.1.1 i.1.2.1 i.1.2.2 i.2.1 i.2.2.1 i.2.2.2) (fun _ => True) ho hb hx hi
    (fun w hw => (hc w hw).mono fun v w' _ ⟨a, c, F, a2, c2, F2, h1, h2⟩ => ⟨((a, c, F), (a2, c2, F2)), trivial, h1, h2⟩) hd hN (fun i _ => h i.1.1 i.1.2.1 i.1.2.2 i.2.1 i.2.2.1 i.2.2.2)

/-! ## Ends -/

theorem NewC.sel {w w' : World} {H C : List Ch} (is : List Nat) (h : Hp w [] H w') (hs : selL H is = some C) : NewC w w' C :=
  have := h.sel is hs
  ⟨this.own, this.nd, fun b hb => (this.ge b hb).resolve_left (by simp)⟩
theorem NewM.sel {w w' : World} {M : List Nat} {H C : List Ch} (is : List Nat) (h : Hp w M H w') (hs : selL H is = some C) : NewM w w' M C :=
  have := h.sel is hs
  ⟨this.own, this.nd, this.ge⟩
end

/-- Where the results lie: in temporaries or in blocks of the call's own. -/
inductive RAt (T : Tab P) (N : Nat) (L : SL) (H : List Ch) : ResultVar → Value → Prop where
  | tmp {t : Tmp} {v : Value} (hv : ev L (.tmp t) = some v) : RAt T N L H (.tmp t) v
  | cellA {t : Tmp} {ty e g n by_ : Nat} {z : Value} {cs : List Value} (k : Nat) (hv : ev L (.tmp t) = some (.pointer (some ⟨g, 0, none⟩))) (hg : T.agg ty = some true)
      (hin : T.inf ty = some (z, n, by_)) (hi : H[k]? = some (blkC g e cs)) (hn : cs.length = n) : RAt T N L H (.cell t ty) (.agg cs.toArray)
  | cell1 {t : Tmp} {ty e g : Nat} {v : Value} (k : Nat) (hv : ev L (.tmp t) = some (.pointer (some ⟨g, 0, none⟩))) (hg : T.agg ty = some false)
      (hi : H[k]? = some (blkC g e [v])) : RAt T N L H (.cell t ty) v

def resAt (r : ResultVar) (tmps : Array Value) : Sem Value :=
  match r with
  | .tmp t => pure (tmps.getD t undef)
  | .cell a t => do loadVar t (← asAddr (tmps.getD a undef))

theorem RAt.run {r : ResultVar} (h : RAt T N L H r v) {a : Act} {w : World} (hF : Fr a N L) (hH : Hp w0 M H w) : (resAt r a.tmps).run P w = .ok v w := by
  cases h with
  | tmp hv => show (pure (a.tmps.getD _ undef) : Sem Value).run P w = _; rw [show a.tmps.getD _ undef = v from hF.ev hv]; rfl
  | @cellA t ty e g n by_ z cs k hv hg hin hi hn =>
    obtain ⟨ti, h1, _, h3, _⟩ := T.info hin
    have hl := run_loadN' T (a := ⟨g, 0, none⟩) hg h1 (w := w) (vs := cs) (h3.trans hn.symm) (fun j u hj => by
      rw [Addr.add_lit, blk_cell (hH.at hi)]; simpa using hj)
    have hp : a.tmps.getD t undef = .pointer (some ⟨g, 0, none⟩) := hF.ev hv
    have hp' : a.tmps[t]?.getD undef = .pointer (some ⟨g, 0, none⟩) := by simpa using hp
    simp [resAt, hp', asAddr, hl]
  | @cell1 t ty e g v k hv hg hi =>
    have hl := run_load1' T (a := ⟨g, 0, none⟩) hg (w := w) (v := v) ((blk_cell (hH.at hi) 0).trans rfl)
    have hp : a.tmps.getD t undef = .pointer (some ⟨g, 0, none⟩) := hF.ev hv
    have hp' : a.tmps[t]?.getD undef = .pointer (some ⟨g, 0, none⟩) := by simpa using hp
    simp [resAt, hp', asAddr, hl]

theorem results_eq (fn : Func) (tmps : Array Value) : results fn tmps = (do
  let vs ← fn.results.mapM fun r => resAt r tmps
  pure (if h : vs.size = 1 then vs[0] else .tuple vs)) := by
  unfold results
  congr 1

theorem ex_r1 {fn : Func} {r : ResultVar} {R : Ending → World → Prop} (hr : fn.results = #[r]) (h1 : RAt T N L H r v) (h : ∀ w, Hp w0 M H w → R (.returned v) w) : EX (bodyPost P fn R) .ret N L w0 M H :=
  .mk fun a w hF hH => bodyPost_ret (v := v) (w := w) (by simp [results_eq, hr, h1.run T hF hH]) hF.dfr (h w hH)
theorem ex_r2 {fn : Func} {r r2 : ResultVar} {v2 : Value} {R : Ending → World → Prop} (hr : fn.results = #[r, r2]) (h1 : RAt T N L H r v) (h2 : RAt T N L H r2 v2) (h : ∀ w, Hp w0 M H w → R (.returned (.tuple #[v, v2])) w) : EX (bodyPost P fn R) .ret N L w0 M H :=
  .mk fun a w hF hH => bodyPost_ret (v := .tuple #[v, v2]) (w := w) (by simp [results_eq, hr, h1.run T hF hH, h2.run T hF hH]) hF.dfr (h w hH)
theorem ex_r3 {fn : Func} {r r2 r3 : ResultVar} {v2 v3 : Value} {R : Ending → World → Prop} (hr : fn.results = #[r, r2, r3]) (h1 : RAt T N L H r v) (h2 : RAt T N L H r2 v2) (h3 : RAt T N L H r3 v3) (h : ∀ w, Hp w0 M H w → R (.returned (.tuple #[v, v2, v3])) w) : EX (bodyPost P fn R) .ret N L w0 M H :=
  .mk fun a w hF hH => bodyPost_ret (v := .tuple #[v, v2, v3]) (w := w) (by simp [results_eq, hr, h1.run T hF hH, h2.run T hF hH, h3.run T hF hH]) hF.dfr (h w hH)
theorem ex_r4 {fn : Func} {r r2 r3 r4 : ResultVar} {v2 v3 v4 : Value} {R : Ending → World → Prop} (hr : fn.results = #[r, r2, r3, r4]) (h1 : RAt T N L H r v) (h2 : RAt T N L H r2 v2) (h3 : RAt T N L H r3 v3) (h4 : RAt T N L H r4 v4) (h : ∀ w, Hp w0 M H w → R (.returned (.tuple #[v, v2, v3, v4])) w) : EX (bodyPost P fn R) .ret N L w0 M H :=
  .mk fun a w hF hH => bodyPost_ret (v := .tuple #[v, v2, v3, v4]) (w := w) (by simp [results_eq, hr, h1.run T hF hH, h2.run T hF hH, h3.run T hF hH, h4.run T hF hH]) hF.dfr (h w hH)
end

end Go.Proofs.YtacecnffggffmaaDoor
