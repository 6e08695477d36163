/- A map of strings to true: a key is put that may be there. -/
import Derived.Test.YtmnhnldnnniglaaH
import Derived.LoopN
set_option linter.all false
namespace Go.Proofs.Ytmnhnldnnniglaa
open Go.RowKit

def addS (ks : List ByteArray) (s : ByteArray) : List ByteArray := bif ks.any (fun u => seq u s) then ks else ks ++ [s]

theorem findNow_at : ∀ (es : List MapEntry) (ks : List ByteArray) (k : ByteArray) (i : Nat), es.map (fun e => (e.key, e.val)) = ks.map (fun s => (Value.string s, Value.bool true)) →
    ks.any (fun s => seq s k) = true → ∃ j, Instr.findNow .string (.string k) es i = some (some (i + j, .bool true)) ∧ ∃ e, es[j]? = some e ∧ e.key = .string k
  | [], [], k, i, _, h => by simp at h
  | [], _ :: _, k, i, h, _ => by simp at h
  | _ :: _, [], k, i, h, _ => by simp at h
  | e :: es, s :: ks, k, i, h, ha => by
    simp only [List.map_cons, List.cons.injEq, Prod.mk.injEq] at h
    obtain ⟨⟨hk, hv⟩, hr⟩ := h
    have hs : Instr.sameNow .string (.string k) e.key = some (k == s) := by rw [hk]; rfl
    by_cases hks : k = s
    · subst hks
      have hbb : (k == k) = true := (Go.MapKept.bytes_beq k k).2 rfl
      exact ⟨0, by simp [Instr.findNow, hs, hv, hbb], e, rfl, hk⟩
    · have h1 : seq s k = false := by
        cases hb : seq s k with
        | false => rfl
        | true =>
          unfold seq at hb
          rw [ByteArray.toList_eq, ByteArray.toList_eq, beq_iff_eq] at hb
          exact absurd (by cases k; cases s; simp at hb; rw [hb]) hks
      have h2 : (k == s) = false := by
        rw [← Bool.not_eq_true, Go.MapKept.bytes_beq]; exact hks
      rw [List.any_cons, h1, Bool.false_or] at ha
      obtain ⟨j, h3, e', h4, h5⟩ := findNow_at es ks k (i + 1) hr ha
      refine ⟨j + 1, ?_, e', by simpa using h4, h5⟩
      simp [Instr.findNow, hs, h2, h3]
      omega

section
variable {P : Program} (T : Tab P) {Q : Exit → Act → World → Prop} {N : Nat} {L : SL} {w0 : World} {M : List Nat} {H : List Ch} {o : Oper} {K : Act → World → Prop} {d : Nat}

theorem ow_putSetA {t : TypeId} {x y z : Operand} {r i : Nat} {s : ByteArray} {ks : List ByteArray} (ho : o.op = .mapUpdate t x y z) (hx : ev L x = some (.map (some r))) (hy : ev L y = some (.string s)) (hz : ev L z = some (.bool true)) (hi : H[i]? = some (mapC r ks))
    (hm : chkMap P t = true) (hd : o.dst = none) (h : KK K N L w0 M (mapC r (addS ks s) :: H.eraseIdx i)) : OW P o Q K N L w0 M H := by
  cases hnew : ks.any (fun u => seq u s) with
  | false =>
    have e : addS ks s = ks ++ [s] := by unfold addS; rw [hnew]; rfl
    rw [e] at h
    exact ow_putSet ho hx hy hz hi hm hnew hd h
  | true =>
    have e : addS ks s = ks := by unfold addS; rw [hnew]; rfl
    rw [e] at h
    refine .mk fun a w hF hH => ?_
    obtain ⟨k, e, ti, h1, h2, h3, h4⟩ := chkMap_ok hm
    obtain ⟨es, clock, hh, hes⟩ := hH.at hi
    obtain ⟨j, hj, en, hen, hek⟩ := findNow_at es.toList ks s 0 hes hnew
    rw [Nat.zero_add] at hj
    have hget : (getObj r).run P w = .ok (.map es clock) w := by simp [getObj, Sem.run, hh]
    have hfk : (Instr.findKey k (.string s) es.toList).run P w = .ok (some (j, .bool true)) w := by
      simp [Instr.findKey, run_underlying h2, hj]
    have hlt : r < w.heap.size := (Array.getElem?_eq_some_iff.1 hh).1
    have hen2 : es[j]? = some en := by simpa using hen
    have hset : (setObj r (.map (es.modify j fun e => { e with key := .string s, val := .bool true }) clock)).run P w = .ok () { w with heap := w.heap.setIfInBounds r (.map (es.modify j fun e => { e with key := .string s, val := .bool true }) clock) } := by
      simp [setObj, Sem.run, hh]
    have hks : (Instr.keyThatStays (((es[j]?).map (·.key)).getD (.string s)) (.string s)).run P w = .ok (.string s) w := by
      rw [hen2]
      have hsb : Instr.sameBits 10000 (.string s) (.string s) = true := by
        rw [show (10000 : Nat) = 9999 + 1 from rfl, Instr.sameBits]
        exact (Go.MapKept.bytes_beq s s).2 rfl
      simp [Instr.keyThatStays, hek, hsb]
    have hr : (execOp a.eval o).run P w = .ok .skip { w with heap := w.heap.setIfInBounds r (.map (es.modify j fun e => { e with key := .string s, val := .bool true }) clock) } := by
      simp [execOp, ho, hF.ev hx, hF.ev hy, hF.ev hz, Instr.mapUpdate, run_underlying h1, hget, run_checkStr h2, hfk, hks, hset]
    unfold Oper.wp
    rw [hr]
    show K (a.put o.dst _) _
    rw [hd]
    refine h.go _ _ hF ?_
    have hfront : Hp w0 M ([mapC r ks] ++ H.eraseIdx i) w := hH.front hi
    refine hfront.mod (C' := [mapC r ks]) ⟨rfl, rfl, rfl, by simp, fun b _ hb => ?_⟩ ?_ (by simp [ff, mapC]) (by simp [ff, mapC])
    · have hne : r ≠ b := fun e' => hb (by subst e'; simp [ff, mapC])
      simp [Array.getElem?_setIfInBounds_ne hne]
    · intro c hc
      simp only [List.mem_singleton] at hc
      subst hc
      refine ⟨es.modify j fun e => { e with key := .string s, val := .bool true }, clock, ?_, ?_⟩
      · simp [hlt]
      · rw [← hes]
        apply List.ext_getElem?
        intro q
        simp only [List.getElem?_map, Array.getElem?_toList, Array.getElem?_modify]
        by_cases hq : j = q
        · subst hq
          have hv : en.val = .bool true := by
            have := congrArg (fun l => l[j]?) hes
            simp only [List.getElem?_map, Array.getElem?_toList, hen2, Option.map_some] at this
            cases hk2 : ks[j]? with
            | none => rw [hk2] at this; cases this
            | some u => rw [hk2] at this; injection this with this; exact (Prod.mk.inj this).2
          rw [if_pos rfl, hen2]
          simp [hek, hv]
        · rw [if_neg hq]
/-- A loop of few rounds: one behind the other. -/
theorem cw_unroll (n : Nat) {c : Code} (h : CW P c (Exit.then (Code.rounds P c Q n) Q) N L w0 M H) : CW P (.loop c) Q N L w0 M H := ⟨fun a w hF hH => wp_loop_rounds (n + 1) (h.go a w hF hH)⟩
theorem ex_unroll {n : Nat} {c : Code} (h : CW P c (Exit.then (Code.rounds P c Q n) Q) N L w0 M H) : EX (Exit.then (Code.rounds P c Q (n + 1)) Q) .normal N L w0 M H := .mk h.go
/-- A map's literal puts its keys as an update does. -/
theorem ow_insert {t : TypeId} {x y z : Operand} (ho : o.op = .insert t x y z) (h : OW P { o with op := .mapUpdate t x y z } Q K N L w0 M H) : OW P o Q K N L w0 M H := .mk fun a w hF hH => by
  have h1 := h.go a w hF hH
  unfold Oper.wp at h1 ⊢
  have e : execOp a.eval o = execOp a.eval { o with op := .mapUpdate t x y z } := by simp [execOp, ho]
  rw [e]
  exact h1
end
end Go.Proofs.Ytmnhnldnnniglaa
