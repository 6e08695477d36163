/- The library's numbers and words at this program, in the words of the walks: the kit's contracts, laid at this program. -/
import Derived.Test.YtibjdlpfejdedaaDoorQ
import Derived.Test.YtibjdlpfejdedaaDoorShelf
import Derived.Lib.SplitLaws
set_option linter.all false
namespace Go.Proofs.YtibjdlpfejdedaaDoor
open Go.RowKit Go.Sort

def errV (b : Bool) (z : Value) : Prop := (b = true ∧ z = .nilIface) ∨ (b = false ∧ ∃ t p, z = .iface t p)

section
variable {P : Program} (T : Tab P) {Q : Exit → Act → World → Prop} {N : Nat} {L : SL} {w0 : World} {M : List Nat} {H Hs : List Ch} {o : Oper} {K : Act → World → Prop} {d : Nat} {v : Value}
theorem NewC.none (w w' : World) : NewC w w' [] := ⟨by simp, by simp [ff], by simp [ff]⟩
theorem ow_cE {f : FuncId} {xs : List Operand} {ts : Array TypeId} {vs : List Value} (V : Value → Value) (b : Bool) (ho : o.op = .call { callee := .value (.func f), args := xs.toArray, argTypes := ts }) (hb : hasBody P f) (hx : evs L xs = some vs)
    (hc : ∀ w, Hp w0 M H w → Ret P f vs w [] fun u _ => ∃ z, u = V z ∧ errV b z) (hd : o.dst = some d) (hN : Nat.blt d N = true) (h : ∀ z, errV b z → KK K N ((d, V z) :: L) w0 M H) : OW P o Q K N L w0 M H :=
  ow_callN V (fun _ => []) (errV b) (first := #[]) (captured := #[]) ho rfl hb hx (by simp) (fun w hw => (hc w hw).mono fun u w' _ ⟨z, h1, h2⟩ => ⟨z, h2, h1, NewC.none w w'⟩) hd hN h
def chkIf (P : Program) (t : TypeId) : Bool := match P.underlying t with | some (.interface _) => true | _ => false
theorem chkIf_ok {P : Program} {t : TypeId} (h : chkIf P t = true) : ∃ ms, P.underlying t = some (.interface ms) := by
  unfold chkIf at h
  split at h
  · rename_i ms h1; exact ⟨ms, h1⟩
  · cases h
theorem yh_errN {t u : TypeId} {x : Operand} {b : Bool} {z : Value} (hz : errV b z) (ho : o.op = .binOp .neq t x (.const .nilIface) u) (hx : ev L x = some z) (hc : chkIf P t = true) : YH P o (.bool !b) N L w0 M H := .mk fun a w hF hH => by
  have hE : a.eval (.const .nilIface) = .nilIface := rfl
  obtain ⟨ms, hm⟩ := chkIf_ok hc
  have hd : ∃ d, Op.maxDepth = d + 1 := ⟨Op.maxDepth - 1, rfl⟩
  obtain ⟨dd, hd⟩ := hd
  rcases hz with ⟨rfl, rfl⟩ | ⟨rfl, ty, p, rfl⟩
  · simp [execOp, ho, hF.ev hx, hE, binOp, eqGuard_nil_constR, Op.equal, hd, Op.equalIn, run_underlying hm]
  · simp [execOp, ho, hF.ev hx, hE, binOp, eqGuard_at_iface, Op.equal, hd, Op.equalIn, run_underlying hm]
end

theorem extM_below {w w' : World} (h : Below w.heap.size w w') : ExtM [] w w' := ⟨h.os, h.tape, h.output, h.size, fun b hb _ => h.block b hb⟩
theorem extM_grow (w : World) (k : Nat) (os : Array Obj) : ExtM [] w (grow (w.drewN k) os) := by
  have hh : (grow (w.drewN k) os).heap = w.heap ++ os := rfl
  refine ⟨rfl, rfl, rfl, by rw [hh]; simp, fun b hb _ => ?_⟩
  rw [hh, Array.getElem?_append, if_pos hb]

def m_strconv_Itoa (N : Nat) (i : Int) : Option Str := if -9223372036854775808 ≤ i ∧ i ≤ 9223372036854775807 then some ⟨(Lib.itoa i).toArray⟩ else none
theorem c_strconv_Itoa (N : Nat) (i : Int) (res : Str) (h : m_strconv_Itoa N i = some res) (w : World) (hG : globL.rd w [] [] ()) : Ret Tryd.prog 18 [.int .i64 i] w [] fun v w' => v = .string res := by
  unfold m_strconv_Itoa at h
  split at h
  · rename_i hi
    obtain rfl := Option.some.inj h
    refine Calls.mono (Tryd.strconv_Itoa i hi.1 hi.2 w hG.2.tab) ?_
    rintro e w' ⟨rfl, k, os, rfl⟩
    exact ⟨_, rfl, extM_grow w k os, rfl⟩
  · cases h

def m_strconv_Atoi (N : Nat) (s : Str) : Option (Int × Bool) := if s.size ≤ 281474976710656 then (match Lib.atoiAll s.data.toList with
  | .ok v => some (v, true)
  | .range => some (Lib.atoiSat s.data.toList, false)
  | _ => some (0, false)) else none
theorem extM_bytes (w : World) (e : TypeId) (s : ByteArray) : ExtM [] w (Lib.bytesWorld w e s) := by
  refine ⟨rfl, rfl, rfl, ?_, fun b hb _ => ?_⟩
  · unfold Lib.bytesWorld World.freeze World.alloc World.drew
    simp
  · have hne : b ≠ w.heap.size := by omega
    unfold Lib.bytesWorld World.freeze World.alloc World.drew
    simp [Array.getElem?_push, hne, Array.getElem?_modify, Ne.symm hne]
theorem c_strconv_Atoi (N : Nat) (s : Str) (res : Int × Bool) (h : m_strconv_Atoi N s = some res) (w : World) (hG : globL.rd w [] [] ()) : Ret Tryd.prog 26 [.string s] w [] fun v w' => ∃ z, v = .tuple #[.int .i64 res.1, z] ∧ errV res.2 z := by
  unfold m_strconv_Atoi at h
  split at h
  · rename_i hs
    split at h
    · rename_i v hv
      obtain rfl := Option.some.inj h
      refine Calls.mono (Tryd.strconv_Atoi_ok s (by omega) v hv w) ?_
      rintro e w' ⟨rfl, hw⟩
      refine ⟨_, rfl, ?_, _, rfl, .inl ⟨rfl, rfl⟩⟩
      rcases hw with rfl | ⟨t, rfl⟩
      · exact ExtM.refl _ _
      · exact extM_bytes _ _ _
    · rename_i hv
      obtain rfl := Option.some.inj h
      obtain ⟨ev, h1, h2⟩ := hG.2.er
      refine Calls.mono (Tryd.strconv_Atoi_range s hs hv ev w (h1.2 0 ev rfl) h2) ?_
      rintro e w' ⟨n, rfl, _, _, hb⟩
      exact ⟨_, rfl, extM_below hb, _, rfl, .inr ⟨rfl, _, _, rfl⟩⟩
    · rename_i hv hv2
      obtain rfl := Option.some.inj h
      obtain ⟨ev, h1, h2⟩ := hG.2.es
      refine Calls.mono (Tryd.strconv_Atoi_syntax s hs hv hv2 ev w (h1.2 0 ev rfl) h2) ?_
      rintro e w' ⟨n, rfl, _, _, hb⟩
      exact ⟨_, rfl, extM_below hb, _, rfl, .inr ⟨rfl, _, _, rfl⟩⟩
  · cases h

theorem map_flat : ∀ l : List Str, l.map Value.string = l.flatMap fun s => [Value.string s]
  | [] => rfl
  | s :: l => by rw [List.map_cons, List.flatMap_cons, ← map_flat l]; rfl
def m_strings_Split (N : Nat) (s sep : Str) : Option (List Str) := if s.size < 4294967281 ∧ 1 ≤ sep.size ∧ Lib.countB s sep + 1 ≤ 4000000000 then some (Lib.splitB sep 0 (Lib.countB s sep) s) else none
theorem c_strings_Split (N : Nat) (s sep : Str) (res : List Str) (h : m_strings_Split N s sep = some res) (w : World) (hG : globL.rd w [] [] ()) : Ret Tryd.prog 25 [.string s, .string sep] w [] fun v w' => ∃ a1 c1 F1, v = .slice a1 res.length c1 ∧ NewC w w' [owC strsL F1 [.slice a1 res.length c1] res] := by
  unfold m_strings_Split at h
  split at h
  · rename_i hs
    obtain rfl := Option.some.inj h
    obtain ⟨m, h1⟩ := hG.2.mx
    refine Calls.mono (Tryd.strings_Split s sep m w hs.1 (h1.2 0 _ rfl) hs.2.1) ?_
    rintro e w' ⟨rfl, rfl⟩
    have hl := Lib.splitB_all sep hs.2.1 0 (Lib.countB s sep) s rfl
    refine ⟨_, rfl, ExtM.alloc w _, some ⟨w.heap.size, 0, none⟩, Lib.countB s sep + 1, [w.heap.size], by rw [hl], ?_, by simp [ff, owC], by simp [ff, owC]⟩
    intro c hc
    simp only [List.mem_singleton] at hc
    subst hc
    have hb : (blkC w.heap.size 9 ((Lib.splitB sep 0 (Lib.countB s sep) s).map Value.string)).A (w.alloc (.cells ((Lib.splitB sep 0 (Lib.countB s sep) s).map Value.string).toArray 9)) := heap_alloc_new w _
    refine own_row.2 ⟨_, hb, rfl, by rw [hl]; exact Nat.le_refl _, by simp only [maxLen]; omega, ?_, ?_, rfl⟩
    · rw [List.length_map, hl]; exact (Nat.mul_one _).symm
    · rw [show (Lib.splitB sep 0 (Lib.countB s sep) s).length * 1 = ((Lib.splitB sep 0 (Lib.countB s sep) s).map Value.string).length by simp, List.take_length]
      exact map_flat _
  · cases h
end Go.Proofs.YtibjdlpfejdedaaDoor
