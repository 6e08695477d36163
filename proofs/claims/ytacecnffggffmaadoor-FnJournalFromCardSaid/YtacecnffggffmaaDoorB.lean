/- A builder of texts that a call owns, and the cut of a text, in the words of the walks: the kit's contracts, laid at this program. -/
import Derived.Test.YtacecnffggffmaaDoorBW
set_option linter.all false
namespace Go.Proofs.YtacecnffggffmaaDoor
open Go.RowKit

def m_strings_Cut (N : Nat) (s sep : Str) : Option (Str × Str × Bool) := if s.size < 4294967281 then some (⟨(Lib.cut s.data.toList sep.data.toList).1.toArray⟩, ⟨(Lib.cut s.data.toList sep.data.toList).2.1.toArray⟩, (Lib.cut s.data.toList sep.data.toList).2.2) else none
theorem c_strings_Cut (N : Nat) (s sep : Str) (res : Str × Str × Bool) (h : m_strings_Cut N s sep = some res) (w : World) (hG : globL.rd w [] [] ()) : Ret Tryd.prog 30 [.string s, .string sep] w [] fun v w' => v = .tuple #[.string res.1, .string res.2.1, .bool res.2.2] := by
  unfold m_strings_Cut at h
  split at h
  · rename_i hs
    obtain rfl := Option.some.inj h
    obtain ⟨m, h1⟩ := hG.2.mx
    refine Calls.mono (Tryd.strings_Cut s sep m w hs (h1.2 0 _ rfl)) ?_
    rintro e w' ⟨rfl, n, rfl⟩
    exact ⟨_, rfl, ⟨rfl, rfl, rfl, Nat.le_refl _, fun _ _ _ => rfl⟩, rfl⟩
  · cases h

abbrev tBld : TypeId := 43
abbrev tByt : TypeId := 5
def bcat (s t : Str) : Option Str := if s.size + t.size ≤ 140737488355328 then some (s ++ t) else none
theorem strCells_append (s t : Str) : Lib.strCells s ++ Lib.strCells t = Lib.strCells (s ++ t) := by
  unfold Lib.strCells
  rw [ByteArray.data_append, Array.toList_append, List.map_append]

def bldC (b : Nat) (F : List Nat) (s : Str) : Ch where
  A := fun w => ∃ p v, (p = .pointer none ∨ p = .pointer (some ⟨b, 0, none⟩)) ∧ w.heap[b]? = some (.cells #[p, v] tBld (0, 0)) ∧ w.ownsRowF 0 tByt 1 v (Lib.strCells s).length (Lib.strCells s) ∧ F = b :: v.ownBlock.toList
  F := F
  stb := fun w w' h ⟨p, v, h1, h2, h3, h4⟩ => by
    subst h4
    refine ⟨p, v, h1, (h b (by simp)).trans h2, ⟨h3.1, ?_⟩, rfl⟩
    rcases h3.2 with h5 | ⟨g, cap, cur, fz, rfl, h5, h6, h7⟩
    · exact .inl h5
    · exact .inr ⟨g, cap, cur, fz, rfl, h5, (h g (by simp [Value.ownBlock])).trans h6, h7⟩
  lt := fun w ⟨p, v, h1, h2, h3, h4⟩ c hc => by
    subst h4
    rcases List.mem_cons.1 hc with rfl | hc
    · exact (Array.getElem?_eq_some_iff.1 h2).1
    · rcases h3.2 with ⟨rfl, _⟩ | ⟨g, cap, cur, fz, rfl, h5, h6, h7⟩
      · simp [Value.ownBlock] at hc
      · simp [Value.ownBlock] at hc
        subst hc
        exact (Array.getElem?_eq_some_iff.1 h6).1

theorem bld_new {w : World} {b : Nat} (h : (blkC b tBld [.pointer none, .slice none 0 0]).A w) : (bldC b [b] (⟨#[]⟩ : Str)).A w :=
  ⟨_, _, .inl rfl, h, World.ownsRowF_nil w 0 tByt 1, rfl⟩

section
variable {Q : Exit → Act → World → Prop} {N : Nat} {L : SL} {w0 : World} {H : List Ch} {o : Oper} {K : Act → World → Prop} {d : Nat}

theorem bld_open {w : World} {b i : Nat} {F : List Nat} {s : Str} (h : Hp w0 [] H w) (hi : H[i]? = some (bldC b F s)) : Lib.IsBuilderF tBld tByt w0.heap.size b (Lib.strCells s) w := by
  obtain ⟨p, v, h1, h2, h3, h4⟩ := h.at hi
  have hge : ∀ x ∈ F, w0.heap.size ≤ x := fun x hx => (h.ge x (mem_ff.2 ⟨_, List.mem_of_getElem? hi, hx⟩)).resolve_left (by simp)
  have hnd : F.Nodup := h.ndAt hi
  have hA : Lib.BuilderAtF tBld tByt w0.heap.size b p (Lib.strCells s) w := by
    refine ⟨hge b (by simp [h4]), v, h2, ⟨h3.1, ?_⟩, fun e => ?_⟩
    · rcases h3.2 with h5 | ⟨g, cap, cur, fz, rfl, h5, h6, h7⟩
      · exact .inl h5
      · exact .inr ⟨g, cap, cur, fz, rfl, hge g (by simp [h4, Value.ownBlock]), h6, h7⟩
    · rw [h4, e] at hnd
      simp at hnd
  rcases h1 with rfl | rfl
  · exact .inl hA
  · exact .inr hA
theorem bld_close {w : World} {B b : Nat} {s : Str} (h : Lib.IsBuilderF tBld tByt B b (Lib.strCells s) w) : ∃ F, (bldC b F s).A w ∧ F.Nodup ∧ ∀ x ∈ F, B ≤ x := by
  obtain ⟨p, hp, hB, v, h1, h2, h3⟩ : ∃ p, (p = .pointer none ∨ p = .pointer (some ⟨b, 0, none⟩)) ∧ Lib.BuilderAtF tBld tByt B b p (Lib.strCells s) w := by
    rcases h with h | h
    · exact ⟨_, .inl rfl, h⟩
    · exact ⟨_, .inr rfl, h⟩
  refine ⟨b :: v.ownBlock.toList, ⟨p, v, hp, h1, ⟨h2.1, ?_⟩, rfl⟩, ?_, fun x hx => ?_⟩
  · rcases h2.2 with h5 | ⟨g, cap, cur, fz, rfl, h5, h6, h7⟩
    · exact .inl h5
    · exact .inr ⟨g, cap, cur, fz, rfl, Nat.zero_le _, h6, h7⟩
  · cases hv : v.ownBlock with
    | none => simp
    | some g =>
      rw [hv] at h3
      simp only [Option.toList_some, List.nodup_cons, List.mem_singleton, List.not_mem_nil, not_false_eq_true, List.nodup_nil, and_true]
      exact fun e => h3 (by rw [e])
  · rcases List.mem_cons.1 hx with rfl | hx
    · exact hB
    · rcases h2.2 with ⟨rfl, _⟩ | ⟨g, cap, cur, fz, rfl, h5, h6, h7⟩
      · simp [Value.ownBlock] at hx
      · simp [Value.ownBlock] at hx
        subst hx
        exact h5
theorem bld_hp {w w' : World} {b : Nat} {s : Str} (h : Hp w0 [] H w) (hb : Below w0.heap.size w w') (hB : Lib.IsBuilderF tBld tByt w0.heap.size b (Lib.strCells s) w') : ∃ F, Hp w0 [] [bldC b F s] w' := by
  obtain ⟨F, h1, h2, h3⟩ := bld_close hB
  have e : ff [bldC b F s] = F := by simp [ff, bldC]
  refine ⟨F, ⟨⟨hb.os.trans h.ext.os, hb.tape.trans h.ext.tape, hb.output.trans h.ext.output, Nat.le_trans h.ext.size hb.size, fun k hk hn => (hb.block k hk).trans (h.ext.block k hk hn)⟩, fun c hc => ?_, by rw [e]; exact h2, fun k hk => .inr (h3 k (by rw [e] at hk; exact hk))⟩⟩
  rw [List.mem_singleton.1 hc]
  exact h1

/-- A text is written. -/
theorem ow_bldW {xs : List Operand} {ts : Array TypeId} {b : Nat} {F : List Nat} {s t u : Str} (i : Nat) (ho : o.op = .call { callee := .value (.func 25), args := xs.toArray, argTypes := ts }) (hb : hasBody Tryd.prog 25) (hx : evs L xs = some [.pointer (some ⟨b, 0, none⟩), .string t])
    (hi : H[i]? = some (bldC b F s)) (hl : bcat s t = some u) (hd : o.dst = some d) (hN : Nat.blt d N = true) (h : ∀ F', KK K N ((d, .tuple #[.int .i64 ((t.size : Nat) : Int), .nilIface]) :: L) w0 [] [bldC b F' u]) : OW Tryd.prog o Q K N L w0 [] H := .mk fun a w hF hH => by
  have hargs : xs.toArray.map a.eval = #[.pointer (some ⟨b, 0, none⟩), .string t] := by
    rw [List.map_toArray, hF.evs hx]
  have hr : (execOp a.eval o).run Tryd.prog w = .ok (.enter 25 #[.pointer (some ⟨b, 0, none⟩), .string t]) w := by
    simp only [execOp, ho, resolve, Act.eval, Deferred.ofValue, Sem.run_bind, Sem.run_pure, Result.andThen_ok, invoke]
    rw [show (#[] ++ xs.toArray.map a.eval) ++ #[] = #[.pointer (some ⟨b, 0, none⟩), .string t] by rw [hargs]; rfl]
    exact run_callFunc hb w
  unfold bcat at hl
  split at hl
  · rename_i hsz
    obtain rfl := Option.some.inj hl
    unfold Oper.wp
    rw [hr]
    refine Calls.mono (bld_write w0.heap.size b (Lib.strCells s) t w (bld_open hH hi) (by rw [Lib.strCells_length]; exact hsz) hH.ext.size) ?_
    rintro e w' ⟨rfl, hB, hbl⟩
    rw [strCells_append] at hB
    obtain ⟨F', h1⟩ := bld_hp hH hbl (.inr hB)
    show K (a.put o.dst _) w'
    rw [hd]
    exact (h F').go _ _ (hF.put _ hN) h1
  · cases hl
/-- The text is taken. -/
theorem ow_bldS {xs : List Operand} {ts : Array TypeId} {b : Nat} {F : List Nat} {s : Str} (i : Nat) (ho : o.op = .call { callee := .value (.func 26), args := xs.toArray, argTypes := ts }) (hb : hasBody Tryd.prog 26) (hx : evs L xs = some [.pointer (some ⟨b, 0, none⟩)])
    (hi : H[i]? = some (bldC b F s)) (hd : o.dst = some d) (hN : Nat.blt d N = true) (h : ∀ F', KK K N ((d, .string s) :: L) w0 [] [bldC b F' s]) : OW Tryd.prog o Q K N L w0 [] H := .mk fun a w hF hH => by
  have hargs : xs.toArray.map a.eval = #[.pointer (some ⟨b, 0, none⟩)] := by
    rw [List.map_toArray, hF.evs hx]
  have hr : (execOp a.eval o).run Tryd.prog w = .ok (.enter 26 #[.pointer (some ⟨b, 0, none⟩)]) w := by
    simp only [execOp, ho, resolve, Act.eval, Deferred.ofValue, Sem.run_bind, Sem.run_pure, Result.andThen_ok, invoke]
    rw [show (#[] ++ xs.toArray.map a.eval) ++ #[] = #[.pointer (some ⟨b, 0, none⟩)] by rw [hargs]; rfl]
    exact run_callFunc hb w
  unfold Oper.wp
  rw [hr]
  refine Calls.mono (Tryd.Builder_String_any_k w0.heap.size b s.data.toList w (bld_open hH hi) hH.ext.size) ?_
  rintro e w' ⟨rfl, hB, hbl, _⟩
  obtain ⟨F', h1⟩ := bld_hp (s := s) hH hbl hB
  show K (a.put o.dst _) w'
  rw [hd]
  exact (h F').go _ _ (hF.put _ hN) h1
end
end Go.Proofs.YtacecnffggffmaaDoor
