/- More rules: quotients, conversions, structs, calls that write a piece. -/
import Derived.Test.YtacecnffggffmaaDoorOwn
set_option linter.all false
namespace Go.Proofs.YtacecnffggffmaaDoor
open Go.RowKit

section
variable {P : Program} (T : Tab P) {Q : Exit → Act → World → Prop} {N : Nat} {L : SL} {w0 : World} {M : List Nat} {H : List Ch} {o : Oper} {K : Act → World → Prop} {d : Nat} {v : Value}

theorem yh_nilCheck {x : Operand} {a : Addr} (ho : o.op = .nilCheck x) (hx : ev L x = some (.pointer (some a))) : YH P o (.pointer (some a)) N L w0 M H := .mk fun ac w hF hH => by
  simp [execOp, ho, hF.ev hx]

/-- Both not below zero, the divisor above zero. -/
theorem yh_rem {t u : TypeId} {x y : Operand} {m n : Int} (a b : Nat) (ho : o.op = .binOp .rem t x y u) (hx : ev L x = some (.int .i64 m)) (hy : ev L y = some (.int .i64 n)) (hm : m = (a : Int)) (hn : n = (b : Int)) (h0 : 0 < b) :
    YH P o (.int .i64 ((a % b : Nat) : Int)) N L w0 M H := .mk fun ac w hF _ => by
  subst hm
  subst hn
  have h1 : b ≠ 0 := by omega
  simp [execOp, ho, hF.ev hx, hF.ev hy, eqGuard_at_int, binOp_rem, Op.intDiv, h1]
  rw [Int.tmod_eq_emod_of_nonneg (by omega)]

theorem yh_quo {t u : TypeId} {x y : Operand} {m n : Int} (a b : Nat) (ho : o.op = .binOp .quo t x y u) (hx : ev L x = some (.int .i64 m)) (hy : ev L y = some (.int .i64 n)) (hm : m = (a : Int)) (hn : n = (b : Int)) (h0 : 0 < b) (ha : a ≤ 9223372036854775807) :
    YH P o (.int .i64 ((a / b : Nat) : Int)) N L w0 M H := .mk fun ac w hF _ => by
  subst hm
  subst hn
  have h1 : b ≠ 0 := by omega
  have h2 : a / b ≤ a := Nat.div_le_self _ _
  have hw := IntWalk.i64_in ((a / b : Nat) : Int) (by generalize a / b = q at *; omega)
  rw [Int.natCast_ediv] at hw
  simp [execOp, ho, hF.ev hx, hF.ev hy, eqGuard_at_int, binOp_quo, Op.intDiv, h1, hw]

theorem yh_xor {t u : TypeId} {x y : Operand} {m n : Int} (a b : Nat) (ho : o.op = .binOp .xor t x y u) (hx : ev L x = some (.int .i64 m)) (hy : ev L y = some (.int .i64 n)) (hm : m = (a : Int)) (hn : n = (b : Int)) (ha : a < 9223372036854775808) (hb : b < 9223372036854775808) :
    YH P o (.int .i64 ((a ^^^ b : Nat) : Int)) N L w0 M H := .mk fun ac w hF _ => by
  subst hm
  subst hn
  have hx63 : a ^^^ b < 2 ^ 63 := Nat.xor_lt_two_pow (by omega) (by omega)
  have hw := IntWalk.i64_in ((a ^^^ b : Nat) : Int) ⟨by omega, by omega⟩
  have hbv : (BitVec.ofInt IntKind.i64.bits (a : Int) ^^^ BitVec.ofInt IntKind.i64.bits (b : Int)).toNat = a ^^^ b := by
    rw [BitVec.toNat_xor]
    simp only [BitVec.toNat_ofInt, IntKind.bits]
    have e1 : ((a : Int) % ((2 ^ 64 : Nat) : Int)).toNat = a := by omega
    have e2 : ((b : Int) % ((2 ^ 64 : Nat) : Int)).toNat = b := by omega
    rw [e1, e2]
  simp only [execOp, ho, hF.ev hx, hF.ev hy, eqGuard_at_int, binOp_xor, Op.intBits, hbv, hw]
  rfl

def chkConv (P : Program) (s t : Nat) : Bool :=
  match P.underlying s, P.underlying t with
  | some (.int _), some (.int .i64) => true
  | _, _ => false

theorem chkConv_ok {s t : Nat} (h : chkConv P s t = true) : ∃ k, P.underlying s = some (.int k) ∧ P.underlying t = some (.int .i64) := by
  unfold chkConv at h
  split at h
  · rename_i k h1 h2; exact ⟨k, h1, h2⟩
  · cases h

theorem yh_conv {s t : TypeId} {x : Operand} {k : IntKind} {n : Int} (ho : o.op = .convert s t x) (hx : ev L x = some (.int k n)) (hc : chkConv P s t = true) (hfit : -9223372036854775808 ≤ n ∧ n ≤ 9223372036854775807) :
    YH P o (.int .i64 n) N L w0 M H := .mk fun ac w hF _ => by
  obtain ⟨k', h1, h2⟩ := chkConv_ok hc
  have hw := IntWalk.i64_in n hfit
  simp [execOp, ho, hF.ev hx, convert, run_underlying h1, run_underlying h2, Conv.intToInt, hw]

theorem zip_map {α β : Type} : ∀ (l : List (α × β)) , (l.map (·.1)).zip (l.map (·.2)) = l
  | [] => rfl
  | x :: l => by simp [zip_map l]

theorem yh_build {t : TypeId} {parts : List (Nat × Operand)} {vs : List Value} (cs : List Value) (ho : o.op = .build t parts.toArray) (hx : evs L (parts.map (·.2)) = some vs) (hb : P.built t ((parts.map (·.1)).zip vs) = some cs.toArray) :
    YH P o (.agg cs.toArray) N L w0 M H := .mk fun a w hF _ => by
  have hv := hF.evs hx
  have hp : (parts.map fun p => (p.1, a.eval p.2)) = (parts.map (·.1)).zip vs := by
    rw [← hv]
    clear hv hx hb ho
    induction parts with
    | nil => rfl
    | cons x l ih => simpa using ih
  have := run_build w t (parts.toArray.map fun p => (p.1, a.eval p.2)) cs.toArray (by simpa [hp] using hb)
  simp [execOp, ho] at this ⊢
  simp [this]

/-- Each field has one cell, and has its part. -/
theorem yh_buildA {t : TypeId} {parts : List (Nat × Operand)} {vs : List Value} (ho : o.op = .build t parts.toArray) (hx : evs L (parts.map (·.2)) = some vs) (hb : P.built t ((parts.map (·.1)).zip vs) = some vs.toArray) :
    YH P o (.agg vs.toArray) N L w0 M H := yh_build vs ho hx hb

/-! ## Calls that write -/

structure NewM (w w' : World) (F : List Nat) (C : List Ch) : Prop where
  own : ∀ c ∈ C, c.A w'
  nd : (ff C).Nodup
  ge : ∀ b ∈ ff C, b ∈ F ∨ w.heap.size ≤ b

theorem NewM.of {w w' : World} (C : List Ch) (h : Hp w M H w') (hs : C.Sublist H) : NewM w w' M C :=
  have := h.subl hs
  ⟨this.own, this.nd, this.ge⟩
theorem NewC.of {w w' : World} (C : List Ch) (h : Hp w [] H w') (hs : C.Sublist H) : NewC w w' C :=
  have := h.subl hs
  ⟨this.own, this.nd, fun b hb => (this.ge b hb).resolve_left (by simp)⟩

theorem hp_one {w : World} {c : Ch} (h : c.A w) (hn : c.F.Nodup) : Hp w c.F [c] w :=
  ⟨ExtM.refl _ _, by simpa using h, by simpa [ff] using hn, by intro b hb; left; simpa [ff] using hb⟩

/-- A call that writes one piece (and may make new ones). -/
theorem ow_cM {ι : Type} {i : Nat} {c0 : Ch} {f : FuncId} {xs : List Operand} {ts : Array TypeId} {vs : List Value} (V : ι → Value) (C : ι → List Ch) (I : ι → Prop) (ho : o.op = .call { callee := .value (.func f), args := xs.toArray, argTypes := ts }) (hb : hasBody P f) (hx : evs L xs = some vs)
    (hi : H[i]? = some c0) (hc : ∀ w, Hp w0 M H w → Ret P f vs w c0.F fun u w' => ∃ j, I j ∧ u = V j ∧ NewM w w' c0.F (C j)) (hd : o.dst = some d) (hN : Nat.blt d N = true)
    (h : ∀ j, I j → KK K N ((d, V j) :: L) w0 M (C j ++ H.eraseIdx i)) : OW P o Q K N L w0 M H := by
  refine .mk fun a w hF hHp => ?_
  have hr : (execOp a.eval o).run P w = .ok (.enter f vs.toArray) w := by
    simp only [execOp, ho, resolve, Act.eval, Deferred.ofValue, Sem.run_bind, Sem.run_pure, Result.andThen_ok, invoke]
    have hargs : ((#[] : Array Value) ++ (xs.toArray.map a.eval)) ++ #[] = vs.toArray := by
      rw [List.map_toArray, hF.evs hx]; simp
    rw [hargs]
    exact run_callFunc hb w
  unfold Oper.wp
  rw [hr]
  refine Calls.mono (hc w hHp) ?_
  rintro e w' ⟨v, rfl, hE, j, hI, rfl, hn⟩
  show K (a.put o.dst _) w'
  rw [hd]
  have e : ff [c0] = c0.F := by simp [ff]
  have hf : Hp w0 M ([c0] ++ H.eraseIdx i) w := hHp.front hi
  exact (h j hI).go _ _ (hF.put _ hN) (hf.mod (by rw [e]; exact hE) hn.own hn.nd (by rw [e]; exact hn.ge))

/-- A call of the reader's kind: rules for exits. -/
theorem ex_chg {e : Exit} (i : Nat) {c c' : Ch} (hi : H[i]? = some c) (hc : ∀ w, c.A w → c'.A w) (hF : c'.F = c.F) (h : EX Q e N L w0 M (c' :: H.eraseIdx i)) : EX Q e N L w0 M H :=
  .mk fun a w hf hH => h.go a w hf (hH.chg hi (hc w) hF)
end

section
variable {P : Program} (T : Tab P) {Q : Exit → Act → World → Prop} {N : Nat} {L : SL} {w0 : World} {M : List Nat} {H : List Ch} {o : Oper} {K : Act → World → Prop} {d : Nat} {v : Value}
/-- A call whose value is told up to what i is; no new memory is told. -/
theorem ow_cX {ι : Type} {f : FuncId} {xs : List Operand} {ts : Array TypeId} {vs : List Value} (V : ι → Value) (I : ι → Prop) (ho : o.op = .call { callee := .value (.func f), args := xs.toArray, argTypes := ts }) (hb : hasBody P f) (hx : evs L xs = some vs)
    (hc : ∀ w, Hp w0 M H w → Ret P f vs w [] fun u _ => ∃ i, I i ∧ u = V i) (hd : o.dst = some d) (hN : Nat.blt d N = true) (h : ∀ i, I i → KK K N ((d, V i) :: L) w0 M H) : OW P o Q K N L w0 M H :=
  ow_callN V (fun _ => []) I (first := #[]) (captured := #[]) ho rfl hb hx (by simp) (fun w hw => Ret.mono (hc w hw) (fun u w' _ ⟨i, h1, h2⟩ => ⟨i, h1, h2, NewC.nil w w'⟩)) hd hN h

/-- The one result lies in a cell. -/
theorem ex_retC {fn : Func} {t : Tmp} {ty e g i n by_ : Nat} {z : Value} {cs : List Value} {R : Ending → World → Prop} (hr : fn.results = #[.cell t ty]) (hv : ev L (.tmp t) = some (.pointer (some ⟨g, 0, none⟩))) (hg : T.agg ty = some true)
    (hin : T.inf ty = some (z, n, by_)) (hi : H[i]? = some (blkC g e cs)) (hn : cs.length = n) (h : ∀ w, Hp w0 M H w → R (.returned (.agg cs.toArray)) w) : EX (bodyPost P fn R) .ret N L w0 M H :=
  .mk fun a w hF hH => by
    obtain ⟨ti, h1, _, h3, _⟩ := T.info hin
    have hl := run_loadN' T (a := ⟨g, 0, none⟩) hg h1 (w := w) (vs := cs) (h3.trans hn.symm) (fun j u hj => by
      rw [Addr.add_lit, blk_cell (hH.at hi)]; simpa using hj)
    have hp : a.tmps.getD t undef = .pointer (some ⟨g, 0, none⟩) := hF.ev hv
    refine bodyPost_ret (v := .agg cs.toArray) (w := w) ?_ hF.dfr (h w hH)
    have hp' : a.tmps[t]?.getD undef = .pointer (some ⟨g, 0, none⟩) := by simpa using hp
    simp [results, hr, hp', asAddr, hl]

def cmpB : BinOp → Bool → Bool → Option Bool
  | .eql, a, b => some (a == b)
  | .neq, a, b => some (a != b)
  | _, _, _ => none
def chkBool (P : Program) (t : Nat) : Bool := match P.underlying t with | some .bool => true | _ => false
theorem chkBool_ok {t : Nat} (h : chkBool P t = true) : P.underlying t = some .bool := by
  unfold chkBool at h
  split at h
  · assumption
  · cases h
theorem yh_cmpB {op : BinOp} {t u : TypeId} {x y : Operand} {m n r : Bool} (ho : o.op = .binOp op t x y u) (hx : ev L x = some (.bool m)) (hy : ev L y = some (.bool n)) (hr : cmpB op m n = some r) (hc : chkBool P t = true) :
    YH P o (.bool r) N L w0 M H := .mk fun a w hF _ => by
  have := fun w => run_equal_bool (P := P) w t m n (chkBool_ok hc)
  cases op <;> simp only [cmpB, Option.some.injEq, reduceCtorEq] at hr <;> subst hr <;> simp [execOp, ho, hF.ev hx, hF.ev hy, eqGuard_at_bool, binOp, this]
  cases m <;> cases n <;> rfl
end

/-! ## Slices of plain elements: opened, closed, written by field -/

section
variable {α : Type} {n : Nat} {enc : α → List Value} {hel : ∀ x, (enc x).length = n} {he1 : ∀ x, ∀ u ∈ enc x, u.oneCell' = true}

theorem flatMap_len (hel : ∀ x, (enc x).length = n) : ∀ l : List α, (l.flatMap enc).length = l.length * n
  | [] => by simp
  | x :: l => by rw [List.flatMap_cons, List.length_append, hel, flatMap_len hel l, List.length_cons, Nat.add_mul]; omega

theorem flatMap_set (hel : ∀ x, (enc x).length = n) {f : Nat} {v : Value} (hf : f < n) : ∀ (l : List α) (k : Nat) (u : α), (hk : k < l.length) → (enc l[k]).set f v = enc u → (l.flatMap enc).set (k * n + f) v = (l.set k u).flatMap enc
  | [], k, u, hk, h => by simp at hk
  | x :: l, 0, u, hk, h => by
    simp only [List.getElem_cons_zero] at h
    simp only [List.flatMap_cons, List.set_cons_zero, Nat.zero_mul, Nat.zero_add]
    rw [List.set_append_left _ _ (by rw [hel]; exact hf), h]
  | x :: l, k + 1, u, hk, h => by
    simp only [List.getElem_cons_succ] at h
    simp only [List.flatMap_cons, List.set_cons_succ]
    rw [List.set_append_right _ _ (by rw [hel, Nat.add_mul]; omega), hel, show (k + 1) * n + f - n = k * n + f by rw [Nat.add_mul]; omega,
      flatMap_set hel hf l k u (by simpa using hk) h]

theorem own_open {e g m c : Nat} {F : List Nat} {l : List α} {w : World} (h : (owC (sl e (plain n enc hel he1)) F [.slice (some ⟨g, 0, none⟩) m c] l).A w) :
    ∃ cur : List Value, (blkC g e cur).A w ∧ F = [g] ∧ m = l.length ∧ m ≤ c ∧ c ≤ maxLen ∧ cur.length = c * n ∧ cur.take (m * n) = l.flatMap enc := by
  obtain ⟨v0, xs, Fs, hv, hown, hl, hFF⟩ := h
  simp only [List.cons.injEq, and_true] at hv
  subst hv
  obtain ⟨hxl, hrest⟩ := hown
  have hpl := owL_plain (hl := hel) (h1 := he1) w l
  have hun : ∀ {l : List α} {Fs : List (List Nat)} {cs : List Value}, owL (plain n enc hel he1) w Fs cs l → Fs.flatten = [] ∧ cs = l.flatMap enc := by
    intro l
    induction l with
    | nil => rintro _ _ ⟨rfl, rfl⟩; simp
    | cons x l ih =>
      rintro _ _ ⟨F1, Fs1, es, cs1, rfl, rfl, ⟨h1, h2⟩, h3⟩
      obtain ⟨i1, i2⟩ := ih h3
      simp [i1, i2, h1, h2]
  obtain ⟨hf0, hxs⟩ := hun hl
  rcases hrest with ⟨hbad, _⟩ | ⟨g', c0, cur, hv, hb0, hcur, hnc, hcm, hcs, htake⟩
  · simp at hbad
  · simp only [Value.slice.injEq, Option.some.injEq, Addr.mk.injEq, and_true, true_and] at hv
    obtain ⟨rfl, rfl, rfl⟩ := hv
    refine ⟨cur.toList, by simpa [blkC] using hcur, by rw [hFF, hf0]; rfl, rfl, hnc, hcm, by rw [Array.length_toList]; exact hcs, ?_⟩
    rw [← hxs, ← htake]
    rfl

theorem own_close {e g c : Nat} {l : List α} {w : World} {cur : List Value} (hb : (blkC g e cur).A w) (hm : l.length ≤ c) (hc : c ≤ maxLen) (hlen : cur.length = c * n) (ht : cur.take (l.length * n) = l.flatMap enc) :
    (owC (sl e (plain n enc hel he1)) [g] [.slice (some ⟨g, 0, none⟩) l.length c] l).A w := by
  refine ⟨_, l.flatMap enc, _, rfl, ⟨?_, .inr ⟨g, c, cur.toArray, rfl, Nat.zero_le _, hb, hm, hc, by rw [List.size_toArray]; exact hlen, ?_⟩⟩, owL_plain w l, by rw [flatten_nils]; rfl⟩
  · exact (owL_len (owL_plain (hl := hel) (h1 := he1) w l)).1
  · rw [← ht]; rfl

variable {P : Program} (T : Tab P) {Q : Exit → Act → World → Prop} {N : Nat} {L : SL} {w0 : World} {M : List Nat} {H : List Ch} {o : Oper} {K : Act → World → Prop} {d : Nat} {v : Value}

/-- A store into one field of an element of an owned slice. -/
theorem ow_storeF {t e : TypeId} {x y : Operand} {g i m c by_ : Nat} {z : Value} {F : List Nat} {l : List α} (k f : Nat) (u : α) (ho : o.op = .store t x y) (hx : ev L x = some (.pointer (some ⟨g, 0 + k * n + f, none⟩))) (hy : ev L y = some v)
    (hin : T.inf t = some (z, 1, by_)) (hi : H[i]? = some (owC (sl e (plain n enc hel he1)) F [.slice (some ⟨g, 0, none⟩) m c] l)) (h1 : v.oneCell' = true) (hf : f < n) (hk : k < l.length) (hu : (enc l[k]).set f v = enc u) (hd : o.dst = none)
    (h : KK K N L w0 M (owC (sl e (plain n enc hel he1)) F [.slice (some ⟨g, 0, none⟩) m c] (l.set k u) :: H.eraseIdx i)) : OW P o Q K N L w0 M H := .mk fun a w hF hH => by
  obtain ⟨cur, hb, rfl, rfl, hmc, hcm, hlen, ht⟩ := own_open (hH.at hi)
  obtain ⟨ti, g1, _, g3, _⟩ := T.info hin
  have hlast : k * n + f < l.length * n := by
    have := Nat.mul_le_mul_right n (show k + 1 ≤ l.length by omega)
    rw [Nat.add_mul] at this; omega
  have hcap : l.length * n ≤ c * n := Nat.mul_le_mul_right _ hmc
  have hs := run_storeBlk (P := P) hb (vs := [v]) (i := k * n + f) (by simp; omega) (by simpa using h1)
  have hr : (execOp a.eval o).run P w = .ok .skip (w.setRow g (put cur [v] (k * n + f)).toArray) := by
    have hsz : v.cells.toList = [v] := cells_one h1
    have hsz' : v.cells.size = 1 := by rw [← Array.length_toList, hsz]; rfl
    simp [execOp, ho, hF.ev hx, hF.ev hy, Instr.storeAt, Instr.sureAddr, storeVar, sizeOf, typeInfo, g1, g3, hsz', hsz, hs]
  unfold Oper.wp
  rw [hr]
  show K (a.put o.dst _) _
  rw [hd]
  have hput : put cur [v] (k * n + f) = cur.set (k * n + f) v := by
    rw [put, List.set_eq_take_append_cons_drop, if_pos (by omega)]
    simp
  have hfront : Hp w0 M ([owC (sl e (plain n enc hel he1)) [g] [.slice (some ⟨g, 0, none⟩) l.length c] l] ++ H.eraseIdx i) w := hH.front hi
  have hoth : ∀ b, b ≠ g → (w.setRow g (put cur [v] (k * n + f)).toArray).heap[b]? = w.heap[b]? := fun b hb => setRow_other w g b _ hb
  have hnew : (blkC g e (put cur [v] (k * n + f))).A (w.setRow g (put cur [v] (k * n + f)).toArray) := by
    have := setRow_heap w g cur.toArray (put cur [v] (k * n + f)).toArray e (0, 0) hb
    simpa [blkC] using this
  refine h.go _ _ hF ?_
  refine hfront.mod (C' := [owC (sl e (plain n enc hel he1)) [g] [.slice (some ⟨g, 0, none⟩) l.length c] (l.set k u)]) ⟨rfl, rfl, rfl, by simp, fun b _ hb => hoth b (fun e1 => hb ?_)⟩ ?_ (by simp [ff, owC]) (by intro b hb; left; simpa [ff, owC] using hb)
  · rw [e1]; simp [ff, owC]
  · intro ch hch
    simp only [List.mem_singleton] at hch
    subst hch
    have := own_close (l := l.set k u) (c := c) (hel := hel) (he1 := he1) hnew (by simpa using hmc) hcm (by rw [hput]; simpa using hlen) (by
      rw [hput, List.length_set, List.take_set, ht, flatMap_set hel hf l k u hk hu])
    simpa using this
theorem flatMap_get (hel : ∀ x, (enc x).length = n) {f : Nat} (hf : f < n) : ∀ (l : List α) (k : Nat), (hk : k < l.length) → (l.flatMap enc)[k * n + f]? = (enc l[k])[f]?
  | [], k, hk => by simp at hk
  | x :: l, 0, hk => by
    simp only [List.flatMap_cons, Nat.zero_mul, Nat.zero_add, List.getElem_cons_zero]
    rw [List.getElem?_append_left (by rw [hel]; exact hf)]
  | x :: l, k + 1, hk => by
    simp only [List.flatMap_cons, List.getElem_cons_succ]
    rw [List.getElem?_append_right (by rw [hel, Nat.add_mul]; omega), hel, show (k + 1) * n + f - n = k * n + f by rw [Nat.add_mul]; omega, flatMap_get hel hf l k (by simpa using hk)]

theorem own_cell {e g m c i k f : Nat} {F : List Nat} {l : List α} {w : World} (hi : H[i]? = some (owC (sl e (plain n enc hel he1)) F [.slice (some ⟨g, 0, none⟩) m c] l)) (hf : f < n) (hk : k < l.length) (hH : Hp w0 M H w) : w.cell? ⟨g, 0 + k * n + f, none⟩ = (enc l[k])[f]? := by
  obtain ⟨cur, hb, rfl, rfl, hmc, hcm, hlen, ht⟩ := own_open (hH.at hi)
  have hlast : k * n + f < l.length * n := by
    have := Nat.mul_le_mul_right n (show k + 1 ≤ l.length by omega)
    rw [Nat.add_mul] at this; omega
  rw [Nat.zero_add, blk_cell hb, ← flatMap_get hel hf l k hk, ← ht, List.getElem?_take_of_lt hlast]

/-- A load of one field of an element of an owned slice. -/
theorem yh_loadO {t e : TypeId} {x : Operand} {g i m c : Nat} {F : List Nat} {l : List α} (k f : Nat) (ho : o.op = .load t x) (hx : ev L x = some (.pointer (some ⟨g, 0 + k * n + f, none⟩))) (hg : T.agg t = some false)
    (hi : H[i]? = some (owC (sl e (plain n enc hel he1)) F [.slice (some ⟨g, 0, none⟩) m c] l)) (hf : f < n) (hk : k < l.length) (hv : (enc l[k])[f]? = some v) : YH P o v N L w0 M H :=
  yh_loadS T ho hx hg fun w hH => (own_cell hi hf hk hH).trans hv

theorem own_addr {e m c : Nat} {a : Option Addr} {F : List Nat} {l : List α} {A : Lay α} {w : World} (h : (owC (sl e A) F [.slice a m c] l).A w) (h0 : 0 < m) : ∃ g, a = some ⟨g, 0, none⟩ := by
  obtain ⟨v0, xs, Fs, hv, hown, hl, hFF⟩ := h
  simp only [List.cons.injEq, and_true] at hv
  subst hv
  obtain ⟨hxl, hrest⟩ := hown
  rcases hrest with ⟨hbad, h2⟩ | ⟨g', c0, cur, hv, _⟩
  · simp only [Value.slice.injEq] at hbad
    omega
  · simp only [Value.slice.injEq] at hv
    exact ⟨g', hv.1⟩

end

end Go.Proofs.YtacecnffggffmaaDoor
