/- Rules for walks that a program prints, fourth part: made slices, stores into elements, structs compared, texts. -/
import Derived.Test.YtacecnffggffmaaDoorV
import Derived.Laws.StructEq
import Derived.Laws.BytesString
set_option linter.all false
namespace Go.Proofs.YtacecnffggffmaaDoor
open Go.RowKit

def mkl {α : Type} (n : Nat) (z : α) : Option (List α) := if n ≤ 4000000000 then some (List.replicate n z) else none
theorem mkl_some {α : Type} {n : Nat} {z : α} {l : List α} (h : mkl n z = some l) : l = List.replicate n z ∧ n ≤ 4000000000 := by
  unfold mkl at h
  split at h
  · injection h with h; exact ⟨h.symm, by assumption⟩
  · cases h
theorem bd_appd {α β : Type} {l m : List α} {f : List α → Option β} {r : β} (h : (appd l m).bind f = some r) : l.length + m.length ≤ 4000000000 ∧ f (l ++ m) = some r := by
  obtain ⟨a, h1, h2⟩ := bd h
  obtain ⟨h3, h4⟩ := appd_some h1
  rw [h3] at h2
  exact ⟨h4, h2⟩
theorem bd_mkl {α β : Type} {n : Nat} {z : α} {f : List α → Option β} {r : β} (h : (mkl n z).bind f = some r) : n ≤ 4000000000 ∧ f (List.replicate n z) = some r := by
  obtain ⟨a, h1, h2⟩ := bd h
  obtain ⟨h3, h4⟩ := mkl_some h1
  rw [h3] at h2
  exact ⟨h4, h2⟩
/-- Texts joined. -/
def cat (a b : ByteArray) : Option ByteArray := if a.size + b.size ≤ 4611686018427387904 then some (a ++ b) else none
theorem cat_some {a b r : ByteArray} (h : cat a b = some r) : r = a ++ b ∧ a.size + b.size ≤ 4611686018427387904 := by
  unfold cat at h
  split at h
  · injection h with h; exact ⟨h.symm, by assumption⟩
  · cases h
def bstr (ns : List Int) : ByteArray := ns.foldl (fun r n => r.push (UInt8.ofNat n.toNat)) ByteArray.empty
def u8w (n : Int) : Int := IntKind.u8.wrap n

section
variable {P : Program} (T : Tab P) {Q : Exit → Act → World → Prop} {N : Nat} {L : SL} {w0 : World} {M : List Nat} {H Hs : List Ch} {o : Oper} {K : Act → World → Prop} {d : Nat} {v : Value}

theorem ex_len {x : Exit} {α : Type} {e : TypeId} {A : Lay α} {a : Option Addr} {n c : Nat} {F : List Nat} {l : List α} (i : Nat) (hi : H[i]? = some (owC (sl e A) F [.slice a n c] l)) (h : n = l.length → EX Q x N L w0 M H) : EX Q x N L w0 M H :=
  ⟨fun ac w hF hH => (h (sl_len (A := A) ((sl e A).ow_rd (F := F) (M := []) (hH.at hi) (by simp))).1).go ac w hF hH⟩

/-- A remainder, a quotient by a number that is not zero. -/
theorem yh_remT {t u : TypeId} {x y : Operand} {m n : Int} (ho : o.op = .binOp .rem t x y u) (hx : ev L x = some (.int .i64 m)) (hy : ev L y = some (.int .i64 n)) (h0 : n ≠ 0) : YH P o (.int .i64 (Int.tmod m n)) N L w0 M H := .mk fun ac w hF _ => by
  simp [execOp, ho, hF.ev hx, hF.ev hy, eqGuard_at_int, binOp_rem, Op.intDiv, h0]
theorem yh_quoT {t u : TypeId} {x y : Operand} {m n : Int} (ho : o.op = .binOp .quo t x y u) (hx : ev L x = some (.int .i64 m)) (hy : ev L y = some (.int .i64 n)) (h0 : n ≠ 0) : YH P o (.int .i64 (w64 (Int.tdiv m n))) N L w0 M H := .mk fun ac w hF _ => by
  simp [execOp, ho, hF.ev hx, hF.ev hy, eqGuard_at_int, binOp_quo, Op.intDiv, h0, w64]

def chkU8 (P : Program) (s t : Nat) : Bool :=
  match P.underlying s, P.underlying t with
  | some (.int _), some (.int .u8) => true
  | _, _ => false
theorem yh_convU {s t : TypeId} {x : Operand} {k : IntKind} {n : Int} (ho : o.op = .convert s t x) (hx : ev L x = some (.int k n)) (hc : chkU8 P s t = true) : YH P o (.int .u8 (u8w n)) N L w0 M H := .mk fun a w hF _ => by
  unfold chkU8 at hc
  split at hc
  · rename_i k' h1 h2
    simp [execOp, ho, hF.ev hx, convert, run_underlying h1, run_underlying h2, Conv.intToInt, u8w]
  · cases hc

theorem yh_addS {t u : TypeId} {x y : Operand} {a b r : ByteArray} (hz : cat a b = some r) (ho : o.op = .binOp .add t x y u) (hx : ev L x = some (.string a)) (hy : ev L y = some (.string b)) : YH P o (.string r) N L w0 M H := .mk fun ac w hF _ => by
  obtain ⟨rfl, h1⟩ := cat_some hz
  have h2 : ¬ (((a.size + b.size : Nat) : Int) > IntKind.i64.max) := by
    have : IntKind.i64.max = 9223372036854775807 := rfl
    rw [this]; omega
  have h3 : (Op.stringOp .add a b).run P w = .ok (.string (a ++ b)) w := by
    simp only [Op.stringOp]
    rw [if_neg h2]
    rfl
  simp [execOp, ho, hF.ev hx, hF.ev hy, eqGuard_at_string, binOp, h3]

def chkBS (P : Program) (s t : Nat) : Bool :=
  match P.underlying s, P.underlying t with
  | some (.slice e), some .string => (match P.underlying e with | some (.int .u8) => true | _ => false)
  | _, _ => false
theorem yh_bstr {s t e : TypeId} {x : Operand} {g n c k : Nat} {ns : List Int} (ho : o.op = .convert s t x) (hx : ev L x = some (.slice (some ⟨g, 0, none⟩) n c)) (hi : H[k]? = some (blkC g e (ns.map fun m => .int .u8 m))) (hn : ns.length = n) (hc : chkBS P s t = true) : YH P o (.string (bstr ns)) N L w0 M H := .mk fun a w hF hH => by
  unfold chkBS at hc
  split at hc
  · rename_i e' h1 h2
    split at hc
    · rename_i h3
      have hcell := blk_cell (hH.at hi)
      have hl := run_loadCells_list (P := P) w ⟨g, 0, none⟩ (ns.map (Value.int .u8)) (fun j u hj => by rw [Addr.add_lit, hcell, Nat.zero_add]; exact hj)
      rw [List.length_map, hn] at hl
      have hb := run_bytesToString (P := P) w ⟨g, 0, none⟩ n c ns hl
      have hcv := (run_convert_bytes_string (P := P) w s t e' (some ⟨g, 0, none⟩) n c h1 h3 h2).trans hb
      simp only [execOp, ho, hF.ev hx, Sem.run_bind, hcv, Result.andThen_ok, Sem.run_pure]
      rfl
    · cases hc
  · cases hc

/-- Two structs of a number and a text. -/
def chkIS (P : Program) (t : Nat) : Bool :=
  match P.underlying t with
  | some (.struct fs) => (match fs.toList with
    | [f, g] => f.name != "_" && (g.name != "_" && (Nat.beq f.offset 0 && (Nat.beq g.offset 1 && ((match P.underlying f.type with | some (.int _) => true | _ => false) && (match P.underlying g.type with | some .string => true | _ => false)))))
    | _ => false) && (!P.stoodInHeld t && !P.eqGuardType P.depth t)
  | _ => false
theorem run_part1 {t : TypeId} {D : TypeDesc} (h : P.underlying t = some D) (ha : aggD D = false) {cs : Array Value} {i : Nat} (hv : cs[i]? = some v) (w : World) : (part t cs i).run P w = .ok v w := by
  unfold part
  rw [Sem.run_bind, run_isAgg h w, ha]
  simp [hv]
theorem run_eqIS {t : Nat} (hc : chkIS P t = true) (a b : Int) (s r : ByteArray) (w : World) : (Op.equalIn 10000 t (.agg #[.int .i64 a, .string s]) (.agg #[.int .i64 b, .string r])).run P w = .ok (eqb a b && seq s r) w ∧ P.eqGuardType P.depth t = false := by
  unfold chkIS at hc
  split at hc
  · rename_i fs hu
    simp only [Bool.and_eq_true, Bool.not_eq_true'] at hc
    obtain ⟨h1, h2, h3⟩ := hc
    refine ⟨?_, h3⟩
    split at h1
    · rename_i f g hfg
      simp only [Bool.and_eq_true, bne_iff_ne, ne_eq] at h1
      obtain ⟨n1, n2, o1, o2, u1, u2⟩ := h1
      have o1 := Nat.eq_of_beq_eq_true o1
      have o2 := Nat.eq_of_beq_eq_true o2
      have hfo : P.fieldsOf t = fs := by unfold Program.fieldsOf; rw [hu]
      split at u1
      · rename_i k hk
        split at u2
        · rename_i hs
          have := run_equalIn_agg (P := P) w 9999 t #[.int .i64 a, .string s] #[.int .i64 b, .string r] (by rw [hfo]; exact hu) h2
          rw [show (10000 : Nat) = 9999 + 1 from rfl, this, hfo, hfg]
          have e1 : ∀ w : World, (Op.equalIn 9999 f.type (.int .i64 a) (.int .i64 b)).run P w = .ok (eqb a b) w := fun w => by
            rw [show (9999 : Nat) = 9998 + 1 from rfl, run_equalIn_int w 9998 f.type .i64 k a b hk, beq_int, eqb_dec]
          have e2 : ∀ w : World, (Op.equalIn 9999 g.type (.string s) (.string r)).run P w = .ok (seq s r) w := fun w => by
            rw [show (9999 : Nat) = 9998 + 1 from rfl, run_equalIn_string w 9998 g.type s r hs]; unfold seq; rfl
          have p1 := fun (x : Int) (y : ByteArray) => run_part1 (P := P) (v := .int .i64 x) (cs := #[.int .i64 x, .string y]) (i := f.offset) hk rfl (by rw [o1]; rfl) w
          have p2 := fun (x : Int) (y : ByteArray) => run_part1 (P := P) (v := .string y) (cs := #[.int .i64 x, .string y]) (i := g.offset) hs rfl (by rw [o2]; rfl) w
          simp only [Op.eqFields, n1, n2, if_true, Sem.run_bind, p1, p2, e1, e2, Result.andThen_ok, not_false_eq_true, ne_eq]
          cases hp : eqb a b <;> cases hq : seq s r <;> simp [Op.eqFields, Sem.run_bind, p1, p2, e1, e2, hp, hq]
        · cases u2
      · cases u1
    · cases h1
  · cases hc
def cmpA : BinOp → Bool → Option Bool
  | .eql, b => some b
  | .neq, b => some (!b)
  | _, _ => none
theorem yh_cmpA {op : BinOp} {t u : TypeId} {x y : Operand} {a b : Int} {s r : ByteArray} {q : Bool} (ho : o.op = .binOp op t x y u) (hx : ev L x = some (.agg #[.int .i64 a, .string s])) (hy : ev L y = some (.agg #[.int .i64 b, .string r])) (hr : cmpA op (eqb a b && seq s r) = some q) (hc : chkIS P t = true) :
    YH P o (.bool q) N L w0 M H := .mk fun ac w hF _ => by
  obtain ⟨h1, h2⟩ := run_eqIS hc a b s r w
  have h3 := run_eqGuard_agg (P := P) w op t x y #[.int .i64 a, .string s] #[.int .i64 b, .string r] h2
  cases op <;> simp only [cmpA, Option.some.injEq, reduceCtorEq] at hr <;> subst hr
  · have h4 := run_eql_struct (P := P) w t #[.int .i64 a, .string s] #[.int .i64 b, .string r]
    rw [h1] at h4
    simp only [execOp, ho, hF.ev hx, hF.ev hy, Sem.run_bind, h3, h4, Result.andThen_ok]
    rfl
  · have h4 := run_neq_struct (P := P) w t #[.int .i64 a, .string s] #[.int .i64 b, .string r]
    rw [h1] at h4
    simp only [execOp, ho, hF.ev hx, hF.ev hy, Sem.run_bind, h3, h4, Result.andThen_ok]
    rfl

/-! ## made slices, stores into elements -/

theorem ow_makeK {α : Type} {A : Lay α} {z0 : α} {t e : TypeId} {x y : Operand} {n by_ : Nat} {m m2 : Int} {z : Value} (ho : o.op = .makeSlice t x y) (hx : ev L x = some (.int .i64 m)) (hy : ev L y = some (.int .i64 m2)) (hm : m = (n : Int)) (hm2 : m2 = (n : Int))
    (ht : T.sle t = some e) (hin : T.inf e = some (z, A.size, by_)) (hz : z.cells.size = A.size) (hs : Nat.blt 0 A.size = true) (hz0 : ∀ w, A.ow w [] z.cells.toList z0) (hn : n ≤ 4000000000) (hby : Nat.ble by_ 1000 = true)
    (hd : o.dst = some d) (hN : Nat.blt d N = true)
    (h : ∀ g, KK K N ((d, .slice (some ⟨g, 0, none⟩) n n) :: L) w0 M (owC (sl e A) [g] [.slice (some ⟨g, 0, none⟩) n n] (List.replicate n z0) :: H)) : OW P o Q K N L w0 M H :=
  ow_make T ho hx hy hm hm2 ht hin hz hs hz0 hn (by simpa using hby) hd hN h

theorem ow_setP {α : Type} {m : Nat} {enc : α → List Value} {hel : ∀ x, (enc x).length = m} {he1 : ∀ x, ∀ u ∈ enc x, u.oneCell' = true} {t e : TypeId} {x y : Operand} {g k n c by_ : Nat} {z v : Value} {F : List Nat} {l : List α} {u : α} (i : Nat)
    (ho : o.op = .store t x y) (hx : ev L x = some (.pointer (some ⟨g, 0 + k * m, none⟩))) (hy : ev L y = some v)
    (hin : T.inf t = some (z, m, by_)) (hi : H[i]? = some (owC (sl e (plain m enc hel he1)) F [.slice (some ⟨g, 0, none⟩) n c] l)) (hk : k < l.length) (hv : v.cells.toList = enc u)
    (hd : o.dst = none) (h : ∀ F', KK K N L w0 M (owC (sl e (plain m enc hel he1)) F' [.slice (some ⟨g, 0, none⟩) n c] (l.set k u) :: H.eraseIdx i)) : OW P o Q K N L w0 M H :=
  ow_storeEl T (A := plain m enc hel he1) (C2 := []) (G := []) ho hx hy hin hi hk (List.Perm.refl _) rfl (fun w _ => ⟨rfl, hv⟩) hd h

theorem ow_storeF2 {α : Type} {m : Nat} {enc : α → List Value} {hel : ∀ x, (enc x).length = m} {he1 : ∀ x, ∀ u ∈ enc x, u.oneCell' = true} {t e : TypeId} {x y : Operand} {g k n c by_ : Nat} {z v : Value} {F : List Nat} {l : List α} {u y0 : α} (i f : Nat)
    (ho : o.op = .store t x y) (hx : ev L x = some (.pointer (some ⟨g, 0 + k * m + f, none⟩))) (hy : ev L y = some v)
    (hin : T.inf t = some (z, 1, by_)) (hi : H[i]? = some (owC (sl e (plain m enc hel he1)) F [.slice (some ⟨g, 0, none⟩) n c] l)) (h1 : v.oneCell' = true) (hf : f < m) (hk : l[k]? = some y0) (hu : (enc y0).set f v = enc u)
    (hd : o.dst = none) (h : KK K N L w0 M (owC (sl e (plain m enc hel he1)) F [.slice (some ⟨g, 0, none⟩) n c] (l.set k u) :: H.eraseIdx i)) : OW P o Q K N L w0 M H := by
  obtain ⟨hlt, rfl⟩ := List.getElem?_eq_some_iff.1 hk
  exact ow_storeF T k f u ho hx hy hin hi h1 hf hlt hu hd h

theorem ow_setN {α β : Type} {A : Lay α} {B : Lay β} {t e : TypeId} {x y : Operand} {g k n c by_ : Nat} {z v v2 : Value} {F F2 : List Nat} {l : List α} {u : α} {y2 : β} (i j : Nat)
    (ho : o.op = .store t x y) (hx : ev L x = some (.pointer (some ⟨g, 0 + k * A.size, none⟩))) (hy : ev L y = some v)
    (hin : T.inf t = some (z, A.size, by_)) (hi : H[i]? = some (owC (sl e A) F [.slice (some ⟨g, 0, none⟩) n c] l)) (hj : (H.eraseIdx i)[j]? = some (owC B F2 [v2] y2)) (hk : k < l.length) (hu : ∀ w, B.ow w F2 [v2] y2 → A.ow w F2 v.cells.toList u)
    (hd : o.dst = none) (h : ∀ F', KK K N L w0 M (owC (sl e A) F' [.slice (some ⟨g, 0, none⟩) n c] (l.set k u) :: (H.eraseIdx i).eraseIdx j)) : OW P o Q K N L w0 M H :=
  ow_storeEl T (A := A) (C2 := [owC B F2 [v2] y2]) (G := F2) ho hx hy hin hi hk (front_perm hj) (by simp [ff, owC]) (fun w hc => hu w (hc (owC B F2 [v2] y2) (by simp))) hd h

theorem nil_ow {α : Type} (e : TypeId) (A : Lay α) (w : World) : (sl e A).ow w [] [.slice none 0 0] [] := ow_nil e A w
theorem z_step (w : World) : stepL.ow w [] [.string ⟨#[]⟩, .slice none 0 0, .bool false] (Step.mk ⟨#[]⟩ [] false) := stepL_mk (Step.mk ⟨#[]⟩ [] false) (nil_ow _ _ w)
theorem z_flow (w : World) : flowL.ow w [] [.int .i64 0, .slice none 0 0] (Flow.mk 0 []) := flowL_mk (Flow.mk 0 []) (nil_ow _ _ w)
theorem z_run (w : World) : runL.ow w [] [.int .i64 0, .slice none 0 0] (Run.mk 0 []) := runL_mk (Run.mk 0 []) (nil_ow _ _ w)
theorem z_change (w : World) : changeL.ow w [] [.int .i64 0, .string ⟨#[]⟩, .slice none 0 0, .bool false] (Change.mk 0 (Step.mk ⟨#[]⟩ [] false)) := changeL_mk (Change.mk 0 (Step.mk ⟨#[]⟩ [] false)) (nil_ow _ _ w)

/-! ## fields of elements of owned slices of whatever -/

theorem own_openN {α : Type} {A : Lay α} {e g n c : Nat} {F : List Nat} {l : List α} {w : World} (h : (owC (sl e A) F [.slice (some ⟨g, 0, none⟩) n c] l).A w) :
    ∃ (cur xs : List Value) (Fs : List (List Nat)), (blkC g e cur).A w ∧ F = g :: Fs.flatten ∧ n = l.length ∧ n ≤ c ∧ c ≤ maxLen ∧ cur.length = c * A.size ∧ cur.take (n * A.size) = xs ∧ owL A w Fs xs l := by
  obtain ⟨v0, xs, Fs, hv, hown, hl, hFF⟩ := h
  simp only [List.cons.injEq, and_true] at hv
  subst hv
  obtain ⟨hxl, hrest⟩ := hown
  rcases hrest with ⟨hbad, _⟩ | ⟨g', c0, cur, hv, hb0, hcur, hnc, hcm, hcs, htake⟩
  · simp at hbad
  · simp only [Value.slice.injEq, Option.some.injEq, Addr.mk.injEq, and_true, true_and] at hv
    obtain ⟨rfl, rfl, rfl⟩ := hv
    exact ⟨cur.toList, xs, Fs, by simpa [blkC] using hcur, by rw [hFF]; rfl, rfl, hnc, hcm, by rw [Array.length_toList]; exact hcs, htake, hl⟩

theorem own_closeN {α : Type} {A : Lay α} {e g n c : Nat} {l : List α} {w : World} {cur xs : List Value} {Fs : List (List Nat)} (hb : (blkC g e cur).A w) (hn : n = l.length) (hm : n ≤ c) (hc : c ≤ maxLen) (hlen : cur.length = c * A.size) (ht : cur.take (n * A.size) = xs) (hl : owL A w Fs xs l) :
    (owC (sl e A) (g :: Fs.flatten) [.slice (some ⟨g, 0, none⟩) n c] l).A w := by
  subst hn
  exact ⟨_, xs, Fs, rfl, ⟨(owL_len hl).1, .inr ⟨g, c, cur.toArray, rfl, Nat.zero_le _, hb, hm, hc, by rw [List.size_toArray]; exact hlen, ht⟩⟩, hl, rfl⟩

theorem owL_setF {α : Type} {A : Lay α} {w w' : World} {f : Nat} {v : Value} {G : List Nat} {y : α} (hf : f < A.size) : ∀ {l : List α} {Fs : List (List Nat)} {cs : List Value} {k : Nat}, owL A w Fs cs l → (hk : k < l.length) →
    (∀ F es, Fs[k]? = some F → A.ow w F es l[k] → A.ow w' G (es.set f v) y) → (∀ b ∈ (Fs.eraseIdx k).flatten, w'.heap[b]? = w.heap[b]?) → owL A w' (Fs.set k G) (cs.set (k * A.size + f) v) (l.set k y)
  | [], _, _, k, _, hk, _, _ => by simp at hk
  | x :: l, _, _, k, h, hk, hy, hb => by
    obtain ⟨F, Fs', ds, cs', rfl, rfl, hx, hl⟩ := h
    have hds := ow_len hx
    cases k with
    | zero =>
      refine ⟨G, Fs', ds.set f v, cs', rfl, ?_, hy F ds rfl hx, owL_stb hl (fun b hm => hb b (by simpa using hm))⟩
      rw [Nat.zero_mul, Nat.zero_add, List.set_append_left _ _ (by omega)]
    | succ k =>
      have ih := owL_setF hf (k := k) hl (by simpa using hk) (fun F' es h1 h2 => hy F' es (by simpa using h1) (by simpa using h2)) (fun b hm => hb b (by simp [hm]))
      refine ⟨F, Fs'.set k G, ds, cs'.set (k * A.size + f) v, rfl, ?_, A.ow_stb hx (fun b hm => hb b (by simp [hm])), ih⟩
      rw [List.set_append_right _ _ (by rw [hds, Nat.add_mul]; omega), hds]
      congr 2
      rw [Nat.add_mul]; omega

/-- A load of a field that is plain. -/
theorem yh_loadOE {α : Type} {A : Lay α} {t e : TypeId} {x : Operand} {g n c k : Nat} {F : List Nat} {l : List α} {u : α} (i f : Nat) (hfld : ∀ w F cs, A.ow w F cs u → cs[f]? = some v) (ho : o.op = .load t x) (hx : ev L x = some (.pointer (some ⟨g, 0 + k * A.size + f, none⟩))) (hg : T.agg t = some false)
    (hi : H[i]? = some (owC (sl e A) F [.slice (some ⟨g, 0, none⟩) n c] l)) (hk : l[k]? = some u) : YH P o v N L w0 M H :=
  yh_loadS T ho hx hg fun w hH => by
    obtain ⟨cur, xs, Fs, hb, _, rfl, hnc, hcm, hlen, ht, hl⟩ := own_openN (hH.at hi)
    obtain ⟨F1, es, _, hes, hcs⟩ := owL_get hl hk
    have h1 := hcs f v (hfld w F1 es hes)
    rw [Nat.zero_add, blk_cell hb, ← h1, ← ht]
    rw [← ht] at h1
    have hlt := (List.getElem?_eq_some_iff.1 h1).1
    rw [List.length_take] at hlt
    rw [List.getElem?_take_of_lt (by omega)]

/-- A store into a plain field. -/
theorem ow_setFP {α : Type} {A : Lay α} {t e : TypeId} {x y : Operand} {g k n c by_ : Nat} {z v : Value} {F : List Nat} {l : List α} {y0 : α} (i f : Nat) (u : α) (hu : ∀ w F cs, A.ow w F cs y0 → A.ow w F (cs.set f v) u)
    (ho : o.op = .store t x y) (hx : ev L x = some (.pointer (some ⟨g, 0 + k * A.size + f, none⟩))) (hy : ev L y = some v)
    (hin : T.inf t = some (z, 1, by_)) (hi : H[i]? = some (owC (sl e A) F [.slice (some ⟨g, 0, none⟩) n c] l)) (h1 : v.oneCell' = true) (hf : Nat.blt f A.size = true) (hk : l[k]? = some y0)
    (hd : o.dst = none) (h : KK K N L w0 M (owC (sl e A) F [.slice (some ⟨g, 0, none⟩) n c] (l.set k u) :: H.eraseIdx i)) : OW P o Q K N L w0 M H := .mk fun a w hF hH => by
  have hf : f < A.size := by simpa [Nat.blt_eq] using hf
  obtain ⟨cur, xs, Fs, hb, rfl, rfl, hmc, hcm, hlen, ht, hl⟩ := own_openN (hH.at hi)
  obtain ⟨ti, g1, _, g3, _⟩ := T.info hin
  obtain ⟨hkl, hky⟩ := List.getElem?_eq_some_iff.1 hk
  have hlast : k * A.size + f < l.length * A.size := by
    have := Nat.mul_le_mul_right A.size (show k + 1 ≤ l.length by omega)
    rw [Nat.add_mul] at this; omega
  have hcap : l.length * A.size ≤ c * A.size := Nat.mul_le_mul_right _ hmc
  have hs := run_storeBlk (P := P) hb (vs := [v]) (i := k * A.size + f) (by simp; omega) (by simpa using h1)
  have hr : (execOp a.eval o).run P w = .ok .skip (w.setRow g (put cur [v] (k * A.size + f)).toArray) := by
    have hsz : v.cells.toList = [v] := cells_one h1
    have hsz' : v.cells.size = 1 := by rw [← Array.length_toList, hsz]; rfl
    simp [execOp, ho, hF.ev hx, hF.ev hy, Instr.storeAt, Instr.sureAddr, storeVar, sizeOf, typeInfo, g1, g3, hsz', hsz, hs]
  unfold Oper.wp
  rw [hr]
  show K (a.put o.dst _) _
  rw [hd]
  have hput : put cur [v] (k * A.size + f) = cur.set (k * A.size + f) v := by
    rw [put, List.set_eq_take_append_cons_drop, if_pos (by omega)]
    simp
  have hfront : Hp w0 M ([owC (sl e A) (g :: Fs.flatten) [.slice (some ⟨g, 0, none⟩) l.length c] l] ++ H.eraseIdx i) w := hH.front hi
  have hnd : (g :: Fs.flatten).Nodup := by
    have := hfront.nd
    rw [ff_append] at this
    simpa [ff, owC] using (List.nodup_append.1 this).1
  have hgn := (List.nodup_cons.1 hnd).1
  have hoth : ∀ b, b ≠ g → (w.setRow g (put cur [v] (k * A.size + f)).toArray).heap[b]? = w.heap[b]? := fun b hb => setRow_other w g b _ hb
  have hnew : (blkC g e (put cur [v] (k * A.size + f))).A (w.setRow g (put cur [v] (k * A.size + f)).toArray) := by
    have := setRow_heap w g cur.toArray (put cur [v] (k * A.size + f)).toArray e (0, 0) hb
    simpa [blkC] using this
  have hFl := (owL_len hl).2
  have hFk : Fs[k]? = some (Fs[k]'(by omega)) := List.getElem?_eq_getElem (by omega)
  have hset := owL_setF (w' := w.setRow g (put cur [v] (k * A.size + f)).toArray) (v := v) (G := Fs[k]'(by omega)) (y := u) hf hl hkl (fun F' es h2 h3 => by
    rw [hFk] at h2
    injection h2 with h2
    subst h2
    rw [hky] at h3
    refine A.ow_stb (hu w _ es h3) (fun b hb2 => hoth b (fun e1 => hgn ?_))
    subst e1
    exact List.mem_flatten.2 ⟨_, List.getElem_mem _, hb2⟩) (fun b hb2 => hoth b (fun e1 => hgn (by
      subst e1
      obtain ⟨F1, hF1, hb1⟩ := List.mem_flatten.1 hb2
      exact List.mem_flatten.2 ⟨F1, List.mem_of_mem_eraseIdx hF1, hb1⟩)))
  rw [List.set_getElem_self] at hset
  refine h.go _ _ hF ?_
  refine hfront.mod (C' := [owC (sl e A) (g :: Fs.flatten) [.slice (some ⟨g, 0, none⟩) l.length c] (l.set k u)]) ⟨rfl, rfl, rfl, by simp, fun b _ hb => hoth b (fun e1 => hb ?_)⟩ ?_ (by simpa [ff, owC] using hnd) (by intro b hb; left; simpa [ff, owC] using hb)
  · rw [e1]; simp [ff, owC]
  · intro ch hch
    simp only [List.mem_singleton] at hch
    subst hch
    exact own_closeN hnew (by simp) hmc hcm (by rw [hput]; simpa using hlen) (by rw [hput, List.take_set, ht]) hset

/-- A store of an owned slice into a field. -/
theorem ow_setFS {α β : Type} {A : Lay α} {B : Lay β} {t e : TypeId} {x y : Operand} {g k n c by_ : Nat} {z v : Value} {F G : List Nat} {l : List α} {y0 : α} {y2 : β} (i j f : Nat) (u : α) (hu : ∀ w F cs, A.ow w F cs y0 → B.ow w G [v] y2 → A.ow w G (cs.set f v) u)
    (ho : o.op = .store t x y) (hx : ev L x = some (.pointer (some ⟨g, 0 + k * A.size + f, none⟩))) (hy : ev L y = some v)
    (hin : T.inf t = some (z, 1, by_)) (hi : H[i]? = some (owC (sl e A) F [.slice (some ⟨g, 0, none⟩) n c] l)) (hj : (H.eraseIdx i)[j]? = some (owC B G [v] y2)) (h1 : v.oneCell' = true) (hf : Nat.blt f A.size = true) (hk : l[k]? = some y0)
    (hd : o.dst = none) (h : ∀ F', KK K N L w0 M (owC (sl e A) F' [.slice (some ⟨g, 0, none⟩) n c] (l.set k u) :: (H.eraseIdx i).eraseIdx j)) : OW P o Q K N L w0 M H := .mk fun a w hF hH => by
  have hf : f < A.size := by simpa [Nat.blt_eq] using hf
  obtain ⟨cur, xs, Fs, hb, rfl, rfl, hmc, hcm, hlen, ht, hl⟩ := own_openN (hH.at hi)
  obtain ⟨ti, g1, _, g3, _⟩ := T.info hin
  obtain ⟨hkl, hky⟩ := List.getElem?_eq_some_iff.1 hk
  have hlast : k * A.size + f < l.length * A.size := by
    have := Nat.mul_le_mul_right A.size (show k + 1 ≤ l.length by omega)
    rw [Nat.add_mul] at this; omega
  have hcap : l.length * A.size ≤ c * A.size := Nat.mul_le_mul_right _ hmc
  have hs := run_storeBlk (P := P) hb (vs := [v]) (i := k * A.size + f) (by simp; omega) (by simpa using h1)
  have hr : (execOp a.eval o).run P w = .ok .skip (w.setRow g (put cur [v] (k * A.size + f)).toArray) := by
    have hsz : v.cells.toList = [v] := cells_one h1
    have hsz' : v.cells.size = 1 := by rw [← Array.length_toList, hsz]; rfl
    simp [execOp, ho, hF.ev hx, hF.ev hy, Instr.storeAt, Instr.sureAddr, storeVar, sizeOf, typeInfo, g1, g3, hsz', hsz, hs]
  unfold Oper.wp
  rw [hr]
  show K (a.put o.dst _) _
  rw [hd]
  have hput : put cur [v] (k * A.size + f) = cur.set (k * A.size + f) v := by
    rw [put, List.set_eq_take_append_cons_drop, if_pos (by omega)]
    simp
  have hfront : Hp w0 M ([owC (sl e A) (g :: Fs.flatten) [.slice (some ⟨g, 0, none⟩) l.length c] l, owC B G [v] y2] ++ (H.eraseIdx i).eraseIdx j) w := hH.perm ((front_perm hi).trans ((front_perm hj).cons _))
  have hnd : (g :: (Fs.flatten ++ G)).Nodup := by
    have := hfront.nd
    rw [ff_append] at this
    simpa [ff, owC] using (List.nodup_append.1 this).1
  have hgn := (List.nodup_cons.1 hnd).1
  have hG : B.ow w G [v] y2 := hfront.own (owC B G [v] y2) (by simp)
  have hoth : ∀ b, b ≠ g → (w.setRow g (put cur [v] (k * A.size + f)).toArray).heap[b]? = w.heap[b]? := fun b hb => setRow_other w g b _ hb
  have hnew : (blkC g e (put cur [v] (k * A.size + f))).A (w.setRow g (put cur [v] (k * A.size + f)).toArray) := by
    have := setRow_heap w g cur.toArray (put cur [v] (k * A.size + f)).toArray e (0, 0) hb
    simpa [blkC] using this
  have hset := owL_setF (w' := w.setRow g (put cur [v] (k * A.size + f)).toArray) (v := v) (G := G) (y := u) hf hl hkl (fun F' es h2 h3 => by
    rw [hky] at h3
    exact A.ow_stb (hu w _ es h3 hG) (fun b hb2 => hoth b (fun e1 => hgn (by subst e1; simp [hb2])))) (fun b hb2 => hoth b (fun e1 => hgn (by
      subst e1
      obtain ⟨F1, hF1, hb1⟩ := List.mem_flatten.1 hb2
      exact List.mem_append.2 (.inl (List.mem_flatten.2 ⟨F1, List.mem_of_mem_eraseIdx hF1, hb1⟩)))))
  have hsetm : ∀ b ∈ (Fs.set k G).flatten, b ∈ Fs.flatten ++ G := fun b hb => by
    obtain ⟨F1, hF1, hb1⟩ := List.mem_flatten.1 hb
    rcases List.mem_or_eq_of_mem_set hF1 with h1 | h1
    · exact List.mem_append.2 (.inl (List.mem_flatten.2 ⟨F1, h1, hb1⟩))
    · subst h1; exact List.mem_append.2 (.inr hb1)
  refine (h (g :: (Fs.set k G).flatten)).go _ _ hF ?_
  refine hfront.mod (C' := [owC (sl e A) (g :: (Fs.set k G).flatten) [.slice (some ⟨g, 0, none⟩) l.length c] (l.set k u)]) ⟨rfl, rfl, rfl, by simp, fun b _ hb => hoth b (fun e1 => hb ?_)⟩ ?_ ?_ ?_
  · rw [e1]; simp [ff, owC]
  · intro ch hch
    simp only [List.mem_singleton] at hch
    subst hch
    exact own_closeN hnew (by simp) hmc hcm (by rw [hput]; simpa using hlen) (by rw [hput, List.take_set, ht]) hset
  · simp only [ff, owC, List.flatMap_cons, List.flatMap_nil, List.append_nil]
    exact List.nodup_cons.2 ⟨fun hm => hgn (hsetm g hm), nodup_set Fs k (List.nodup_cons.1 hnd).2⟩
  · intro b hb
    simp only [ff, owC, List.flatMap_cons, List.flatMap_nil, List.append_nil] at hb ⊢
    left
    rcases List.mem_cons.1 hb with rfl | hb
    · simp
    · have := hsetm b hb
      simp only [List.cons_append, List.mem_cons]
      exact .inr this

theorem own_lenK {α : Type} {e n c : Nat} {A : Lay α} {a : Option Addr} {F : List Nat} {l : List α} {w : World} (i : Nat) (hi : H[i]? = some (owC (sl e A) F [.slice a n c] l)) (hH : Hp w0 M H w) : n = l.length :=
  (sl_len (A := A) ((sl e A).ow_rd (F := F) (M := []) (hH.at hi) (by simp))).1
theorem own_max {α : Type} {e n c : Nat} {A : Lay α} {a : Option Addr} {F : List Nat} {l : List α} {w : World} (i : Nat) (hi : H[i]? = some (owC (sl e A) F [.slice a n c] l)) (hH : Hp w0 M H w) : n ≤ 9223372036854775807 := by
  have h := sl_len (A := A) ((sl e A).ow_rd (F := F) (M := []) (hH.at hi) (by simp))
  simp only [maxLen] at h
  omega
theorem wl_know {ops : Array Oper} {l : List Oper} (R : Prop) (hr : ∀ w, Hp w0 M H w → R) (h : R → WL P ops Q l N L w0 M H) : WL P ops Q l N L w0 M H := ⟨fun a w hF hH => (h (hr w hH)).go a w hF hH⟩
theorem wd_know {l : List Oper} {F T : List Nat} {fuel : Nat} {bs : List Bool} (R : Prop) (hr : ∀ w, Hp w0 M H w → R) (h : R → WD P l Q F T w0 M Hs fuel bs N L H) : WD P l Q F T w0 M Hs fuel bs N L H := ⟨fun a w hF hH => (h (hr w hH)).go a w hF hH⟩
theorem ex_know {x : Exit} (R : Prop) (hr : ∀ w, Hp w0 M H w → R) (h : R → EX Q x N L w0 M H) : EX Q x N L w0 M H := ⟨fun a w hF hH => (h (hr w hH)).go a w hF hH⟩
end

end Go.Proofs.YtacecnffggffmaaDoor
