/- Rules for walks that a program prints, third part. -/
import Derived.Test.YtacecnffggffmaaDoorU
set_option linter.all false
namespace Go.Proofs.YtacecnffggffmaaDoor
open Go.RowKit

theorem nt {b : Bool} (h : (!b) = true) : b = false := by cases b <;> simp_all
theorem nf {b : Bool} (h : (!b) = false) : b = true := by cases b <;> simp_all

def appd {α : Type} (l m : List α) : Option (List α) := if l.length + m.length ≤ 4000000000 then some (l ++ m) else none
theorem appd_some {α : Type} {l m r : List α} (h : appd l m = some r) : r = l ++ m ∧ l.length + m.length ≤ 4000000000 := by
  unfold appd at h
  split at h
  · rename_i hk; injection h with h; exact ⟨h.symm, hk⟩
  · cases h
theorem app1 {α : Type} {l : List α} {x : α} (h : l.length + [x].length ≤ 4000000000) : l.length ≤ 4000000000 := by omega

/-- The text is not too long to be counted. -/
def ssz (s : ByteArray) : Option Unit := if s.size ≤ 4611686018427387904 then some () else none
theorem ssz_some {s : ByteArray} {u : Unit} (h : ssz s = some u) : s.size ≤ 4611686018427387904 := by
  unfold ssz at h
  split at h
  · assumption
  · cases h

theorem slTo_K {α : Type} {l m : List α} {k : Int} (h : slTo l k = some m) : k = (m.length : Int) ∧ m.length ≤ l.length := by
  obtain ⟨h1, h2, h3, h4⟩ := slTo_some h
  exact ⟨by omega, by omega⟩

section
variable {w0 w : World} {M F : List Nat} {α : Type} {e : TypeId} {A : Lay α} {a : Option Addr} {n c : Nat}
theorem sl_takeK {l m : List α} {k : Int} (h : (sl e A).rd w0 M [.slice a n c] l) (hz : slTo l k = some m) : (sl e A).rd w0 M [.slice a m.length c] m := by
  obtain ⟨h1, h2, h3, h4⟩ := slTo_some hz
  have hl := (sl_len h).1
  have := sl_take h (k := k.toNat) (by omega)
  rw [h4, h3]
  exact this
theorem sl_dropK {l m : List α} {k : Int} (h : (sl e A).rd w0 M [.slice a l.length c] l) (hz : slFrom l k = some m) :
    ∃ a' c', a' = (if c = k.toNat then a else a.map (·.add (k.toNat * A.size))) ∧ c' = c - k.toNat ∧ k.toNat ≤ l.length ∧ (sl e A).rd w0 M [.slice a' m.length c'] m := by
  obtain ⟨h1, h2, h3, h4⟩ := slFrom_some hz
  refine ⟨_, _, rfl, rfl, h2, ?_⟩
  have := sl_drop h (k := k.toNat) h2
  rw [h4, h3]
  exact this
theorem rd_nil (B : Lay (List α)) (hB : B = sl e A) (w : World) (M : List Nat) : B.rd w M [.slice none 0 0] [] := by
  subst hB
  exact ⟨none, 0, rfl, Nat.le_refl _, by simp [maxLen], fun h => by simp at h⟩
end

section
variable {P : Program} (T : Tab P) {Q : Exit → Act → World → Prop} {N : Nat} {L : SL} {w0 : World} {M : List Nat} {H Hs : List Ch} {o : Oper} {K : Act → World → Prop} {d : Nat} {v : Value}

theorem Hp.nil {w : World} {α : Type} {e : TypeId} {A : Lay α} (B : Lay (List α)) (hB : B = sl e A) (h : Hp w0 M H w) : Hp w0 M (owC B [] [.slice none 0 0] [] :: H) w := by
  subst hB
  exact h.cons0 rfl (ow_nil e A w)
theorem cw_nilS {c : Code} {α : Type} {e : TypeId} {A : Lay α} (B : Lay (List α)) (hB : B = sl e A) (h : CW P c Q N L w0 M (owC B [] [.slice none 0 0] [] :: H)) : CW P c Q N L w0 M H := ⟨fun a w hf hH => h.go a w hf (hH.nil B hB)⟩
theorem ex_nilS {x : Exit} {α : Type} {e : TypeId} {A : Lay α} (B : Lay (List α)) (hB : B = sl e A) (h : EX Q x N L w0 M (owC B [] [.slice none 0 0] [] :: H)) : EX Q x N L w0 M H := ⟨fun a w hf hH => h.go a w hf (hH.nil B hB)⟩
theorem ow_nilS {α : Type} {e : TypeId} {A : Lay α} (B : Lay (List α)) (hB : B = sl e A) (h : OW P o Q K N L w0 M (owC B [] [.slice none 0 0] [] :: H)) : OW P o Q K N L w0 M H := ⟨fun a w hf hH => h.go a w hf (hH.nil B hB)⟩
theorem ow_chg (i : Nat) {c c' : Ch} (hi : H[i]? = some c) (hc : ∀ w, c.A w → c'.A w) (hF : c'.F = c.F) (h : OW P o Q K N L w0 M (c' :: H.eraseIdx i)) : OW P o Q K N L w0 M H :=
  ⟨fun a w hf hH => h.go a w hf (hH.chg hi (hc w) hF)⟩

theorem yh_mkfn {fn : Fn} {caps : List Operand} {vs : List Value} (ho : o.op = .makeFunc fn #[] caps.toArray) (hx : evs L caps = some vs) : YH P o (.func fn #[] vs.toArray) N L w0 M H := .mk fun a w hF _ => by
  have := hF.evs hx
  simp [execOp, ho, Instr.makeFunc, List.map_toArray, this]

theorem yh_sliceLK {α : Type} {l m : List α} {k : Int} {t e : TypeId} {x y : Operand} {a a' : Option Addr} {c c' : Nat} {kk : IntKind} {z : Value} {s by_ : Nat} (hz : slFrom l k = some m) (ha : a' = (if c = k.toNat then a else a.map (·.add (k.toNat * s)))) (hc : c' = c - k.toNat)
    (ho : o.op = .slice t x (some y) none none) (hx : ev L x = some (.slice a l.length c)) (hy : ev L y = some (.int kk k)) (hk : k.toNat ≤ l.length) (hu : T.sle t = some e) (hin : T.inf e = some (z, s, by_)) : YH P o (.slice a' m.length c') N L w0 M H := by
  obtain ⟨h1, h2, h3, h4⟩ := slFrom_some hz
  rw [ha, hc, h4]
  exact yh_sliceL T ho hx hy h1 hk hu hin

theorem yh_loadAF2 {t : TypeId} {x : Operand} {b i : Nat} {vs : List Value} (j j2 : Nat) (ho : o.op = .load t x) (hx : ev L x = some (.pointer (some ⟨b, i + j + j2, none⟩))) (hg : T.agg t = some false)
    (hc : CellN w0 M b i vs) (hv : vs[j + j2]? = some v) : YH P o v N L w0 M H := yh_loadAF T (j := j + j2) ho (by rw [hx, Nat.add_assoc]) hg hc hv

theorem own_strsL {g : Nat} {cs : List Value} {w : World} (l : List Str) (h : (blkC g 9 cs).A w) (hcs : cs = l.flatMap (fun s => [.string s])) (hm : l.length ≤ maxLen) : strsL.ow w [g] [.slice (some ⟨g, 0, none⟩) l.length l.length] l :=
  own_blkP (enc := fun (s : Str) => [.string s]) (hl := fun _ => rfl) (h1 := fun _ u hu => by simp at hu; subst hu; rfl) l h hcs hm
theorem own_eventsL {g : Nat} {cs : List Value} {w : World} (l : List Event) (h : (blkC g 35 cs).A w) (hcs : cs = l.flatMap (fun t => [.int .i64 t.kind, .string t.name])) (hm : l.length ≤ maxLen) : eventsL.ow w [g] [.slice (some ⟨g, 0, none⟩) l.length l.length] l :=
  own_blkP (n := 2) (enc := fun (t : Event) => [.int .i64 t.kind, .string t.name]) (hl := fun _ => rfl) (h1 := fun _ u hu => by simp at hu; rcases hu with rfl | rfl <;> rfl) l h hcs hm
/-- An empty block is an empty slice of whatever. -/
theorem own_nilB {α : Type} {A : Lay α} {e g : Nat} {cs : List Value} {w : World} (h : (blkC g e cs).A w) (hcs : cs = []) : (sl e A).ow w [g] [.slice (some ⟨g, 0, none⟩) 0 0] [] := by
  subst hcs
  refine ⟨_, [], [], rfl, ⟨by simp, .inr ⟨g, 0, #[], rfl, Nat.zero_le _, h, Nat.le_refl _, by simp [maxLen], by simp, by simp⟩⟩, ⟨rfl, rfl⟩, by simp [Value.ownBlock]⟩
end

section
variable {w0 w w' : World} {M : List Nat} {H : List Ch}
theorem cell_blk {g : Nat} {t : TypeId} {cs : List Value} (h : (blkC g t cs).A w) : CellN w [] g 0 cs := ⟨by simp, fun j u hj => by rw [Nat.zero_add, blk_cell h]; exact hj⟩
theorem CellN.at2 {b o : Nat} {vs : List Value} (h : CellN w0 M b o vs) (hH : Hp w0 M H w) : CellN w [] b o vs := ⟨by simp, fun j u hj => h.at_ hH hj⟩
/-- One piece turns. -/
theorem Hp.stepX (h : Hp w0 M H w) (i : Nat) {c : Ch} (hi : H[i]? = some c) (hE : ExtM c.F w w') : Hp w0 M (H.eraseIdx i) w' := by
  have hf : Hp w0 M ([c] ++ H.eraseIdx i) w := h.front hi
  have e : ff [c] = c.F := by simp [ff]
  exact hf.mod (C' := []) (by rw [e]; exact hE) (by simp) (by simp [ff]) (by simp [ff])
end

end Go.Proofs.YtacecnffggffmaaDoor
