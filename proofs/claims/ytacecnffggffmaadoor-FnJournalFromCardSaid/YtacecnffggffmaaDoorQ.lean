/- What the events' functions read of the package's variables and of the library's tables; numbers turned round. -/
import Derived.Test.YtacecnffggffmaaDoorN
import Derived.Lib.LaidTab
import Derived.Lib.ItoaNum
set_option linter.all false
namespace Go.Proofs.YtacecnffggffmaaDoor
open Go.RowKit

def evWords : List Str := [⟨#[]⟩, ⟨#[100, 105, 100]⟩, ⟨#[102, 97, 105, 108, 101, 100]⟩, ⟨#[117, 110, 100, 105, 100]⟩]

structure GlobF (M : List Nat) (w : World) : Prop where
  ew : ∃ a c, CellN w M 0 0 [.slice a evWords.length c] ∧ strsL.rd w M [.slice a evWords.length c] evWords
  mx : ∃ m, CellN w M 1 0 [.int .i64 m]
  es : ∃ v, CellN w M 2 0 [v] ∧ (v = .nilIface ∨ ∃ te pe, v = .iface te pe)
  er : ∃ v, CellN w M 3 0 [v] ∧ (v = .nilIface ∨ ∃ te pe, v = .iface te pe)
  tg : 4 ∉ M ∧ 4 < w.heap.size
  tab : Lib.TabIs Tryd.prog w "internal/strconv.uint64pow10" .u64 Lib.pow10Tab

theorem CellN.ext {w w' : World} {M : List Nat} {b o : Nat} {vs : List Value} (h : CellN w M b o vs) (hE : ExtM M w w') : CellN w' M b o vs := ⟨h.1, fun j u hj => hE.cell (h.2 j u hj) h.1⟩
theorem cell_lt {w : World} {a : Addr} {u : Value} (h : w.cell? a = some u) : a.block < w.heap.size := by
  unfold World.cell? at h
  cases hb : w.heap[a.block]? with
  | none => rw [hb] at h; simp at h
  | some x => exact (Array.getElem?_eq_some_iff.1 hb).1
theorem CellN.mono {w : World} {M M' : List Nat} {b o : Nat} {v : Value} {vs : List Value} (h : CellN w M b o (v :: vs)) (hM : ∀ b ∈ M', b ∈ M ∨ w.heap.size ≤ b) : CellN w M' b o (v :: vs) := by
  refine ⟨fun hb => ?_, h.2⟩
  rcases hM b hb with h1 | h1
  · exact h.1 h1
  · have := cell_lt (h.2 0 v rfl)
    simp only at this
    omega
theorem tab_global : Tryd.prog.globalNamed "internal/strconv.uint64pow10" = some 4 := by kernel_rfl
theorem GlobF.ext {M : List Nat} {w w' : World} (h : GlobF M w) (hE : ExtM M w w') : GlobF M w' where
  ew := by
    obtain ⟨a, c, h1, h2⟩ := h.ew
    exact ⟨a, c, h1.ext hE, strsL.rd_ext h2 hE⟩
  mx := by
    obtain ⟨m, h1⟩ := h.mx
    exact ⟨m, h1.ext hE⟩
  es := by
    obtain ⟨v, h1, h2⟩ := h.es
    exact ⟨v, h1.ext hE, h2⟩
  er := by
    obtain ⟨v, h1, h2⟩ := h.er
    exact ⟨v, h1.ext hE, h2⟩
  tg := ⟨h.tg.1, Nat.lt_of_lt_of_le h.tg.2 hE.size⟩
  tab := by
    have h1 := h.tab
    unfold Lib.TabIs World.var? at h1 ⊢
    rw [tab_global] at h1 ⊢
    simp only [Option.bind_some] at h1 ⊢
    rw [hE.block _ h.tg.2 h.tg.1]
    exact h1
theorem GlobF.mono {M M' : List Nat} {w : World} (h : GlobF M w) (hM : ∀ b ∈ M', b ∈ M ∨ w.heap.size ≤ b) : GlobF M' w where
  ew := by
    obtain ⟨a, c, h1, h2⟩ := h.ew
    exact ⟨a, c, h1.mono hM, strsL.rd_mono h2 hM⟩
  mx := by
    obtain ⟨m, h1⟩ := h.mx
    exact ⟨m, h1.mono hM⟩
  es := by
    obtain ⟨v, h1, h2⟩ := h.es
    exact ⟨v, h1.mono hM, h2⟩
  er := by
    obtain ⟨v, h1, h2⟩ := h.er
    exact ⟨v, h1.mono hM, h2⟩
  tg := ⟨fun hb => by
    rcases hM _ hb with h1 | h1
    · exact h.tg.1 h1
    · have := h.tg.2; omega, h.tg.2⟩
  tab := h.tab

/-- The facts, as something that is read. -/
def globL : Lay Unit where
  size := 0
  rd := fun w M cs _ => cs = [] ∧ GlobF M w
  rd_ext := fun h hE => ⟨h.1, h.2.ext hE⟩
  rd_mono := fun h hM => ⟨h.1, h.2.mono hM⟩
  rd_len := fun h => by rw [h.1]; rfl
  rd_one := fun h u hu => by rw [h.1] at hu; cases hu
  ow := fun _ _ _ _ => False
  ow_stb := fun h _ => h.elim
  ow_lt := fun h => h.elim
  ow_rd := fun h _ => h.elim
theorem glob_ew {w : World} {M : List Nat} (h : globL.rd w M [] ()) : ∃ a c, CellN w M 0 0 [.slice a evWords.length c] ∧ strsL.rd w M [.slice a evWords.length c] evWords := h.2.ew

section
variable {P : Program} (T : Tab P) {Q : Exit → Act → World → Prop} {N : Nat} {L : SL} {w0 : World} {M : List Nat} {H Hs : List Ch} {o : Oper} {K : Act → World → Prop} {d : Nat} {v : Value}
theorem yh_negI {t : TypeId} {x : Operand} {n : Int} (ho : o.op = .unOp .neg t x) (hx : ev L x = some (.int .i64 n)) : YH P o (.int .i64 (w64 (0 - n))) N L w0 M H := .mk fun a w hF _ => by
  simp [execOp, ho, hF.ev hx, Op.unary, Op.intArith, w64]
theorem yh_subU {t u : TypeId} {x y : Operand} {m n : Int} (ho : o.op = .binOp .sub t x y u) (hx : ev L x = some (.int .u8 m)) (hy : ev L y = some (.int .u8 n)) : YH P o (.int .u8 (u8w (m - n))) N L w0 M H := .mk fun a w hF hH => by
  simp [execOp, ho, hF.ev hx, hF.ev hy, eqGuard_at_int, binOp_sub, Op.intArith, u8w]
theorem bget_fit {s : Str} {k y : Nat} (h : bget s k = some y) : -9223372036854775808 ≤ ((y : Nat) : Int) ∧ ((y : Nat) : Int) ≤ 9223372036854775807 := by
  unfold bget at h
  split at h
  · obtain rfl := Option.some.inj h
    have := UInt8.toNat_lt (s[k])
    omega
  · cases h
theorem u8w_fit (n : Int) : -9223372036854775808 ≤ u8w n ∧ u8w n ≤ 9223372036854775807 := by
  have h : u8w n = n % 256 := by simp [u8w, IntKind.wrap, IntKind.signed, IntKind.bits]
  rw [h]
  omega
end
end Go.Proofs.YtacecnffggffmaaDoor
