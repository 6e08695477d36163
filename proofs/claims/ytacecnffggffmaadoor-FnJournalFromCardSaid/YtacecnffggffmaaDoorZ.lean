/- What the rows' condition tells of the variables and tables, and the frame of a law over them. -/
import Derived.Test.YtacecnffggffmaaDoorO
import Derived.Test.YtacecnffggffmaaDoorQ
import Derived.Test.YtacecnffggffmaaDoorRows
import Derived.HandedShaped
import Derived.LaidMore
import Derived.LaidLaws
import Derived.Lay
import Derived.OpenVars
import Derived.Shelf.Vars
import Derived.PinnedBridge
import Derived.Stop.Joined
set_option linter.all false
namespace Go.Proofs.YtacecnffggffmaaDoor
open Go.ChangeShapes Go.WideShapes Go.ChangeAt Go.RowKit

/-- Both at once: the variables' condition and the world's shape. -/
theorem returnsInHanded_of_change_andShaped {H : Type} {enc : TypeId × Value → H} {a : Assume} {C : Checked} {os : Os} {f : FuncId} {fn : Func} {s : ChangeSpec} {conds : List PathCond} {apart fresh handsOn again : Bool} {X : World → Array Value → Prop}
    (hX : ∀ (w w' : World) (args : Array Value), w.heap = w'.heap → X w args → X w' args)
    (own : ownKnob C.prog.godebug = none) (started : os.Started) (noInit : C.prog.inits.idxOf? f = none) (hfn : C.prog.funcs[f]? = some fn)
    (witness : ∃ (w : World) (tape : Tape) (i : Input), w.os = os ∧ (w.forCall tape i).Shaped C.prog ∧ i.vars = [] ∧ Input.okWide C.prog (w.forCall tape i) .any w.heap.size f i ∧
      ((s.pre enc C.prog fn conds apart (w.forCall tape i).memory i.args ∧ X (w.forCall tape i).memory i.args) ∧ sizedMet enc C.prog fn (OpenSpec.ofChange s) apart (w.forCall tape i).memory i.args) ∧ a.holds C.prog (lone (Frame.enter C.prog f i.args .normal) [] (w.forCall tape i)))
    (contract : ∀ (W : World) (base : Nat) (args : Array Value) (ds gs : List (DataW H)) (before : List MemPlace),
      (∀ (j : Nat) t v, fn.params[j]? = some t → args[j]? = some v → Value.okWide C.prog W .any base t v) →
      DataW.Whole enc C.prog fn.params.toList s.vars apart W args.toList ds gs before →
      conds.all (PathCond.test C.prog ⟨fn.params.toList, ds, s.plain.varTypes C.prog, gs⟩) = true →
      (DataW.weightsEach C.prog (fn.params.toList ++ s.plain.varTypes C.prog) (ds ++ gs)).all (· ≤ reachBytes) = true → X W args → W.ShapedOpen C.prog →
      Calls C.prog f args W fun e W' => ∃ v, e = .returned v ∧ s.post enc C.prog fn apart fresh handsOn again W args v W') :
    ReturnsInHanded a C os f .any (fun w args => (s.pre enc C.prog fn conds apart w args ∧ X w args) ∧ sizedMet enc C.prog fn (OpenSpec.ofChange s) apart w args) (s.post enc C.prog fn apart fresh handsOn again) := by
  refine returnsInHanded_of_calls own started noInit witness ?_
  intro w tape i _ hsh _ hok hpre hholds
  obtain ⟨_, _, _, fn', hfn', _, _, _, _, hval⟩ := hok
  have e : fn' = fn := Option.some.inj (hfn'.symm.trans hfn)
  subst e
  obtain ⟨⟨⟨ds, gs, before, hw, hc⟩, hx⟩, hz⟩ := hpre
  have hw' := DataW.Whole.of_heap (w' := w.forCall tape i) (by rfl) hw
  refine (contract (w.forCall tape i) w.heap.size i.args ds gs before hval hw' hc (hz.weights hw) (hX _ _ _ (by rfl) hx) hsh).mono fun e W' ⟨v, he, hp⟩ => ?_
  subst he
  exact ChangeSpec.post_blind hp

/-- A row of texts that reads as these. -/
theorem rd_texts {H : Type} {enc : TypeId × Value → H} {P : Program} {w : World} {sp : Nat → Bool} {held : Bool} {fuel : Nat} {t e e' : TypeId} {cs : List Value} {l : List Str} {p : List MemPlace} (ht : P.underlying t = some (.slice e)) (he : P.underlying e = some .string) (hc : P.cellsOf e = 1) (h0 : 0 < l.length)
    (h : DataW.trod enc P w 0 sp held fuel t cs = some (.slice (l.map fun s => .lit (.string s.data.toList)) [], p)) : ∃ a c, cs = [.slice a l.length c] ∧ (sl e' layS).rd w [] [.slice a l.length c] l := by
  rcases DataW.trod_slice ht h with ⟨_, hx⟩ | ⟨a, len, cap, elems, rest, n, _, hcs, hx, _, hl, hm, hlen, hel, _⟩
  · simp at hx
  · simp only [Prod.mk.injEq, DataW.slice.injEq] at hx
    obtain ⟨⟨h1, _⟩, _⟩ := hx
    have el : l.length = len := by
      have := congrArg List.length h1
      simp only [List.length_map] at this
      omega
    have each : ∀ i (hi : i < l.length), w.cell? (a.add i) = some (.string l[i]) := fun i hi => by
      have hE := hel i (by omega)
      rw [hc, Nat.mul_one, List.getElem?_eq_getElem (by omega)] at hE
      obtain ⟨ci, h3, h4⟩ := Option.bind_eq_some_iff.1 hE
      obtain ⟨s, rfl, hs, _⟩ := DataW.trod_string he h4
      have e1 : (elems.map (·.1))[i]? = some (.lit (.string s.data.toList)) := by rw [List.getElem?_map, List.getElem?_eq_getElem (by omega), hs]; rfl
      rw [← h1, List.getElem?_map, List.getElem?_eq_getElem hi] at e1
      simp only [Option.map_some, Option.some.injEq, DataW.lit.injEq, Lit.string.injEq] at e1
      have e2 : l[i] = s := by
        have := congrArg List.toArray e1
        cases hli : l[i]; cases s
        rw [hli] at this
        simp at this
        rw [this]
      obtain ⟨_, h5, h6⟩ := World.cells?_some h3
      have h7 := h6 0 (by omega)
      have h9 : (a.add i).add 0 = a.add i := by simp [Addr.add]
      rw [h9] at h7
      rw [h7, e2]; rfl
    refine ⟨some a, cap, by rw [el]; exact hcs, some a, cap, rfl, by omega, hm, fun _ => ?_⟩
    have h8 := each 0 h0
    have h9 : a.add 0 = a := by simp [Addr.add]
    rw [h9] at h8
    have hspot := World.cell?_spot h8
    obtain ⟨b, o, spot⟩ := a
    simp only at hspot
    subst hspot
    refine ⟨b, o, rfl, by simp, World.block_lt_of_cell? w _ h8, fun k y hk => ?_⟩
    have hkl := (List.getElem?_eq_some_iff.1 hk)
    obtain ⟨hk1, rfl⟩ := hkl
    refine ⟨[.string l[k]], fun j u hj => ?_, rfl⟩
    cases j with
    | zero =>
      simp only [List.getElem?_cons_zero, Option.some.injEq] at hj
      subst hj
      have := each k hk1
      rw [Addr.add_lit] at this
      rw [show (layS : Lay Str).size = 1 from rfl, Nat.mul_one]
      exact this
    | succ j => simp at hj

def evLaid : List (String × DataW Unit) := Rows.fnJournalRow.laid

/-- What the condition and the shape tell. -/
theorem glob_of {W : World} (hL : laidMetH Tryd.prog evLaid W) (hsh : W.ShapedOpen Tryd.prog) : globL.rd W [] [] () := by
  have hL2 : laidMet Tryd.prog evLaid W := by
    rw [MakeChecks.laidMetH_plain _ _ _ (by kernel_rfl)] at hL
    exact hL
  obtain ⟨ps, h1, _, hfit⟩ := hL2
  obtain ⟨g1, t1, cs1, fu1, p1, q1, a1, b1, c1, d1, h2, _⟩ := h1
  obtain ⟨g2, t2, cs2, fu2, p2, q2, a2, b2, c2, d2, h3, _⟩ := h2
  obtain ⟨g3, t3, cs3, fu3, p3, q3, a3, b3, c3, d3, h4, _⟩ := h3
  obtain ⟨g4, t4, cs4, fu4, p4, q4, a4, b4, c4, d4, h5, _⟩ := h4
  obtain ⟨g5, t5, cs5, fu5, p5, q5, a5, b5, c5, d5, h6, _⟩ := h5
  obtain ⟨g6, t6, cs6, fu6, p6, q6, a6, b6, c6, d6, h7, _⟩ := h6
  obtain ⟨g7, t7, cs7, fu7, p7, q7, a7, b7, c7, d7, h8, _⟩ := h7
  obtain rfl := Option.some.inj (tab_global.symm.trans a3)
  obtain rfl := Option.some.inj ((show Tryd.prog.globalNamed "strconv.ErrRange" = some 3 by kernel_rfl).symm.trans a5)
  obtain rfl := Option.some.inj ((show Tryd.prog.globalNamed "strconv.ErrSyntax" = some 2 by kernel_rfl).symm.trans a6)
  obtain rfl := Option.some.inj ((show Tryd.prog.globalNamed "loop.example/sagaflows/impl.eventWords" = some 0 by kernel_rfl).symm.trans a7)
  obtain rfl := Option.some.inj ((show (Tryd.prog.globals[4]?).map (·.type) = some 100 by kernel_rfl).symm.trans b3)
  obtain rfl := Option.some.inj ((show (Tryd.prog.globals[3]?).map (·.type) = some 45 by kernel_rfl).symm.trans b5)
  obtain rfl := Option.some.inj ((show (Tryd.prog.globals[2]?).map (·.type) = some 45 by kernel_rfl).symm.trans b6)
  obtain rfl := Option.some.inj ((show (Tryd.prog.globals[0]?).map (·.type) = some 58 by kernel_rfl).symm.trans b7)
  have k3 := Lib.cells_of_tab (zs := Lib.pow10Tab) Tryd.underlying100 Tryd.underlying83 (by kernel_rfl) (by kernel_rfl) d3
  obtain ⟨f5, u5, v5, e5, _, _⟩ := iface_of_trod Tryd.underlying45 d5
  obtain ⟨f6, u6, v6, e6, _, _⟩ := iface_of_trod Tryd.underlying45 d6
  obtain ⟨a, c, e7, r7⟩ := rd_texts (e' := 9) (l := evWords) Tryd.underlying58 Tryd.underlying9 (by kernel_rfl) (by decide) d7
  obtain ⟨m, hm⟩ := cell_of_shapedOpen_int (P := Tryd.prog) (g := 1) (t := 3) (zero := #[.int .i64 0]) hsh (of_decide_eq_true (by kernel_rfl)) (by kernel_rfl) rfl (by kernel_rfl) (by kernel_rfl) Tryd.underlying3
  have cell : ∀ {n : String} {g : Nat} {cs : Array Value} {x : Value}, Tryd.prog.globalNamed n = some g → W.var? Tryd.prog n = some cs → cs.toList = [x] → CellN W [] g 0 [x] := fun hg hv hc => by
    refine ⟨by simp, fun j u hj => ?_⟩
    rw [World.var?_cell hg hv, ← Array.getElem?_toList, hc, Nat.zero_add]
    exact hj
  have pos : 4 < W.heap.size := cell_lt (a := ⟨4, 0, none⟩) (u := .int .u64 1) (by rw [World.var?_cell tab_global c3, ← Array.getElem?_toList, k3]; rfl)
  exact ⟨rfl, ⟨⟨a, c, cell a7 c7 e7, r7⟩, ⟨m, by simp, fun j u hj => by
      cases j with
      | zero => simp only [List.getElem?_cons_zero, Option.some.injEq] at hj; subst hj; exact hm
      | succ j => simp at hj⟩, ⟨_, cell a6 c6 e6, .inr ⟨_, _, rfl⟩⟩, ⟨_, cell a5 c5 e5, .inr ⟨_, _, rfl⟩⟩, ⟨by simp, pos⟩, by unfold Lib.TabIs; rw [c3, ← k3]⟩⟩

theorem trodVars_gs {H : Type} {enc : TypeId × Value → H} {P : Program} {w : World} {sp : Nat → Bool} {n : String} {gs : List (DataW H)} {p : List MemPlace} (h : DataW.TrodVars enc P w sp [n] gs p) : ∃ g, gs = [g] := by
  cases gs with
  | nil => exact h.elim
  | cons g gs =>
    obtain ⟨_, _, _, _, _, _, _, _, _, _, hs, _⟩ := h
    cases gs with
    | nil => exact ⟨g, rfl⟩
    | cons _ _ => exact hs.elim

/-- A law whose row names variables: it gives true, and turns nothing that was there. -/
theorem law_postV {P : Program} {H : Type} {enc : TypeId × Value → H} {f : Func} {s : ChangeSpec} {fresh handsOn : Bool} {W W' : World} {args : Array Value} {ds gs : List (DataW H)} {before : List MemPlace} {tb : TypeId} (hl : laidOutB P = true) (hv : varsRowed P s.vars = true) (hrt : f.resultTypes = #[tb]) (htb : P.underlying tb = some .bool)
    (hr : ∀ t ∈ f.params.toList, P.readableRec t = true ∧ t < P.types.size) (hW : DataW.Whole enc P f.params.toList s.vars false W args.toList ds gs before) (hfn : s.fn H (ds ++ gs) = { results := [.lit (.bool true)], args := ds, vars := gs }) (hE : ExtM [] W W') :
    s.post enc P f false fresh handsOn false W args (.bool true) W' := by
  have hb := hE.below
  have hlt := hW.lt
  obtain ⟨p, q, h1, h2, rfl, h3, h4⟩ := id hW
  have hpl : ∀ x ∈ p, x.block < W.heap.size := fun x hx => hlt x (by simp [hx])
  refine ⟨ds, gs, p ++ q, [], p, q, hW, ?_, ?_, ?_, kept_of_below hb _, fun h => by cases h⟩
  · rw [hrt, hfn]
    exact ⟨[], [], ⟨1, by simp [Value.cells, Value.resultList, DataW.trod, htb]⟩, rfl, rfl⟩
  · rw [hfn]; exact trodAll_below hl hb hr h1 hpl
  · rw [hfn]; exact hb.trodVars hl hv h2
end Go.Proofs.YtacecnffggffmaaDoor
