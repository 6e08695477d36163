/- The library's sorts, Compact and Delete at this program's rows, in the words of the walks: the kit's contracts, laid at this program. -/
import Derived.Test.YtmnhnldnnniglaaGreatJ
import Derived.Test.YtmnhnldnnniglaaGreatShelf
set_option linter.all false
namespace Go.Proofs.YtmnhnldnnniglaaGreat
open Go.RowKit Go.Sort

/-! ## A row behind the library's stores -/

theorem put_flat (Fl : Array Value) (cur : List Value) (h : Fl.size ≤ cur.length) : putCells id 0 Fl cur.toArray = (Fl.toList ++ cur.drop Fl.size).toArray := by
  apply Array.ext_getElem?
  intro k
  simp only [putCells, Array.getElem?_mapIdx, List.getElem?_toArray, Nat.zero_add, Nat.sub_zero, Nat.zero_le, true_and, id_eq]
  rcases Nat.lt_or_ge k Fl.size with h1 | h1
  · rw [List.getElem?_append_left (by simpa using h1), List.getElem?_eq_getElem (show k < cur.length by omega)]
    simp [h1]
  · rw [List.getElem?_append_right (by simpa using h1), List.getElem?_drop]
    simp only [Array.length_toList]
    rw [show Fl.size + (k - Fl.size) = k by omega]
    cases cur[k]? with
    | none => rfl
    | some v => simp [Nat.not_lt.2 h1]

theorem row_after {w w' : World} {g e n : Nat} {cur : List Value} {Fl : Array Value} {os : Array Obj} (hb : (blkC g e cur).A w) (hs : Fl.size ≤ cur.length) (hw : w' = grow (putRow id (Sort.ahead w n) g 0 Fl) os) :
    (blkC g e (Fl.toList ++ cur.drop Fl.size)).A w' ∧ ExtM [g] w w' := by
  subst hw
  have hb' : w.heap[g]? = some (.cells cur.toArray e (0, 0)) := hb
  have hlt : g < w.heap.size := (Array.getElem?_eq_some_iff.1 hb').1
  have hh : (grow (putRow id (Sort.ahead w n) g 0 Fl) os).heap = (w.heap.modify g (onCells (putCells id 0 Fl))) ++ os := rfl
  refine ⟨?_, rfl, rfl, rfl, by rw [hh]; simp, fun b hb2 hn => ?_⟩
  · show (grow (putRow id (Sort.ahead w n) g 0 Fl) os).heap[g]? = _
    rw [hh, Array.getElem?_append, if_pos (by simpa using hlt), Array.getElem?_modify, if_pos rfl, hb']
    simp only [Option.map_some, onCells, put_flat Fl cur hs]
  · rw [hh, Array.getElem?_append, if_pos (by simpa using hb2), Array.getElem?_modify, if_neg (fun e1 => hn (by simp [e1]))]

theorem row_holds {w : World} {g e : Nat} {cur : List Value} {Fl : Array Value} (hb : (blkC g e cur).A w) (ht : cur.take Fl.size = Fl.toList) : Holds id w g 0 Fl := by
  intro j hj
  have hb' : w.heap[g]? = some (.cells cur.toArray e (0, 0)) := hb
  have h1 : Fl.toList[j]? = some Fl[j]! := by simp [hj]
  rw [← ht, List.getElem?_take_of_lt hj] at h1
  constructor
  · rw [Nat.zero_add, blk_cell hb]
    exact h1
  · simp only [World.frozen?, hb', Nat.not_lt_zero, decide_false, Bool.and_false]

/-! ## Rows of texts -/

def sbs (s : Str) : List UInt8 := s.data.toList
def sob (l : List UInt8) : Str := ⟨l.toArray⟩
theorem sob_sbs (s : Str) : sob (sbs s) = s := by cases s; simp [sob, sbs]
theorem sbs_sob (l : List UInt8) : sbs (sob l) = l := by simp [sob, sbs]
def strF (l : List (List UInt8)) : Array Value := (l.map fun x => Value.string (sob x)).toArray

theorem holds_str {w : World} {g e : Nat} {cur : List Value} {l : List (List UInt8)} (hb : (blkC g e cur).A w) (ht : cur.take l.length = l.map fun x => Value.string (sob x)) : Holds encStr w g 0 l.toArray := by
  have h := row_holds (Fl := strF l) hb (by simpa [strF] using ht)
  intro j hj
  have hj' : j < l.length := by simpa using hj
  have := h j (by simpa [strF] using hj')
  refine ⟨this.1.trans ?_, this.2⟩
  simp [strF, hj', sob]
theorem put_str (w : World) (g : Nat) (l : List (List UInt8)) : putRow encStr w g 0 l.toArray = putRow id w g 0 (strF l) := by
  unfold putRow
  congr 1
  funext c
  unfold putCells
  congr 1
  funext k x
  simp only [List.size_toArray, strF, List.length_map, Nat.zero_add, Nat.zero_le, true_and, Nat.sub_zero]
  split
  · rename_i hk
    simp [hk, sob]
  · rfl
theorem flat_str (l : List Str) : l.flatMap (fun s => [Value.string s]) = (l.map sbs).map fun x => Value.string (sob x) := by
  induction l with
  | nil => rfl
  | cons s l ih => simp [ih, sob_sbs]

def sortStrs (l : List Str) : List Str := ((l.map sbs).mergeSort fun x y => decide (x ≤ y)).map sob
def m_slices_Sort_string (N : Nat) (x : List Str) : Option (Unit × List Str) := if x.length < 4611686018427387904 then some ((), sortStrs x) else none
def compStrs (l : List Str) : List Str := (Lib.compact (l.map sbs)).map sob
def m_slices_Compact_string (N : Nat) (x : List Str) : Option (List Str) := some (compStrs x)

theorem comp_len (zs : List (List UInt8)) : (Lib.compact zs).length ≤ zs.length := by
  unfold Lib.compact Lib.compactUpTo
  rw [List.length_map]
  exact Nat.le_trans (List.length_filter_le _ _) (by simp)

theorem c_slices_Sort_string (N : Nat) (x : List Str) (res : Unit × List Str) (h : m_slices_Sort_string N x = some res) (w : World) {a_x : Option Addr} {c_x : Nat} {F_x : List Nat} (hr : (owC strsL F_x [.slice a_x x.length c_x] x).A w) (hnd : F_x.Nodup) :
    Ret Tryz.prog 110 [.slice a_x x.length c_x] w F_x fun v w' => ∃ F0, v = .tuple #[] ∧ NewM w w' F_x [owC strsL F0 [.slice a_x x.length c_x] res.2] := by
  unfold m_slices_Sort_string at h
  split at h
  · rename_i hlen
    obtain rfl := Option.some.inj h
    rcases Nat.eq_zero_or_pos x.length with h0 | h0
    · have e1 : x = [] := List.eq_nil_of_length_eq_zero h0
      subst e1
      refine Calls.mono (Tryz.slices_Sort_string_none a_x c_x w) ?_
      rintro e w' ⟨rfl, rfl⟩
      exact ⟨_, rfl, ExtM.refl _ _, F_x, rfl, by intro c hc; simp only [List.mem_singleton] at hc; subst hc; simpa [sortStrs] using hr, by simpa [ff, owC] using hnd, by intro b hb; left; simpa [ff, owC] using hb⟩
    · obtain ⟨g, rfl⟩ := own_addr hr h0
      obtain ⟨cur, hb, _, hnc, hcm, hcl, ht, hF⟩ := own_row.1 hr
      have ht2 : cur.take (x.map sbs).length = (x.map sbs).map fun z => Value.string (sob z) := by
        rw [← flat_str, List.length_map]; simpa using ht
      have hc := Tryz.slices_Sort_string g 0 c_x (x.map sbs) w (holds_str hb ht2) ((blkC g _ cur).lt w hb g (by simp [blkC])) (by simpa using hlen)
      rw [List.length_map] at hc
      refine Calls.mono hc ?_
      rintro e w' ⟨rfl, n, os, hw⟩
      rw [put_str] at hw
      have hsz : (strF ((x.map sbs).mergeSort fun x y => decide (x ≤ y))).size = x.length := by simp [strF, List.length_mergeSort]
      obtain ⟨g1, g2⟩ := row_after hb (by rw [hsz, hcl]; omega) hw
      have hsl : (sortStrs x).length = x.length := by simp [sortStrs, List.length_mergeSort]
      refine ⟨_, rfl, by rw [hF]; exact g2, [g], rfl, ?_, by simp [ff, owC], by intro b hb2; left; rw [hF]; simpa [ff, owC] using hb2⟩
      intro c hc2
      simp only [List.mem_singleton] at hc2
      subst hc2
      refine own_row.2 ⟨_, g1, hsl.symm, hnc, hcm, ?_, ?_, rfl⟩
      · rw [List.length_append, List.length_drop, Array.length_toList, hsz]; omega
      · rw [hsl]
        have e2 : x.length * 1 = (strF ((x.map sbs).mergeSort fun x y => decide (x ≤ y))).toList.length := (Nat.mul_one _).trans hsz.symm
        rw [e2, List.take_left, flat_str, sortStrs, List.map_map]
        simp [strF, Function.comp_def, sbs_sob, sob_sbs]
  · cases h

theorem c_slices_Compact_string (N : Nat) (x : List Str) (res : List Str) (h : m_slices_Compact_string N x = some res) (w : World) {a_x : Option Addr} {c_x : Nat} {F_x : List Nat} (hr : (owC strsL F_x [.slice a_x x.length c_x] x).A w) (hnd : F_x.Nodup) :
    Ret Tryz.prog 111 [.slice a_x x.length c_x] w F_x fun v w' => ∃ a1 c1 F1, v = .slice a1 res.length c1 ∧ NewM w w' F_x [owC strsL F1 [.slice a1 res.length c1] res] := by
  obtain rfl := Option.some.inj h
  rcases Nat.eq_zero_or_pos x.length with h0 | h0
  · have e1 : x = [] := List.eq_nil_of_length_eq_zero h0
    subst e1
    refine Calls.mono (Tryz.slices_Compact_string_empty a_x c_x w) ?_
    rintro e w' ⟨rfl, rfl⟩
    exact ⟨_, rfl, ExtM.refl _ _, a_x, c_x, F_x, rfl, by intro c hc; simp only [List.mem_singleton] at hc; subst hc; simpa [compStrs, Lib.compact, Lib.compactUpTo] using hr, by simpa [ff, owC] using hnd, by intro b hb; left; simpa [ff, owC] using hb⟩
  · obtain ⟨g, rfl⟩ := own_addr hr h0
    obtain ⟨cur, hb, _, hnc, hcm, hcl, ht, hF⟩ := own_row.1 hr
    have ht2 : cur.take (x.map sbs).length = (x.map sbs).map fun z => Value.string (sob z) := by
      rw [← flat_str, List.length_map]; simpa using ht
    have hc := Tryz.slices_Compact_string g 0 c_x (x.map sbs) w (holds_str hb ht2) (by rw [List.length_map]; have : c_x ≤ maxLen := hcm; simp only [maxLen] at this; omega) (by simpa using hnc)
    rw [List.length_map] at hc
    refine Calls.mono hc ?_
    rintro e w' ⟨rfl, n, hw⟩
    have hcl2 := comp_len (x.map sbs)
    rw [List.length_map] at hcl2
    rw [put_str, ← grow_empty (putRow id (Sort.ahead w n) g 0 _)] at hw
    have hsz : (strF (Lib.compact (x.map sbs) ++ List.replicate (x.length - (Lib.compact (x.map sbs)).length) [])).size = x.length := by simp [strF]; omega
    obtain ⟨g1, g2⟩ := row_after hb (by rw [hsz, hcl]; omega) hw
    have hsl : (compStrs x).length = (Lib.compact (x.map sbs)).length := by simp [compStrs]
    refine ⟨_, rfl, by rw [hF]; exact g2, some ⟨g, 0, none⟩, c_x, [g], by rw [hsl], ?_, by simp [ff, owC], by intro b hb2; left; rw [hF]; simpa [ff, owC] using hb2⟩
    intro c hc2
    simp only [List.mem_singleton] at hc2
    subst hc2
    refine own_row.2 ⟨_, g1, rfl, by rw [hsl]; omega, hcm, ?_, ?_, rfl⟩
    · rw [List.length_append, List.length_drop, Array.length_toList, hsz]; omega
    · have e3 : (strF (Lib.compact (x.map sbs) ++ List.replicate (x.length - (Lib.compact (x.map sbs)).length) [])).toList = (compStrs x).flatMap (fun s => [Value.string s]) ++ (List.replicate (x.length - (Lib.compact (x.map sbs)).length) []).map fun z => Value.string (sob z) := by
        rw [flat_str, compStrs, List.map_map, List.map_map]
        simp [strF, Function.comp_def, sbs_sob]
      rw [e3, List.append_assoc]
      have e4 : (compStrs x).length * 1 = ((compStrs x).flatMap (fun s => [Value.string s])).length := by rw [flat_str]; simp
      rw [e4, List.take_left]

/-! ## The sort of steps by name -/

theorem flatK_flat {α : Type} [Inhabited α] (enc : α → List Value) (k : Nat) (hk : ∀ x, (enc x).length = k) (l : List α) : (flatK enc k l.toArray).toList = l.flatMap enc := by
  have hl := len_flatMap hk l
  apply List.ext_getElem?
  intro t
  rcases Nat.lt_or_ge t (l.length * k) with h1 | h1
  · have h2 : (flatK enc k l.toArray).toList[t]? = some (flatK enc k l.toArray)[t]! := by simp [h1]
    rw [h2, get_flatK _ _ _ _ (by simpa using h1)]
    have k0 : 0 < k := by rcases Nat.eq_zero_or_pos k with h | h; · subst h; simp at h1
                          · exact h
    have hq : t / k < l.length := Nat.div_lt_of_lt_mul (by rw [Nat.mul_comm]; exact h1)
    have h3 := take_flatMap hk l (t / k)
    have h4 := take_flatMap hk l (t / k + 1)
    have h5 : t % k < k := Nat.mod_lt _ k0
    have h6 : t / k * k + t % k = t := by rw [Nat.mul_comm]; exact Nat.div_add_mod t k
    have h7 : l.take (t / k + 1) = l.take (t / k) ++ [l[t / k]] := by rw [List.take_add_one, List.getElem?_eq_getElem hq]; rfl
    have h8 : (l.flatMap enc)[t]? = ((l.flatMap enc).take ((t / k + 1) * k))[t]? := by rw [List.getElem?_take_of_lt (by rw [Nat.add_mul]; omega)]
    rw [h8, h4, h7, List.flatMap_append, List.getElem?_append_right (by rw [len_flatMap hk, List.length_take, Nat.min_eq_left (by omega)]; omega), len_flatMap hk, List.length_take, Nat.min_eq_left (by omega)]
    have h9 : t - t / k * k = t % k := by omega
    rw [h9]
    simp only [List.flatMap_cons, List.flatMap_nil, List.append_nil, List.getElem!_toArray]
    have h10 : l[t / k]! = l[t / k] := getElem!_pos l _ hq
    rw [h10]
    have h11 : t % k < (enc l[t / k]).length := by rw [hk]; exact h5
    rw [List.getElem?_eq_getElem h11, getElem!_pos (enc l[t / k]) (t % k) h11]
  · rw [List.getElem?_eq_none (by simpa using h1), List.getElem?_eq_none (by rw [hl]; exact h1)]

theorem cmpB_lt_iff (a b : List UInt8) : Lib.compareBytes a b < 0 ↔ a < b := by
  induction a generalizing b with
  | nil => cases b <;> simp [Lib.compareBytes]
  | cons x a ih =>
    cases b with
    | nil => simp [Lib.compareBytes]
    | cons y b =>
      unfold Lib.compareBytes
      rw [List.cons_lt_cons_iff]
      by_cases h1 : x < y
      · simp [h1]
      · by_cases h2 : y < x
        · rw [if_neg h1, if_pos h2]
          have : x ≠ y := fun e => by subst e; exact h1 h2
          simp [h1, this]
        · have : x = y := UInt8.le_antisymm (UInt8.not_lt.1 h2) (UInt8.not_lt.1 h1)
          subst this
          rw [if_neg h1, if_neg h2, ih]
          simp [h1]

/-- The steps in the one order in which their names ascend. -/
def ascS (l : List Step) : Prop := l.Pairwise fun a b => sbs a.name < sbs b.name
theorem ascS_unique : ∀ {l l' : List Step}, l.Perm l' → ascS l → ascS l' → l = l'
  | [], l', p, _, _ => (List.perm_nil.1 p.symm).symm
  | a :: l, [], p, _, _ => absurd (List.perm_nil.1 p) (by simp)
  | a :: l, b :: l', p, h, h' => by
    have ha := List.pairwise_cons.1 h
    have hb := List.pairwise_cons.1 h'
    have e : a = b := by
      rcases List.mem_cons.1 (p.mem_iff.1 List.mem_cons_self) with e | h1
      · exact e
      · rcases List.mem_cons.1 (p.symm.mem_iff.1 (List.mem_cons_self (a := b))) with e | h2
        · exact e.symm
        · exact absurd (List.lt_trans (ha.1 b h2) (hb.1 a h1)) (List.lt_irrefl _)
    subst e
    rw [ascS_unique ((List.perm_cons a).1 p) ha.2 hb.2]

instance (l : List Step) : Decidable (ascS l) := inferInstanceAs (Decidable (l.Pairwise _))
def srtS (l : List Step) : List Step := l.mergeSort fun a b => decide (sbs a.name ≤ sbs b.name)
def m_slices_SortFunc_Step (N : Nat) (x : List Step) : Option (Unit × List Step) :=
  if (0 < x.length ∧ x.length ≤ 12) ∧ ascS (srtS x) then some ((), srtS x) else none
theorem srtS_eq {x y : List Step} (h2 : x.Perm y) (h3 : ascS y) : srtS x = y := by
  have hp : (srtS x).Perm y := (List.mergeSort_perm x _).trans h2
  have hs : (srtS x).Pairwise fun a b => decide (sbs a.name ≤ sbs b.name) = true := List.pairwise_mergeSort (fun a b c h4 h5 => by
    simp only [decide_eq_true_eq] at h4 h5 ⊢
    exact List.le_trans h4 h5) (fun a b => by
    simp only [Bool.or_eq_true, decide_eq_true_eq]
    exact List.le_total _ _) x
  have hn : (srtS x).Pairwise fun a b => sbs a.name ≠ sbs b.name := by
    refine hp.symm.pairwise (h3.imp fun {a b} hab e1 => ?_) (fun {a b} hab => hab.symm)
    rw [e1] at hab
    exact List.lt_irrefl _ hab
  refine ascS_unique hp ?_ h3
  refine (hn.and hs).imp fun {a b} hab => ?_
  have h5 := hab.2
  simp only [decide_eq_true_eq] at h5
  rcases List.le_iff_lt_or_eq.1 h5 with h6 | h6
  · exact h6
  · exact absurd h6 hab.1
theorem m_SortFunc {N : Nat} {x y : List Step} (h0 : 0 < x.length) (h1 : x.length ≤ 12) (h2 : x.Perm y) (h3 : ascS y) : m_slices_SortFunc_Step N x = some ((), y) := by
  unfold m_slices_SortFunc_Step
  rw [srtS_eq h2 h3, if_pos ⟨⟨h0, h1⟩, h3⟩]

set_option maxHeartbeats 1000000 in
/-- The closure that compares names: two blocks are laid. -/
theorem closureFC (x y : RStep) (W : World) : Calls Tryz.prog 73 #[.agg (rsE x).toArray, .agg (rsE y).toArray] W fun e w' => e = .returned (.int .i64 (Lib.compareBytes (sbs x.st.name) (sbs y.st.name))) ∧ ∃ q os', w' = grow (W.drewN q) os' := by
  have hcon := fun W' => Tryz.strings_Compare x.st.name y.st.name W'
  unfold sbs
  generalize Lib.compareBytes x.st.name.data.toList y.st.name.data.toList = r at hcon ⊢
  show Calls Tryz.prog 73 #[.agg #[.string x.st.name, .slice x.a x.st.after.length x.c, .bool x.st.undo], .agg #[.string y.st.name, .slice y.a y.st.after.length y.c, .bool y.st.undo]] W _
  go_enter Tryz.func73, Tryz.ntmps73
  go_wp2_with (go_at_call 74; refine (hcon _).mono ?_; rintro e w' ⟨rfl, rfl⟩)
  go_ret
  exact ⟨rfl, 0, _, by rw [alloc_eq_grow, alloc_eq_grow, grow_grow]; rfl⟩

theorem hlenS (n : Nat) (W : World) (h : n ≤ 12) : Calls Tryz.prog 105 #[.int .u64 n] W fun e w' => (∃ l : Int, e = .returned (.int .i64 l)) ∧ w' = W :=
  (Tryz.bits_Len n W (by omega) (by omega)).mono fun _ _ ⟨he, hw⟩ => ⟨⟨_, he⟩, hw⟩

theorem swo_name {α : Type} (f : α → List UInt8) : SWO (ltOf fun x y => Lib.compareBytes (f x) (f y)) where
  irrefl x := by simp [ltOf, cmpB_lt_iff, List.lt_irrefl]
  trans x y z := by
    simp only [ltOf, cmpB_lt_iff, decide_eq_true_eq]
    exact List.lt_trans
  ntrans x y z := by
    simp only [ltOf, cmpB_lt_iff, decide_eq_false_iff_not, List.not_lt]
    exact fun h1 h2 => List.le_trans h2 h1

theorem c_slices_SortFunc_Step (N : Nat) (x : List Step) (res : Unit × List Step) (h : m_slices_SortFunc_Step N x = some res) (w : World) {a_x : Option Addr} {c_x : Nat} {F_x : List Nat} (hr : (owC stepsL F_x [.slice a_x x.length c_x] x).A w) (hnd : F_x.Nodup) :
    Ret Tryz.prog 72 [.slice a_x x.length c_x, .func (.func 73) #[] #[]] w F_x fun v w' => ∃ F0, v = .tuple #[] ∧ NewM w w' F_x [owC stepsL F0 [.slice a_x x.length c_x] res.2] := by
  unfold m_slices_SortFunc_Step at h
  by_cases hx : (0 < x.length ∧ x.length ≤ 12) ∧ ascS (srtS x)
  · rw [if_pos hx] at h
    obtain rfl := Option.some.inj h
    have hp : x.Perm (srtS x) := (List.mergeSort_perm x _).symm
    have hasc := hx.2
    generalize srtS x = y at hp hasc ⊢
    obtain ⟨g, rfl⟩ := own_addr hr hx.1.1
    obtain ⟨lr, Fs, h1, hF, hfl, hdeep⟩ := step_expose hr
    obtain ⟨cur, hb, hn, hnc, hcm, hcl, ht, _⟩ := own_row.1 hfl
    have hlr : lr.length = x.length := by rw [← h1, List.length_map]
    haveI i0 : Inhabited {r : RStep // r ∈ lr} := ⟨⟨lr[0]'(by omega), List.getElem_mem _⟩⟩
    have hk : ∀ r : {r : RStep // r ∈ lr}, (rsE r.1).length = 3 := fun _ => rfl
    have hds : lr.attach.toArray.size = x.length := by simp [hlr]
    have hfd : (flatK (fun r : {r : RStep // r ∈ lr} => rsE r.1) 3 lr.attach.toArray).toList = lr.flatMap rsE := by
      rw [flatK_flat _ 3 hk, ← List.flatMap_map, List.attach_map_subtype_val]
    have hH : HoldsK (fun r : {r : RStep // r ∈ lr} => rsE r.1) 3 w g 0 lr.attach.toArray := row_holds hb (by rw [hfd, size_flatK, hds, ← hlr]; exact ht)
    have hlt : g < w.heap.size := (blkC g _ cur).lt w hb g (by simp [blkC])
    have hc := AnyQ.slices_SortFunc_small_sorted Tryz.sortStep 3 Tryz.isAgg49 Tryz.sizeOf49 (fun r : {r : RStep // r ∈ lr} => rsE r.1) hk (fun r => rsE_one r.1) (fun a b => Lib.compareBytes (sbs a.1.st.name) (sbs b.1.st.name)) 73 #[] (swo_name _) g 0 c_x lr.attach.toArray w
      (fun args w => run_callFunc hb73 w) (fun _ _ _ _ a b => closureFC a.1 b.1 _) hH hlt (by rw [hds]; exact hx.1.2) hlenS
    change Calls Tryz.prog 72 _ _ _ at hc
    rw [hds] at hc
    refine Calls.mono hc ?_
    rintro e w' ⟨rfl, d', n, os, ⟨hs1, _, hs3⟩, hsort, hw⟩
    rw [hds] at hs1
    have hpl : d'.toList.Perm lr.attach := by
      have e1 : d'.extract 0 x.length = d' := by rw [← hs1]; exact Array.extract_size
      have e2 : lr.attach.toArray.extract 0 x.length = lr.attach.toArray := by rw [← hds]; exact Array.extract_size
      rw [e1, e2] at hs3
      exact hs3
    have hpr : (d'.toList.map (·.1)).Perm lr := by
      have := hpl.map (·.1)
      rwa [List.attach_map_subtype_val] at this
    have hpx : ((d'.toList.map (·.1)).map (·.st)).Perm x := by
      have := hpr.map (·.st)
      rwa [h1] at this
    have hne : ((d'.toList.map (·.1)).map (·.st)).Pairwise (fun a b => sbs a.name ≠ sbs b.name) := by
      refine (hpx.trans hp).symm.pairwise (hasc.imp fun {a b} hab e1 => ?_) (fun {a b} hab => hab.symm)
      rw [e1] at hab
      exact List.lt_irrefl _ hab
    have hso : ((d'.toList.map (·.1)).map (·.st)).Pairwise (fun a b => ¬ sbs b.name < sbs a.name) := by
      rw [List.pairwise_map, List.pairwise_map, List.pairwise_iff_getElem]
      intro i j hi hj hij
      have hi' : i < d'.size := by simpa using hi
      have hj' : j < d'.size := by simpa using hj
      have := hsort i j (Nat.zero_le _) hij (by omega)
      simp only [ltOf, cmpB_lt_iff, decide_eq_false_iff_not] at this
      rw [getElem!_pos d' i hi', getElem!_pos d' j hj'] at this
      exact this
    have hyy : (d'.toList.map (·.1)).map (·.st) = y := by
      refine ascS_unique (hpx.trans hp) ?_ hasc
      refine (hne.and hso).imp fun {a b} hab => ?_
      rcases List.le_iff_lt_or_eq.1 (List.not_lt.1 hab.2) with h5 | h5
      · exact h5
      · exact absurd h5 hab.1
    have hsz : (flatK (fun r : {r : RStep // r ∈ lr} => rsE r.1) 3 d').size = x.length * 3 := by rw [size_flatK, hs1]
    have hle : x.length * 3 ≤ c_x * 3 := Nat.mul_le_mul_right 3 hnc
    obtain ⟨g1, g2⟩ := row_after hb (by rw [hsz, hcl]; exact hle) hw
    have hfd2 : (flatK (fun r : {r : RStep // r ∈ lr} => rsE r.1) 3 d').toList = (d'.toList.map (·.1)).flatMap rsE := by
      have := flatK_flat (fun r : {r : RStep // r ∈ lr} => rsE r.1) 3 hk d'.toList
      rw [this, List.flatMap_map]
    have hl2 : (d'.toList.map (·.1)).length = x.length := by rw [List.length_map, Array.length_toList, hs1]
    have hfl2 : (owC rstepsL [g] [.slice (some ⟨g, 0, none⟩) x.length c_x] (d'.toList.map (·.1))).A w' := by
      refine own_row.2 ⟨_, g1, hl2.symm, hnc, hcm, ?_, ?_, rfl⟩
      · rw [List.length_append, List.length_drop, Array.length_toList, hsz]; omega
      · rw [hl2, hfd2]
        have e2 : x.length * 3 = ((d'.toList.map (·.1)).flatMap rsE).length := by rw [len_flatMap rsE_len, hl2]
        rw [e2, List.take_left]
    obtain ⟨Fs', hpF, hd2⟩ := deep_perm hpr.symm hdeep
    rw [hF] at hnd
    have hgn := List.nodup_cons.1 hnd
    have hd3 : deepL w' Fs' (d'.toList.map (·.1)) := deep_stb hd2 (fun b hb2 => g2.block b (deep_lt hd2 b hb2) (fun e1 => hgn.1 (by
      simp only [List.mem_singleton] at e1
      subst e1
      exact hpF.mem_iff.1 hb2)))
    have hcol := step_collapse hfl2 hd3
    rw [hyy] at hcol
    refine ⟨_, rfl, by rw [hF]; exact g2.mono (by simp), [g] ++ Fs'.flatten, rfl, ?_, ?_, ?_⟩
    · intro c hc2
      simp only [List.mem_singleton] at hc2
      subst hc2
      exact hcol
    · simp only [ff, owC, List.flatMap_cons, List.flatMap_nil, List.append_nil, List.cons_append, List.nil_append]
      exact List.nodup_cons.2 ⟨fun hm => hgn.1 (hpF.mem_iff.1 hm), hpF.nodup_iff.2 hgn.2⟩
    · intro b hb2
      left
      rw [hF]
      simp only [ff, owC, List.flatMap_cons, List.flatMap_nil, List.append_nil, List.cons_append, List.nil_append] at hb2
      rcases List.mem_cons.1 hb2 with rfl | hb2
      · simp
      · exact List.mem_cons_of_mem _ (hpF.mem_iff.1 hb2)
  · rw [if_neg hx] at h
    cases h

theorem slTo_ok {α : Type} {l : List α} {k : Int} (h : 0 ≤ k) (h2 : k ≤ (l.length : Int)) : slTo l k = some (l.take k.toNat) := by unfold slTo; rw [if_pos (by omega)]
theorem slFrom_ok {α : Type} {l : List α} {k : Int} (h : 0 ≤ k) (h2 : k ≤ (l.length : Int)) : slFrom l k = some (l.drop k.toNat) := by unfold slFrom; rw [if_pos (by omega)]
end Go.Proofs.YtmnhnldnnniglaaGreat
