/- A slice of nodes, of records, of parts, opened: what its cells hold. -/
import Derived.Test.YtgpocjehiohimaaDoorExP
import Derived.Test.YtgpocjehiohimaaDoorElems
import Derived.Deep.Strs
import Derived.Lib.SmallJoins
import Derived.ChangeSame
import Derived.Test.YtgpocjehiohimaaDoorSlsP
namespace Go.Proofs.YtgpocjehiohimaaDoor
open Go.RowKit Go.Deep Go.ChangeShapes Go.WideShapes Go.ChangeAt

instance : Inhabited Nd := ⟨⟨0, ⟨#[]⟩, 0⟩⟩
instance : Inhabited Rc := ⟨⟨0, 0, 0, false⟩⟩
instance : Inhabited Dd := ⟨⟨0, 0⟩⟩

section
variable {H : Type} {enc : TypeId × Value → H} {W : World}
/-- The words of a slice: one element after the other. -/
theorem rd_of {α : Type} {cs : α → List Value} {sz : Nat} {a : Addr} {n : Nat} (ha : 0 < n → a.spot = none) (hsz : 0 < sz) (hn : n ≤ 1000000000000000) (X : Nat → α) (hl : ∀ x, (cs x).length = sz) (hb : ∀ i, i < n → ∀ (j : Nat) (u : Value), (cs (X i))[j]? = some u → W.cell? (a.add (i * sz + j)) = some u) :
    Rd cs sz W 0 (some a) n ((List.range n).map X) := by
  refine ⟨by simp, hn, fun h0 => ?_⟩
  obtain ⟨b, o, s⟩ := a
  obtain rfl : s = none := ha h0
  refine ⟨b, o, rfl, Nat.zero_le _, ?_, fun k x hx j u hu => ?_⟩
  · have hc := hb 0 h0 0 ((cs (X 0))[0]'(by rw [hl]; exact hsz)) (List.getElem?_eq_getElem _)
    rw [Addr.add_lit] at hc
    exact World.block_lt_of_cell? _ _ hc
  · have hk : k < n := by have := (List.getElem?_eq_some_iff.1 hx).1; simpa using this
    rw [List.getElem?_map, List.getElem?_range hk] at hx
    simp only [Option.map_some, Option.some.injEq] at hx
    subst hx
    have := hb k hk j u hu
    rw [Addr.add_lit] at this
    rw [Nat.add_assoc]
    exact this
theorem slice_le {P : Program} {t e : TypeId} (ht : P.underlying t = some (.slice e)) {fuel : Nat} {a : Option Addr} {n c : Nat} {y : DataW H × List MemPlace} (h : DataW.trod enc P W 0 (fun _ => true) true fuel t [.slice a n c] = some y) : n ≤ c ∧ n ≤ 9223372036854775807 := by
  rcases open_slice ht h with ⟨hcs, _⟩ | ⟨a', len, cap, m, k, D, Pl, hcs, _, hlc, hm, _⟩
  · simp only [List.cons.injEq, Value.slice.injEq, and_true] at hcs
    obtain ⟨rfl, rfl, rfl⟩ := hcs
    omega
  · simp only [List.cons.injEq, Value.slice.injEq, and_true] at hcs
    obtain ⟨rfl, rfl, rfl⟩ := hcs
    simp only [maxLen] at hm
    omega
theorem open_rows {P : Program} {α : Type} [Inhabited α] {cs : α → List Value} {sz : Nat} {t e : TypeId} (ht : P.underlying t = some (.slice e)) (hce : P.cellsOf e = sz) (hsz : 0 < sz) (hl : ∀ x, (cs x).length = sz) (Q : α → Prop)
    (elt : ∀ (k : Nat) (c : List Value) (y : DataW H × List MemPlace), DataW.trod enc P W 0 (fun _ => true) true k e c = some y → ∃ x, c = cs x ∧ Q x)
    {fuel : Nat} {a : Option Addr} {n c : Nat} {y : DataW H × List MemPlace} (h : DataW.trod enc P W 0 (fun _ => true) true fuel t [.slice a n c] = some y) (hn : n ≤ 1000000000000000) :
    n ≤ c ∧ ∃ l : List α, Rd cs sz W 0 a n l ∧ ∀ x ∈ l, Q x := by
  rcases open_slice ht h with ⟨hcs, _⟩ | ⟨a', len, cap, m, k, D, Pl, hcs, _, hlc, _, hmm, _, hx⟩
  · simp only [List.cons.injEq, Value.slice.injEq, and_true] at hcs
    obtain ⟨rfl, rfl, rfl⟩ := hcs
    exact ⟨Nat.le_refl _, [], Rd.nil, fun x hx => by cases hx⟩
  · simp only [List.cons.injEq, Value.slice.injEq, and_true] at hcs
    obtain ⟨rfl, rfl, rfl⟩ := hcs
    simp only [if_true] at hmm
    subst hmm
    rw [hce] at hx
    obtain ⟨X, hX⟩ := choose_lt (α := α) (n := n) (p := fun i x => W.cells? 0 (a'.add (i * sz)) sz = some (cs x) ∧ Q x) fun i hi => by
      obtain ⟨c', h1, h2⟩ := hx i (by omega)
      obtain ⟨x, rfl, hq⟩ := elt _ _ _ h2
      exact ⟨x, h1, hq⟩
    have hcell : ∀ i, i < n → ∀ (j : Nat) (u : Value), (cs (X i))[j]? = some u → W.cell? (a'.add (i * sz + j)) = some u := fun i hi j u hu => by
      obtain ⟨_, _, h3⟩ := World.cells?_some (hX i hi).1
      have hj : j < sz := by have := (List.getElem?_eq_some_iff.1 hu).1; rw [hl] at this; exact this
      have := h3 j hj
      rw [add_add] at this
      rw [this]; exact hu
    refine ⟨hlc, (List.range n).map X, rd_of (fun h0 => ?_) hsz hn X hl hcell, fun x hx => ?_⟩
    · have hc := hcell 0 h0 0 ((cs (X 0))[0]'(by rw [hl]; exact hsz)) (List.getElem?_eq_getElem _)
      simpa [Addr.add] using World.cell?_spot hc
    · obtain ⟨i, hi, rfl⟩ := List.mem_map.1 hx
      exact (hX i (List.mem_range.1 hi)).2
end
section
variable {H : Type} {enc : TypeId × Value → H} {W : World}
theorem cI1 : Tryd.prog.cellsOf 3 = 1 := by kernel_rfl
theorem cS1 : Tryd.prog.cellsOf 9 = 1 := by kernel_rfl
theorem cB1' : Tryd.prog.cellsOf 4 = 1 := by kernel_rfl
theorem cN3 : Tryd.prog.cellsOf 50 = 3 := by kernel_rfl
set_option maxRecDepth 100000 in
theorem elt_node (k : Nat) (c : List Value) (y : DataW H × List MemPlace) (h : DataW.trod enc Tryd.prog W 0 (fun _ => true) true k 50 c = some y) : ∃ x : Nd, c = cN x ∧ x.name.size ≤ maxLen := by
  obtain ⟨y0, y1, y2, n, _, hl, t0, t1, t2⟩ := trod_struct3 Tryd.underlying50 h
  rw [cN3] at hl
  match c, hl with
  | [c0, c1, c2], _ =>
    simp only [cI1, cS1, List.drop, List.take] at t0 t1 t2
    obtain ⟨z0, e0, _, _⟩ := DataW.trod_int Tryd.underlying3 t0
    obtain ⟨s, e1, _, hs⟩ := DataW.trod_string Tryd.underlying9 t1
    obtain ⟨z2, e2, _, _⟩ := DataW.trod_int Tryd.underlying3 t2
    simp only [List.cons.injEq, and_true] at e0 e1 e2
    subst e0 e1 e2
    exact ⟨⟨z0, s, z2⟩, rfl, hs⟩
theorem open_nodes {fuel : Nat} {a : Option Addr} {n c : Nat} {y : DataW H × List MemPlace} (h : DataW.trod enc Tryd.prog W 0 (fun _ => true) true fuel 22 [.slice a n c] = some y) (hn : n ≤ 1000000000000000) :
    n ≤ c ∧ ∃ l : List Nd, Rd cN 3 W 0 a n l ∧ ∀ x ∈ l, x.name.size ≤ maxLen := open_rows Tryd.underlying22 cN3 (by omega) (fun _ => rfl) (fun x : Nd => x.name.size ≤ maxLen) elt_node h hn
theorem open_nums {fuel : Nat} {a : Option Addr} {n c : Nat} {y : DataW H × List MemPlace} (h : DataW.trod enc Tryd.prog W 0 (fun _ => true) true fuel 24 [.slice a n c] = some y) (hn : n ≤ 1000000000000000) :
    n ≤ c ∧ ∃ l : List Int, Rd cI 1 W 0 a n l := by
  obtain ⟨h1, l, h2, _⟩ := open_rows (α := Int) Tryd.underlying24 cI1 (by omega) (fun _ => rfl) (fun _ => True) (fun k c' y' h' => by
    obtain ⟨z, e, _, _⟩ := DataW.trod_int Tryd.underlying3 h'
    exact ⟨z, e, trivial⟩) h hn
  exact ⟨h1, l, h2⟩
set_option maxRecDepth 100000 in
theorem cD2 : Tryd.prog.cellsOf 91 = 2 := by kernel_rfl
set_option maxRecDepth 100000 in
theorem elt_do (k : Nat) (c : List Value) (y : DataW H × List MemPlace) (h : DataW.trod enc Tryd.prog W 0 (fun _ => true) true k 91 c = some y) : ∃ x : Dd, c = cD x ∧ True := by
  obtain ⟨y0, y1, n, _, hl, t0, t1⟩ := trod_struct2 Tryd.underlying91 h
  rw [cD2] at hl
  match c, hl with
  | [c0, c1], _ =>
    simp only [cI1, List.drop, List.take] at t0 t1
    obtain ⟨z0, e0, _, _⟩ := DataW.trod_int Tryd.underlying3 t0
    obtain ⟨z1, e1, _, _⟩ := DataW.trod_int Tryd.underlying3 t1
    simp only [List.cons.injEq, and_true] at e0 e1
    subst e0 e1
    exact ⟨⟨z0, z1⟩, rfl, trivial⟩
theorem cSl1 : Tryd.prog.cellsOf 52 = 1 := by kernel_rfl
instance : Inhabited Sl := ⟨⟨none, 0, 0⟩⟩
theorem elt_row (k : Nat) (c : List Value) (y : DataW H × List MemPlace) (h : DataW.trod enc Tryd.prog W 0 (fun _ => true) true k 52 c = some y) : ∃ x : Sl, c = cV x ∧ (x.n ≤ 9223372036854775807 ∧ x.n ≤ x.c ∧ (x.n ≤ 1048576 → ∃ l, Rd cD 2 W 0 x.a x.n l)) := by
  have key : ∃ a n c', c = [.slice a n c'] := by
    rcases open_slice Tryd.underlying52 h with ⟨hcs, _⟩ | ⟨a', len, cap, m, k, D, Pl, hcs, _⟩
    · exact ⟨none, 0, 0, hcs⟩
    · exact ⟨some a', len, cap, hcs⟩
  obtain ⟨a, n, c', rfl⟩ := key
  have hle := slice_le Tryd.underlying52 h
  refine ⟨⟨a, n, c'⟩, rfl, hle.2, hle.1, fun hn => ?_⟩
  obtain ⟨_, l, h2, _⟩ := open_rows Tryd.underlying52 cD2 (by omega) (fun _ => rfl) (fun _ => True) elt_do h (by simp only at hn; omega)
  exact ⟨l, h2⟩
theorem open_scripts {fuel : Nat} {a : Option Addr} {n c : Nat} {y : DataW H × List MemPlace} (h : DataW.trod enc Tryd.prog W 0 (fun _ => true) true fuel 23 [.slice a n c] = some y) (hn : n ≤ 1000000000000000) :
    n ≤ c ∧ ∃ l : List Sl, Rd cV 1 W 0 a n l ∧ ∀ x ∈ l, x.n ≤ 9223372036854775807 ∧ x.n ≤ x.c ∧ (x.n ≤ 1048576 → ∃ l, Rd cD 2 W 0 x.a x.n l) := open_rows Tryd.underlying23 cSl1 (by omega) (fun _ => rfl) _ elt_row h hn
end
end Go.Proofs.YtgpocjehiohimaaDoor
