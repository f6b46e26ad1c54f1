/- A slice of nodes, of records, of parts, opened: what its cells hold. -/
import Derived.Test.YtgmgmnigcikebaaExP
import Derived.Test.YtgmgmnigcikebaaElems
import Derived.Deep.Strs
import Derived.Lib.SmallJoins
namespace Go.Proofs.Ytgmgmnigcikebaa
open Go.RowKit Go.Deep Go.ChangeShapes Go.WideShapes Go.ChangeAt

instance : Inhabited Nd := ⟨⟨0, ⟨#[]⟩, 0⟩⟩
instance : Inhabited Rc := ⟨⟨0, 0, 0, false⟩⟩
instance : Inhabited Dd := ⟨⟨0, 0⟩⟩

section
variable {H : Type} {enc : TypeId × Value → H} {W : World}
/-- The words of a slice: one element after the other. -/
theorem rd_of {α : Type} {cs : α → List Value} {sz : Nat} {a : Addr} {n : Nat} (ha : 0 < n → a.spot = none) (hsz : 0 < sz) (hn : n ≤ 1000000000000000) (X : Nat → α) (hl : ∀ x, (cs x).length = sz) (hb : ∀ i, i < n → ∀ (j : Nat) (u : Value), (cs (X i))[j]? = some u → W.cell? (a.add (i * sz + j)) = some u) :
    Rd cs sz W 0 (some a) n ((List.range n).map X) := by
  refine ⟨by simp, hn, fun h0 => ?_⟩
  obtain ⟨b, o, s⟩ := a
  obtain rfl : s = none := ha h0
  refine ⟨b, o, rfl, Nat.zero_le _, ?_, fun k x hx j u hu => ?_⟩
  · have hc := hb 0 h0 0 ((cs (X 0))[0]'(by rw [hl]; exact hsz)) (List.getElem?_eq_getElem _)
    rw [Addr.add_lit] at hc
    exact World.block_lt_of_cell? _ _ hc
  · have hk : k < n := by have := (List.getElem?_eq_some_iff.1 hx).1; simpa using this
    rw [List.getElem?_map, List.getElem?_range hk] at hx
    simp only [Option.map_some, Option.some.injEq] at hx
    subst hx
    have := hb k hk j u hu
    rw [Addr.add_lit] at this
    rw [Nat.add_assoc]
    exact this
theorem slice_le {P : Program} {t e : TypeId} (ht : P.underlying t = some (.slice e)) {fuel : Nat} {a : Option Addr} {n c : Nat} {y : DataW H × List MemPlace} (h : DataW.trod enc P W 0 (fun _ => true) true fuel t [.slice a n c] = some y) : n ≤ c ∧ n ≤ 9223372036854775807 := by
  rcases open_slice ht h with ⟨hcs, _⟩ | ⟨a', len, cap, m, k, D, Pl, hcs, _, hlc, hm, _⟩
  · simp only [List.cons.injEq, Value.slice.injEq, and_true] at hcs
    obtain ⟨rfl, rfl, rfl⟩ := hcs
    omega
  · simp only [List.cons.injEq, Value.slice.injEq, and_true] at hcs
    obtain ⟨rfl, rfl, rfl⟩ := hcs
    simp only [maxLen] at hm
    omega
theorem open_rows {P : Program} {α : Type} [Inhabited α] {cs : α → List Value} {sz : Nat} {t e : TypeId} (ht : P.underlying t = some (.slice e)) (hce : P.cellsOf e = sz) (hsz : 0 < sz) (hl : ∀ x, (cs x).length = sz) (Q : α → Prop)
    (elt : ∀ (k : Nat) (c : List Value) (y : DataW H × List MemPlace), DataW.trod enc P W 0 (fun _ => true) true k e c = some y → ∃ x, c = cs x ∧ Q x)
    {fuel : Nat} {a : Option Addr} {n c : Nat} {y : DataW H × List MemPlace} (h : DataW.trod enc P W 0 (fun _ => true) true fuel t [.slice a n c] = some y) (hn : n ≤ 1000000000000000) :
    n ≤ c ∧ ∃ l : List α, Rd cs sz W 0 a n l ∧ ∀ x ∈ l, Q x := by
  rcases open_slice ht h with ⟨hcs, _⟩ | ⟨a', len, cap, m, k, D, Pl, hcs, _, hlc, _, hmm, _, hx⟩
  · simp only [List.cons.injEq, Value.slice.injEq, and_true] at hcs
    obtain ⟨rfl, rfl, rfl⟩ := hcs
    exact ⟨Nat.le_refl _, [], Rd.nil, fun x hx => by cases hx⟩
  · simp only [List.cons.injEq, Value.slice.injEq, and_true] at hcs
    obtain ⟨rfl, rfl, rfl⟩ := hcs
    simp only [if_true] at hmm
    subst hmm
    rw [hce] at hx
    obtain ⟨X, hX⟩ := choose_lt (α := α) (n := n) (p := fun i x => W.cells? 0 (a'.add (i * sz)) sz = some (cs x) ∧ Q x) fun i hi => by
      obtain ⟨c', h1, h2⟩ := hx i (by omega)
      obtain ⟨x, rfl, hq⟩ := elt _ _ _ h2
      exact ⟨x, h1, hq⟩
    have hcell : ∀ i, i < n → ∀ (j : Nat) (u : Value), (cs (X i))[j]? = some u → W.cell? (a'.add (i * sz + j)) = some u := fun i hi j u hu => by
      obtain ⟨_, _, h3⟩ := World.cells?_some (hX i hi).1
      have hj : j < sz := by have := (List.getElem?_eq_some_iff.1 hu).1; rw [hl] at this; exact this
      have := h3 j hj
      rw [add_add] at this
      rw [this]; exact hu
    refine ⟨hlc, (List.range n).map X, rd_of (fun h0 => ?_) hsz hn X hl hcell, fun x hx => ?_⟩
    · have hc := hcell 0 h0 0 ((cs (X 0))[0]'(by rw [hl]; exact hsz)) (List.getElem?_eq_getElem _)
      simpa [Addr.add] using World.cell?_spot hc
    · obtain ⟨i, hi, rfl⟩ := List.mem_map.1 hx
      exact (hX i (List.mem_range.1 hi)).2
end
section
variable {H : Type} {enc : TypeId × Value → H} {W : World}
theorem cI1 : Try.prog.cellsOf 3 = 1 := by kernel_rfl
theorem cS1 : Try.prog.cellsOf 9 = 1 := by kernel_rfl
theorem cB1' : Try.prog.cellsOf 4 = 1 := by kernel_rfl
theorem cN3 : Try.prog.cellsOf 36 = 3 := by kernel_rfl
theorem elt_node (k : Nat) (c : List Value) (y : DataW H × List MemPlace) (h : DataW.trod enc Try.prog W 0 (fun _ => true) true k 36 c = some y) : ∃ x : Nd, c = cN x ∧ x.name.size ≤ maxLen := by
  obtain ⟨y0, y1, y2, n, _, hl, t0, t1, t2⟩ := trod_struct3 Try.underlying36 h
  rw [cN3] at hl
  match c, hl with
  | [c0, c1, c2], _ =>
    simp only [cI1, cS1, List.drop, List.take] at t0 t1 t2
    obtain ⟨z0, e0, _, _⟩ := DataW.trod_int Try.underlying3 t0
    obtain ⟨s, e1, _, hs⟩ := DataW.trod_string Try.underlying9 t1
    obtain ⟨z2, e2, _, _⟩ := DataW.trod_int Try.underlying3 t2
    simp only [List.cons.injEq, and_true] at e0 e1 e2
    subst e0 e1 e2
    exact ⟨⟨z0, s, z2⟩, rfl, hs⟩
theorem open_nodes {fuel : Nat} {a : Option Addr} {n c : Nat} {y : DataW H × List MemPlace} (h : DataW.trod enc Try.prog W 0 (fun _ => true) true fuel 22 [.slice a n c] = some y) (hn : n ≤ 1000000000000000) :
    n ≤ c ∧ ∃ l : List Nd, Rd cN 3 W 0 a n l ∧ ∀ x ∈ l, x.name.size ≤ maxLen := open_rows Try.underlying22 cN3 (by omega) (fun _ => rfl) (fun x : Nd => x.name.size ≤ maxLen) elt_node h hn
theorem cR4 : Try.prog.cellsOf 43 = 4 := by kernel_rfl
theorem elt_rec (k : Nat) (c : List Value) (y : DataW H × List MemPlace) (h : DataW.trod enc Try.prog W 0 (fun _ => true) true k 43 c = some y) : ∃ x : Rc, c = cR x ∧ True := by
  obtain ⟨y0, y1, y2, y3, n, _, hl, t0, t1, t2, t3⟩ := Go.Joins.trod_struct4 Try.underlying43 h
  rw [cR4] at hl
  match c, hl with
  | [c0, c1, c2, c3], _ =>
    simp only [cI1, cB1', List.drop, List.take] at t0 t1 t2 t3
    obtain ⟨z0, e0, _, _⟩ := DataW.trod_int Try.underlying3 t0
    obtain ⟨z1, e1, _, _⟩ := DataW.trod_int Try.underlying3 t1
    obtain ⟨z2, e2, _, _⟩ := DataW.trod_int Try.underlying3 t2
    obtain ⟨b3, e3, _⟩ := DataW.trod_bool Try.underlying4 t3
    simp only [List.cons.injEq, and_true] at e0 e1 e2 e3
    subst e0 e1 e2 e3
    exact ⟨⟨z0, z1, z2, b3⟩, rfl, trivial⟩
theorem open_recs {fuel : Nat} {a : Option Addr} {n c : Nat} {y : DataW H × List MemPlace} (h : DataW.trod enc Try.prog W 0 (fun _ => true) true fuel 23 [.slice a n c] = some y) (hn : n ≤ 1000000000000000) :
    n ≤ c ∧ ∃ l : List Rc, Rd cR 4 W 0 a n l := by
  obtain ⟨h1, l, h2, _⟩ := open_rows Try.underlying23 cR4 (by omega) (fun _ => rfl) (fun _ => True) elt_rec h hn
  exact ⟨h1, l, h2⟩
end
end Go.Proofs.Ytgmgmnigcikebaa
