/- Children are sorted by their names: a row of the call's own. -/
import Derived.Test.YtmnlelpfbnagpaaCmpW
import Derived.Test.YtmnlelpfbnagpaaElems
import Derived.Test.YtmnlelpfbnagpaaInts
namespace Go.Proofs.Ytmnlelpfbnagpaa
open Go.RowKit

section
variable {α : Type} [Inhabited α] {enc : α → Value}
theorem holds_blk {w : World} {g : Nat} {cur : Array Value} {e : TypeId} {ss : List α} (hb : w.heap[g]? = some (.cells cur e (0, 0))) (ht : cur.toList.take ss.length = ss.map enc) : Go.Sort.Holds enc w g 0 ss.toArray := by
  intro j hj
  have hj' : j < ss.length := by simpa using hj
  refine ⟨?_, by simp [World.frozen?, hb]⟩
  have h1 : (cur.toList.take ss.length)[j]? = (ss.map enc)[j]? := by rw [ht]
  rw [List.getElem?_take_of_lt hj'] at h1
  simp only [World.cell?, hb, Nat.zero_add]
  simp only [Option.isSome_none, Bool.false_eq_true, if_false]
  rw [← Array.getElem?_toList, h1]
  simp [hj']
theorem grown_sortW (w : World) (g n : Nat) (d : Array α) (os : Array Obj) : w.grownBy (sortWorld enc w g 0 n d os) (some g) := by
  unfold sortWorld
  refine ⟨rfl, rfl, rfl, by simp, fun k hk hne => ?_⟩
  rw [Go.Sort.heap_grow_old _ _ (by simpa using hk)]
  have : g ≠ k := fun e => hne (by rw [e])
  simp [Go.Sort.putRow, Go.Sort.mapBlock, Go.Sort.ahead, Array.getElem?_modify, this]
theorem heap_sortW {w : World} {g n : Nat} {os : Array Obj} {cur : Array Value} {e : TypeId} {fr : Nat × Nat} (d : Array α) (hb : w.heap[g]? = some (.cells cur e fr)) :
    (sortWorld enc w g 0 n d os).heap[g]? = some (.cells (Go.Sort.putCells enc 0 d cur) e fr) := by
  have hg : g < w.heap.size := (Array.getElem?_eq_some_iff.1 hb).1
  unfold sortWorld
  rw [Go.Sort.heap_grow_old _ _ (by simpa using hg)]
  simp [Go.Sort.putRow, Go.Sort.mapBlock, Go.Sort.ahead, Array.getElem?_modify, hb, Go.Sort.onCells]
theorem take_put (cur : Array Value) (ts : List α) (h : ts.length ≤ cur.size) : (Go.Sort.putCells enc 0 ts.toArray cur).toList.take ts.length = ts.map enc := by
  apply List.ext_getElem?
  intro j
  by_cases hj : j < ts.length
  · rw [List.getElem?_take_of_lt hj, Array.getElem?_toList]
    simp [Go.Sort.putCells, hj, show j < cur.size by omega]
  · rw [List.getElem?_take_eq_none (by omega), List.getElem?_eq_none (by simp; omega)]
end

/-- The numbers below n. -/
abbrev Fn (n : Nat) : Type := {z : Nat // z < n}
def encF (n : Nat) (x : Fn n) : Value := .int .i64 (x.1 : Int)
theorem lift_fn {n : Nat} : ∀ l : List Int, (∀ z ∈ l, 0 ≤ z ∧ z < n) → ∃ ss : List (Fn n), ss.map (fun x => (x.1 : Int)) = l
  | [], _ => ⟨[], rfl⟩
  | z :: l, h => by
    obtain ⟨ss, hs⟩ := lift_fn l fun y hy => h y (List.mem_cons_of_mem _ hy)
    have hz := h z (List.mem_cons_self ..)
    exact ⟨⟨z.toNat, by omega⟩ :: ss, by rw [List.map_cons, hs]; congr 1; show ((z.toNat : Nat) : Int) = z; omega⟩
theorem cI_map (l : List Int) : l.flatMap cI = l.map (Value.int .i64) := by
  induction l with
  | nil => rfl
  | cons x r ih => rw [List.flatMap_cons, List.map_cons, ih]; rfl
theorem SortFunc_any (X lo base g m cap : Nat) (A : Option Addr) (n c : Nat) (t : List Nd) (l : List Int) (w : World)
    (ho : Own cI 1 3 w base (.slice (some ⟨g, 0, none⟩) m cap) l) (hm : 1 ≤ m) (hm2 : m ≤ 1000)
    (hX : w.cell? ⟨X, 0, none⟩ = some (.slice A n c)) (hXg : X ≠ g) (hr : Rd cN 3 w lo A n t) (hAg : ∀ a, A = some a → a.block ≠ g) (hl : ∀ z ∈ l, 0 ≤ z ∧ z < n) :
    Calls Try.prog 68 #[.slice (some ⟨g, 0, none⟩) m cap, .func (.func 69) #[] #[.pointer (some ⟨X, 0, none⟩)]] w
      fun e w' => e = .returned (.tuple #[]) ∧ ∃ l', l'.Perm l ∧ l'.Pairwise (fun x y => nlt t y x = false) ∧ Own cI 1 3 w' base (.slice (some ⟨g, 0, none⟩) m cap) l' ∧ w.grownBy w' (some g) := by
  obtain ⟨ss, hss⟩ := lift_fn (n := n) l hl
  obtain ⟨hlen, h0⟩ := ho
  rcases h0 with ⟨h0, _⟩ | ⟨g', cap', cur, h1, hbg, hbk, hc1, hc2, hc3, hc4⟩
  · cases h0
  injection h1 with e1 e2 e3
  injection e1 with e1
  injection e1 with e1
  subst e1
  subst e3
  have hlm : l.length = m := e2.symm
  have hsl : ss.length = m := by rw [← hlm, ← hss, List.length_map]
  have hn : 0 < n := by
    have hlp : 0 < l.length := by omega
    have := hl _ (List.getElem_mem hlp)
    omega
  letI : Inhabited (Fn n) := ⟨⟨0, hn⟩⟩
  have hmap : ss.map (encF n) = l.map (Value.int .i64) := by rw [← hss, List.map_map]; rfl
  have ht : cur.toList.take ss.length = ss.map (encF n) := by
    rw [hmap, ← cI_map, ← hc4, hsl, hlm, Nat.mul_one]
  have hH := holds_blk hbk ht
  have hgl : g < w.heap.size := (Array.getElem?_eq_some_iff.1 hbk).1
  have hXl := World.block_lt_of_cell? _ _ hX
  have hcmp : CmpLays1 Try.prog 69 #[.pointer (some ⟨X, 0, none⟩)] (encF n) (fun x y => Lib.compareBytes (nmL t (x.1 : Int)) (nmL t (y.1 : Int))) g 0 ss.toArray.size w := by
    refine CmpReads.lays fun q os dk _ x y => ?_
    have hg := grown_sortW (enc := encF n) w g q dk os
    refine cmp_any X lo A n c t x.1 y.1 _ ?_ ?_ x.2 y.2
    · exact (World.cell?_of_block (hg.block X hXl (fun e => hXg (by injection e)))).trans hX
    · cases A with
      | none =>
        have h00 : n = 0 := by
          rcases Nat.eq_zero_or_pos n with h | h
          · exact h
          · obtain ⟨b, o, h', _⟩ := hr.2.2 h
            cases h'
        omega
      | some a =>
        obtain ⟨b, o, h', _⟩ := hr.2.2 hn
        injection h' with h'
        subst h'
        exact hr.ne hg (fun e => hAg _ rfl (by injection e))
  have hO : Go.Sort.SWO (ltOf fun (x y : Fn n) => Lib.compareBytes (nmL t (x.1 : Int)) (nmL t (y.1 : Int))) := {
    irrefl := fun x => nlt_irrefl (t := t) (x := (x.1 : Int))
    trans := fun x y z h1 h2 => nlt_trans (t := t) (x := (x.1 : Int)) (y := (y.1 : Int)) (z := (z.1 : Int)) h1 h2
    ntrans := fun x y z h1 h2 => nlt_ntrans (t := t) (x := (z.1 : Int)) (y := (y.1 : Int)) (z := (x.1 : Int)) h2 h1 }
  have eg : ∀ args w, (callFunc 69 args).run Try.prog w = .ok (.enter 69 args) w := enters_of Try.func69 (by kernel_rfl) rfl
  have hS := Any.slices_SortFunc Try.sortL (encF n) (fun _ => rfl) _ hO 69 #[.pointer (some ⟨X, 0, none⟩)] g 0 cap ss.toArray w eg hcmp hH hgl (by simp; omega)
  have esz : ss.toArray.size = m := by simpa using hsl
  rw [esz] at hS
  refine hS.mono ?_
  rintro e w' ⟨rfl, d', q, os, hp, hs, rfl⟩
  obtain ⟨hp0, _, hp2⟩ := hp
  have hdm : d'.size = m := hp0.trans esz
  have hdl : d'.toList.length = m := by simpa using hdm
  have hp3 : d'.toList.Perm ss := by
    have h1 : d'.extract 0 m = d' := by rw [← hdm]; exact Array.extract_size
    have h2 : ss.toArray.extract 0 m = ss.toArray := by rw [← esz]; exact Array.extract_size
    rw [h1, h2] at hp2
    simpa using hp2
  refine ⟨rfl, d'.toList.map (fun x => (x.1 : Int)), ?_, ?_, ?_, grown_sortW _ _ _ _ _⟩
  · rw [← hss]; exact hp3.map _
  · rw [List.pairwise_map, List.pairwise_iff_getElem]
    intro i j hi hj hij
    have hjm : j < m := by omega
    have := hs i j (Nat.zero_le _) hij hjm
    rw [getElem!_pos d' j (by omega), getElem!_pos d' i (by omega)] at this
    exact this
  · have hlm2 : (d'.toList.map (fun x => (x.1 : Int))).length = m := by rw [List.length_map]; exact hdl
    have hcells : (d'.toList.map (fun x => (x.1 : Int))).flatMap cI = d'.toList.map (encF n) := by rw [cI_map, List.map_map]; rfl
    unfold Own
    rw [hlm2, hcells]
    refine ⟨by rw [List.length_map, hdl, Nat.mul_one], .inr ⟨g, cap, _, rfl, hbg, heap_sortW d' hbk, by omega, hc2, by simp [Go.Sort.putCells, hc3], ?_⟩⟩
    rw [Nat.mul_one, ← hdl]
    exact take_put cur d'.toList (by omega)
end Go.Proofs.Ytmnlelpfbnagpaa
