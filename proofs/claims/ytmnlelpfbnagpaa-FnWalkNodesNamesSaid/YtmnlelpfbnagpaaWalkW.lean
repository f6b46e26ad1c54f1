/- The walk over walkFrom. -/
import Derived.Test.YtmnlelpfbnagpaaSortW
import Derived.Test.YtmnlelpfbnagpaaWalkL
import Derived.Test.YtmnlelpfbnagpaaTreeV3
namespace Go.Proofs.Ytmnlelpfbnagpaa
open Go.RowKit

/-- What an append onto a row, and new blocks, turn. -/
def Ap (w : World) (v : Value) (w' : World) (v' : Value) : Prop := w.grownBy w' v.ownBlock ∧ (v'.ownBlock = v.ownBlock ∨ ∃ s, w.heap.size ≤ s ∧ v'.ownBlock = some s)
theorem Ap.size {w w' : World} {v v' : Value} (h : Ap w v w' v') : w.heap.size ≤ w'.heap.size := h.1.size
theorem Ap.of_below {w w' : World} (v : Value) (h : Below w.heap.size w w') : Ap w v w' v :=
  ⟨⟨h.os, h.tape, h.output, h.size, fun i hi _ => h.block i hi⟩, .inl rfl⟩
theorem Ap.tr {w w1 w2 : World} {v v1 v2 : Value} (h : Ap w v w1 v1) (k : Ap w1 v1 w2 v2) : Ap w v w2 v2 := by
  have hs := h.1.size
  refine ⟨⟨k.1.os.trans h.1.os, k.1.tape.trans h.1.tape, k.1.output.trans h.1.output, Nat.le_trans h.1.size k.1.size, fun i hi hne => ?_⟩, ?_⟩
  · refine (k.1.block i (by omega) ?_).trans (h.1.block i hi hne)
    rcases h.2 with e | ⟨s, hs1, e⟩
    · rw [e]; exact hne
    · rw [e]; intro e2; injection e2 with e2; omega
  · rcases k.2 with e | ⟨s, hs1, e⟩
    · rcases h.2 with e1 | ⟨s, hs1, e1⟩
      · exact .inl (e.trans e1)
      · exact .inr ⟨s, hs1, e.trans e1⟩
    · exact .inr ⟨s, by omega, e⟩
theorem Ap.app {w w' : World} {v v' : Value} (o : Obj) (hg : (w.alloc o).grownBy w' v.ownBlock) (hb : v'.ownBlock = v.ownBlock ∨ v'.ownBlock = some (w.alloc o).heap.size) : Ap w v w' v' :=
  (Ap.of_below v ((Below.refl w.heap.size w).alloc (Nat.le_refl _) o)).tr ⟨hg, hb.imp id fun e => ⟨_, Nat.le_refl _, e⟩⟩
theorem Ap.below {w w' : World} {v v' : Value} {B base : Nat} {l : List Int} (h : Ap w v w' v') (ho : Own cI 1 3 w base v l) (hB : B ≤ base) (hs : B ≤ w.heap.size) : Below B w w' :=
  ⟨h.1.os, h.1.tape, h.1.output, h.1.size, fun i hi => h.1.block i (by omega) fun e => by have := (ho.blk i e.symm).1; omega⟩
theorem Rd.ap {w w' : World} {v v' : Value} {base lo n : Nat} {A : Option Addr} {l : List Int} {t : List Nd} (h : Rd cN 3 w lo A n t) (hA : ∀ q, A = some q → q.block < base) (ho : Own cI 1 3 w base v l) (k : Ap w v w' v') : Rd cN 3 w' lo A n t := by
  refine ⟨h.1, h.2.1, fun hn => ?_⟩
  obtain ⟨b, o, e, hlo, hlt, hc⟩ := h.2.2 hn
  have hb := hA _ e
  refine ⟨b, o, e, hlo, Nat.lt_of_lt_of_le hlt k.size, fun i x hx j u hu => (World.cell?_of_block (k.1.block b hlt fun e2 => ?_)).trans (hc i x hx j u hu)⟩
  have := (ho.blk b e2.symm).1
  simp at hb
  omega
theorem cell_ap {w w' : World} {v v' : Value} {p : Addr} {u : Value} (h : w.cell? p = some u) (k : Ap w v w' v') (hne : some p.block ≠ v.ownBlock) : w'.cell? p = some u :=
  (World.cell?_of_block (k.1.block p.block (World.block_lt_of_cell? _ _ h) hne)).trans h

/-- The children among the first k nodes. -/
def kdK (t : List Nd) (a : Int) (k : Nat) : List Int := ((List.range k).map fun (i : Nat) => (i : Int)).filter fun i => decide (parI t i = a)
theorem kdK_zero (t : List Nd) (a : Int) : kdK t a 0 = [] := rfl
theorem kdK_t {t : List Nd} {a : Int} {k : Nat} {x : Nd} (hx : t[k]? = some x) (h : x.par = a) : kdK t a (k + 1) = kdK t a k ++ [(k : Int)] := by
  unfold kdK
  rw [List.range_succ, List.map_append, List.filter_append]
  congr 1
  have : parI t (k : Int) = a := by unfold parI; rw [Int.toNat_natCast, hx]; exact h
  simp [this]
theorem kdK_f {t : List Nd} {a : Int} {k : Nat} {x : Nd} (hx : t[k]? = some x) (h : x.par ≠ a) : kdK t a (k + 1) = kdK t a k := by
  unfold kdK
  rw [List.range_succ, List.map_append, List.filter_append]
  have : parI t (k : Int) ≠ a := by unfold parI; rw [Int.toNat_natCast, hx]; exact h
  simp [this]
theorem kdK_all {t : List Nd} {a : Int} {n : Nat} (h : t.length = n) : kdK t a n = kidsF t a := by subst h; rfl
theorem kdK_len (t : List Nd) (a : Int) (k : Nat) : (kdK t a k).length ≤ k := by
  unfold kdK
  refine Nat.le_trans (List.length_filter_le _ _) ?_
  rw [List.length_map, List.length_range]
  exact Nat.le_refl _
theorem wk_le {t : List Nd} (h : VT t) {a : Int} (h0 : 0 ≤ a) (hl : a < t.length) : (wkI t a).length ≤ t.length := by
  rw [wk_len h h0 hl]
  refine Nat.le_trans (List.length_filter_le _ _) ?_
  rw [List.length_range]
  exact Nat.le_refl _
/-- The walk's beginning: the node and the walks from its first j children. -/
def wkB (t : List Nd) (a : Int) (j : Nat) : List Int := a :: ((srtF t a).take j).flatMap (wkI t)
theorem wkB_zero (t : List Nd) (a : Int) : wkB t a 0 = [a] := rfl
theorem wkB_succ {t : List Nd} {a z : Int} {j : Nat} (h : (srtF t a)[j]? = some z) : wkB t a (j + 1) = wkB t a j ++ wkI t z := by
  unfold wkB
  rw [List.take_add_one, h, Option.toList_some, List.flatMap_append, List.flatMap_singleton, List.cons_append]
theorem wkB_all {t : List Nd} (h : VT t) {a : Int} (h0 : 0 ≤ a) (hl : a < t.length) {j : Nat} (hj : (srtF t a).length ≤ j) : wkB t a j = wkI t a := by
  unfold wkB
  rw [List.take_of_length_le hj, wkI_step h h0 hl]
theorem wkB_len {t : List Nd} (h : VT t) {a : Int} (h0 : 0 ≤ a) (hl : a < t.length) (j : Nat) : (wkB t a j).length ≤ (wkI t a).length := by
  rw [wkI_step h h0 hl]
  unfold wkB
  rw [List.length_cons, List.length_cons]
  have : ((srtF t a).take j).flatMap (wkI t) ++ ((srtF t a).drop j).flatMap (wkI t) = (srtF t a).flatMap (wkI t) := by rw [← List.flatMap_append, List.take_append_drop]
  rw [← this, List.length_append]
  omega
end Go.Proofs.Ytmnlelpfbnagpaa
