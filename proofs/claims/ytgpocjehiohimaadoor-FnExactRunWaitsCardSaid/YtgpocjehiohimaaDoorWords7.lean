/- Words: lists that lie apart; owned slices in a slice. No program. -/
import Derived.Test.YtgpocjehiohimaaDoorSlsP
namespace Go.Proofs.YtgpocjehiohimaaDoor
open Go.RowKit

section
variable {α β : Type} {cs : α → List Value} {cs2 : β → List Value} {sz sz2 : Nat} {e e2 : TypeId} {w w' : World} {base base2 : Nat} {v v2 : Value} {l : List α} {l2 : List β}
/-- Two lists of different elements lie apart. -/
theorem Own.ap (h : Own cs sz e w base v l) (h2 : Own cs2 sz2 e2 w base2 v2 l2) (hne : e ≠ e2) : v.ownBlock = none ∨ v.ownBlock ≠ v2.ownBlock := by
  rcases h.2 with ⟨rfl, _⟩ | ⟨g, cap, cur, rfl, _, hg, _⟩
  · exact .inl rfl
  · rcases h2.2 with ⟨rfl, _⟩ | ⟨g2, cap2, cur2, rfl, _, hg2, _⟩
    · exact .inr (by simp [Value.ownBlock])
    · refine .inr fun hc => ?_
      simp only [Value.ownBlock, Option.some.injEq] at hc
      subst hc
      rw [hg] at hg2
      injection hg2 with hg2
      injection hg2 with _ hg2 _
      exact hne hg2
/-- A list lies apart from a block of other elements. -/
theorem Own.ap_blk {g : Nat} {t : TypeId} {cur : Array Value} (h : Own cs sz e w base v l) (hb : w.heap[g]? = some (.cells cur t (0, 0))) (hne : e ≠ t) : v.ownBlock ≠ some g := by
  rcases h.2 with ⟨rfl, _⟩ | ⟨g2, cap, cur2, rfl, _, hg, _⟩
  · simp [Value.ownBlock]
  · intro hc
    simp only [Value.ownBlock, Option.some.injEq] at hc
    subst hc
    rw [hg] at hb
    injection hb with hb
    injection hb with _ hb _
    exact hne hb
theorem Own.keepc (h : Own cs sz e w base v l) {g : Nat} (hne : v.ownBlock ≠ some g) (i : Nat) (u : Value) : Own cs sz e (w.setCell ⟨g, i, none⟩ u) base v l :=
  h.keep fun b _ _ h3 => Below.heap_setCell _ _ _ _ (by
    show b ≠ g
    intro e
    exact hne (by rw [h3, e]))
theorem Own.keepb (h : Own cs sz e w base v l) {g : Nat} {t : TypeId} {cur : Array Value} (hb : w.heap[g]? = some (.cells cur t (0, 0))) (hne : e ≠ t) (i : Nat) (u : Value) : Own cs sz e (w.setCell ⟨g, i, none⟩ u) base v l :=
  h.keepc (h.ap_blk hb hne) i u
theorem blk_ne {w : World} {g g2 : Nat} {t t2 : TypeId} {c c2 : Array Value} (h : w.heap[g]? = some (.cells c t (0, 0))) (h2 : w.heap[g2]? = some (.cells c2 t2 (0, 0))) (hne : t ≠ t2) : g ≠ g2 := by
  rintro rfl
  rw [h] at h2
  injection h2 with h2
  injection h2 with _ h2 _
  exact hne h2
theorem blk_keep {w w' : World} {g : Nat} {o : Obj} {row : Option Nat} (h : w.heap[g]? = some o) (hg : w.grownBy w' row) (hne : row ≠ some g) : w'.heap[g]? = some o :=
  (hg.block g (blk_lt h) (fun e => hne e.symm)).trans h
theorem blk_setne {w : World} {g g2 : Nat} {o : Obj} (h : w.heap[g]? = some o) (hne : g ≠ g2) (i : Nat) (u : Value) : (w.setCell ⟨g2, i, none⟩ u).heap[g]? = some o :=
  (Below.heap_setCell _ _ _ _ (by show g ≠ g2; exact hne)).trans h
end

/-- Each of these slices is a row of the call's own. -/
def Owd {α : Type} (cs : α → List Value) (sz : Nat) (e : TypeId) (w : World) (lo : Nat) (vs : List Sl) (ls : List (List α)) : Prop :=
  vs.length = ls.length ∧ ∀ (k : Nat) (v : Sl) (l : List α), vs[k]? = some v → ls[k]? = some l → Own cs sz e w lo (.slice v.a v.n v.c) l
section
variable {α β : Type} {cs : α → List Value} {cs2 : β → List Value} {sz sz2 : Nat} {e e2 : TypeId} {w w' : World} {lo base : Nat} {vs : List Sl} {ls : List (List α)} {l2 : List β} {v2 : Value}
theorem Owd.map (h : Owd cs sz e w lo vs ls) (f : ∀ (v : Sl) (l : List α), Own cs sz e w lo (.slice v.a v.n v.c) l → Own cs sz e w' lo (.slice v.a v.n v.c) l) : Owd cs sz e w' lo vs ls :=
  ⟨h.1, fun k v l hv hl => f v l (h.2 k v l hv hl)⟩
theorem Owd.nil : Owd cs sz e w lo [] ([] : List (List α)) := ⟨rfl, fun k v l h => by simp at h⟩
theorem Owd.below (h : Owd cs sz e w lo vs ls) (hb : Below w.heap.size w w') : Owd cs sz e w' lo vs ls := h.map fun _ _ h => h.below hb
theorem Owd.alloc (h : Owd cs sz e w lo vs ls) (o : Obj) : Owd cs sz e (w.alloc o) lo vs ls := h.map fun _ _ h => h.alloc o
theorem Owd.grown {R : Nat} (h : Owd cs sz e w lo vs ls) (hb : w.grownBy w' (some R)) (hR : R < lo) : Owd cs sz e w' lo vs ls := h.map fun _ _ h => h.grown hb hR
theorem Owd.grow (h : Owd cs sz e w lo vs ls) (ho : Own cs2 sz2 e2 w base v2 l2) (hg : w.grownBy w' v2.ownBlock) (hne : e ≠ e2) : Owd cs sz e w' lo vs ls := h.map fun _ _ h => h.grown' hg (h.ap ho hne)
theorem Owd.setCell {g i : Nat} {t : TypeId} {cur : Array Value} (h : Owd cs sz e w lo vs ls) (hb : w.heap[g]? = some (.cells cur t (0, 0))) (hne : e ≠ t) (u : Value) : Owd cs sz e (w.setCell ⟨g, i, none⟩ u) lo vs ls :=
  h.map fun _ _ h => h.keepb hb hne i u
theorem Owd.snoc {v : Sl} {l : List α} (h : Owd cs sz e w lo vs ls) (hr : Own cs sz e w lo (.slice v.a v.n v.c) l) : Owd cs sz e w lo (vs ++ [v]) (ls ++ [l]) := by
  refine ⟨by simp [h.1], fun k x y hx hy => ?_⟩
  by_cases hk : k < vs.length
  · rw [List.getElem?_append_left hk] at hx
    rw [List.getElem?_append_left (by rw [← h.1]; exact hk)] at hy
    exact h.2 k x y hx hy
  · rw [List.getElem?_append_right (by omega)] at hx
    rw [List.getElem?_append_right (by rw [← h.1]; omega)] at hy
    have h0 := (List.getElem?_eq_some_iff.1 hx).1
    simp only [List.length_cons, List.length_nil] at h0
    have e1 : k - vs.length = 0 := by omega
    have e2 : k - ls.length = 0 := by rw [← h.1]; omega
    rw [e1] at hx
    rw [e2] at hy
    simp only [List.getElem?_cons_zero, Option.some.injEq] at hx hy
    subst hx hy
    exact hr
theorem Owd.set {v : Sl} {l : List α} {k : Nat} (h : Owd cs sz e w lo vs ls) (hr : Own cs sz e w lo (.slice v.a v.n v.c) l) : Owd cs sz e w lo (vs.set k v) (ls.set k l) := by
  refine ⟨by simp [h.1], fun i x y hx hy => ?_⟩
  rw [List.getElem?_set] at hx hy
  by_cases e : k = i
  · rw [if_pos e] at hx hy
    split at hx
    · split at hy
      · injection hx with hx; injection hy with hy; subst hx hy; exact hr
      · cases hy
    · cases hx
  · rw [if_neg e] at hx hy
    exact h.2 i x y hx hy
theorem Owd.rdd (h : Owd cs sz e w lo vs ls) (hlen : ∀ x, (cs x).length = sz) (hl : ∀ l ∈ ls, l.length ≤ 1000000000000000) : Rdd cs sz w lo vs ls :=
  ⟨h.1, fun k v l hv hll => (h.2 k v l hv hll).rds hlen (hl l (List.mem_of_getElem? hll))⟩
end
end Go.Proofs.YtgpocjehiohimaaDoor
