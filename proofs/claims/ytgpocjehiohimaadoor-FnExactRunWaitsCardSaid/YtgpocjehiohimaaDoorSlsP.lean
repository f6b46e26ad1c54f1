/- Words: a slice of slices that reads as a list of lists. No program. -/
import Derived.Test.YtgpocjehiohimaaDoorWords6
namespace Go.Proofs.YtgpocjehiohimaaDoor
open Go.RowKit

structure Sl where
  a : Option Addr
  n : Nat
  c : Nat
def cV (x : Sl) : List Value := [.slice x.a x.n x.c]
theorem one_V (x : Sl) : ∀ u ∈ cV x, u.oneCell' = true := by intro u hu; simp only [cV, List.mem_cons, List.not_mem_nil, or_false] at hu; subst hu; rfl

/-- Each of these slices reads as its list. -/
def Rdd {α : Type} (cs : α → List Value) (sz : Nat) (w : World) (lo : Nat) (vs : List Sl) (ls : List (List α)) : Prop :=
  vs.length = ls.length ∧ ∀ (k : Nat) (v : Sl) (l : List α), vs[k]? = some v → ls[k]? = some l → v.n ≤ v.c ∧ Rd cs sz w lo v.a v.n l
/-- A slice of slices. -/
def Rds {α : Type} (cs : α → List Value) (sz : Nat) (w : World) (lo : Nat) (A : Option Addr) (n : Nat) (ls : List (List α)) : Prop :=
  ∃ vs, Rd cV 1 w lo A n vs ∧ Rdd cs sz w lo vs ls

section
variable {α : Type} {cs : α → List Value} {sz : Nat} {w w' : World} {lo : Nat} {A : Option Addr} {n : Nat} {vs : List Sl} {ls : List (List α)}
theorem Rdd.keep (h : Rdd cs sz w lo vs ls) (hs : w.heap.size ≤ w'.heap.size) (hk : ∀ b, lo ≤ b → b < w.heap.size → w'.heap[b]? = w.heap[b]?) : Rdd cs sz w' lo vs ls :=
  ⟨h.1, fun k v l hv hl => ⟨(h.2 k v l hv hl).1, (h.2 k v l hv hl).2.keep hs hk⟩⟩
theorem Rdd.below (h : Rdd cs sz w lo vs ls) (hb : Below w.heap.size w w') : Rdd cs sz w' lo vs ls := h.keep hb.size fun b _ hlt => hb.block b hlt
theorem Rdd.grown {R : Nat} (h : Rdd cs sz w lo vs ls) (hb : w.grownBy w' (some R)) (hR : R < lo) : Rdd cs sz w' lo vs ls :=
  h.keep hb.size fun b hlo hlt => hb.block b hlt (by intro e; injection e with e; omega)
theorem Rdd.alloc (h : Rdd cs sz w lo vs ls) (o : Obj) : Rdd cs sz (w.alloc o) lo vs ls := h.below ((Below.refl _ _).alloc (Nat.le_refl _) o)
theorem Rdd.low {lo' : Nat} (h : Rdd cs sz w lo vs ls) (hl : lo' ≤ lo) : Rdd cs sz w lo' vs ls := ⟨h.1, fun k v l hv hll => ⟨(h.2 k v l hv hll).1, (h.2 k v l hv hll).2.low hl⟩⟩
theorem Rdd.nil (w : World) (lo : Nat) : Rdd cs sz w lo [] ([] : List (List α)) := ⟨rfl, fun k v l h => by simp at h⟩
theorem Rdd.snoc {v : Sl} {l : List α} (h : Rdd cs sz w lo vs ls) (hc : v.n ≤ v.c) (hr : Rd cs sz w lo v.a v.n l) : Rdd cs sz w lo (vs ++ [v]) (ls ++ [l]) := by
  refine ⟨by simp [h.1], fun k x y hx hy => ?_⟩
  by_cases hk : k < vs.length
  · rw [List.getElem?_append_left hk] at hx
    rw [List.getElem?_append_left (by rw [← h.1]; exact hk)] at hy
    exact h.2 k x y hx hy
  · rw [List.getElem?_append_right (by omega)] at hx
    rw [List.getElem?_append_right (by rw [← h.1]; omega)] at hy
    have h0 := (List.getElem?_eq_some_iff.1 hx).1
    simp only [List.length_cons, List.length_nil] at h0
    have e1 : k - vs.length = 0 := by omega
    have e2 : k - ls.length = 0 := by rw [← h.1]; omega
    rw [e1] at hx
    rw [e2] at hy
    simp only [List.getElem?_cons_zero, Option.some.injEq] at hx hy
    subst hx hy
    exact ⟨hc, hr⟩
theorem Rdd.set {v : Sl} {l : List α} {k : Nat} (h : Rdd cs sz w lo vs ls) (hc : v.n ≤ v.c) (hr : Rd cs sz w lo v.a v.n l) : Rdd cs sz w lo (vs.set k v) (ls.set k l) := by
  refine ⟨by simp [h.1], fun i x y hx hy => ?_⟩
  rw [List.getElem?_set] at hx hy
  by_cases e : k = i
  · rw [if_pos e] at hx hy
    split at hx
    · split at hy
      · injection hx with hx; injection hy with hy; subst hx hy; exact ⟨hc, hr⟩
      · cases hy
    · cases hx
  · rw [if_neg e] at hx hy
    exact h.2 i x y hx hy
theorem Rds.len (h : Rds cs sz w lo A n ls) : ls.length = n := by
  obtain ⟨vs, h1, h2⟩ := h
  rw [← h2.1]; exact h1.len
theorem Rds.le (h : Rds cs sz w lo A n ls) : n ≤ 1000000000000000 := by
  obtain ⟨vs, h1, _⟩ := h
  exact h1.le
theorem Rds.below (h : Rds cs sz w lo A n ls) (hb : Below w.heap.size w w') : Rds cs sz w' lo A n ls := by
  obtain ⟨vs, h1, h2⟩ := h
  exact ⟨vs, h1.below hb, h2.below hb⟩
theorem Rds.grown {R : Nat} (h : Rds cs sz w lo A n ls) (hb : w.grownBy w' (some R)) (hR : R < lo) : Rds cs sz w' lo A n ls := by
  obtain ⟨vs, h1, h2⟩ := h
  exact ⟨vs, h1.grown hb hR, h2.grown hb hR⟩
theorem Rds.alloc (h : Rds cs sz w lo A n ls) (o : Obj) : Rds cs sz (w.alloc o) lo A n ls := h.below ((Below.refl _ _).alloc (Nat.le_refl _) o)
theorem Rds.drew (h : Rds cs sz w lo A n ls) : Rds cs sz w.drew lo A n ls := h
theorem Rds.low {lo' : Nat} (h : Rds cs sz w lo A n ls) (hl : lo' ≤ lo) : Rds cs sz w lo' A n ls := by
  obtain ⟨vs, h1, h2⟩ := h
  exact ⟨vs, h1.low hl, h2.low hl⟩
theorem Rds.get {k : Nat} (h : Rds cs sz w lo A n ls) (hk : k < n) : ∃ b o A' m c' l, A = some ⟨b, o, none⟩ ∧ lo ≤ b ∧ b < w.heap.size ∧ ls[k]? = some l ∧
    w.cell? ⟨b, o + k, none⟩ = some (.slice A' m c') ∧ m ≤ c' ∧ Rd cs sz w lo A' m l := by
  obtain ⟨vs, h1, h2⟩ := h
  obtain ⟨b, o, x, e, hlo, hb, hx, hc⟩ := h1.get hk
  have hkl : k < ls.length := by rw [← h2.1, h1.len]; exact hk
  obtain ⟨hc2, hr⟩ := h2.2 k x _ hx (List.getElem?_eq_getElem hkl)
  exact ⟨b, o, x.a, x.n, x.c, _, e, hlo, hb, List.getElem?_eq_getElem hkl, by simpa using hc 0 _ rfl, hc2, hr⟩
end
end Go.Proofs.YtgpocjehiohimaaDoor
