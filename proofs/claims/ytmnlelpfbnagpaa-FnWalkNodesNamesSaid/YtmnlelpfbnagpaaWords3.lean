/- Words: a store into a row of the call's own. No program. -/
import Derived.Test.YtmnlelpfbnagpaaWords2
namespace Go.Proofs.Ytmnlelpfbnagpaa
open Go.RowKit

theorem flat_set {α : Type} {cs : α → List Value} {sz : Nat} (h : ∀ x, (cs x).length = sz) : ∀ (l : List α) (k : Nat) (x x' : α) (j : Nat) (u : Value), l[k]? = some x → cs x' = (cs x).set j u → j < sz → (l.flatMap cs).set (k * sz + j) u = (l.set k x').flatMap cs := by
  intro l
  induction l with
  | nil => intro k x x' j u hx; simp at hx
  | cons y r ih =>
    intro k x x' j u hx hu hj
    cases k with
    | zero =>
      simp only [List.getElem?_cons_zero, Option.some.injEq] at hx
      subst hx
      rw [List.set_cons_zero, List.flatMap_cons, List.flatMap_cons, Nat.zero_mul, Nat.zero_add, List.set_append_left _ _ (by rw [h]; exact hj), hu]
    | succ k =>
      rw [List.set_cons_succ, List.flatMap_cons, List.flatMap_cons, Nat.add_mul, List.set_append_right _ _ (by rw [h]; omega)]
      rw [show k * sz + 1 * sz + j - (cs y).length = k * sz + j from by rw [h]; omega]
      rw [ih k x x' j u (by simpa using hx) hu hj]

/-- The length of a slice value: for a loop's measure. -/
def lenV : Value → Nat | .slice _ n _ => n | _ => 0

section
variable {α : Type} {cs : α → List Value} {sz : Nat} {e : TypeId} {w w' : World} {base : Nat} {v : Value} {l : List α}

/-- The shape of an owned row that is not empty. -/
theorem Own.form (h : Own cs sz e w base v l) (h1 : 1 ≤ l.length) : ∃ g m cap, v = .slice (some ⟨g, 0, none⟩) m cap ∧ base ≤ g ∧ g < w.heap.size ∧ m ≤ cap ∧ m = l.length := by
  rcases h.2 with ⟨rfl, hn⟩ | ⟨g, cap, cur, rfl, hb, hg, hnc, _⟩
  · omega
  · exact ⟨g, _, cap, rfl, hb, blk_lt hg, hnc, rfl⟩
theorem Own.lenV (h : Own cs sz e w base v l) : lenV v = l.length := by
  rcases h.2 with ⟨rfl, hn⟩ | ⟨g, cap, cur, rfl, _⟩
  · exact hn.symm
  · rfl
theorem Own.free {g m cap : Nat} (h : Own cs sz e w base (.slice (some ⟨g, 0, none⟩) m cap) l) (j : Nat) : w.frozen? ⟨g, j, none⟩ = false := by
  rcases h.2 with ⟨h', _⟩ | ⟨g', cap', cur, h', _, hg, _⟩
  · simp at h'
  · simp only [Value.slice.injEq, Option.some.injEq, Addr.mk.injEq, and_true] at h'
    obtain ⟨rfl, _, _⟩ := h'
    exact blk_free hg j
theorem Own.rds {A : Option Addr} {m c : Nat} (h : Own cs sz e w base (.slice A m c) l) (hlen : ∀ x, (cs x).length = sz) (hl : l.length ≤ 1000000000000000) : m ≤ c ∧ Rd cs sz w base A m l := by
  obtain ⟨A', m', c', hv, hc, hr⟩ := h.rdn hlen hl
  simp only [Value.slice.injEq] at hv
  obtain ⟨rfl, rfl, rfl⟩ := hv
  exact ⟨hc, hr⟩
/-- One cell of one element is stored. -/
theorem Own.set {g m cap k j : Nat} {x x' : α} {u : Value} (h : Own cs sz e w base (.slice (some ⟨g, 0, none⟩) m cap) l) (hlen : ∀ x, (cs x).length = sz) (hx : l[k]? = some x) (hu : cs x' = (cs x).set j u) (hj : j < sz) {q : Nat} (hq : q = k * sz + j) :
    Own cs sz e (w.setCell ⟨g, q, none⟩ u) base (.slice (some ⟨g, 0, none⟩) m cap) (l.set k x') := by
  subst hq
  have hm : m = l.length := by
    rcases h.2 with ⟨h', _⟩ | ⟨g', cap', cur, h', _⟩
    · simp at h'
    · simp only [Value.slice.injEq] at h'; exact h'.2.1
  subst hm
  have hs := (World.ownsRow.stored h (k * sz + j) u).1
  unfold Own
  rw [List.length_set, ← flat_set hlen l k x x' j u hx hu hj]
  exact hs
end
end Go.Proofs.Ytmnlelpfbnagpaa
