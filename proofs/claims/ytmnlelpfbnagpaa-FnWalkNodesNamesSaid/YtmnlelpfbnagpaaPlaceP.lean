/- The place of a number in a list. -/
import Derived.Test.YtmnlelpfbnagpaaWords
namespace Go.Proofs.Ytmnlelpfbnagpaa
open Go.RowKit

/-- The place of a number, -1 for none. -/
def plL (z : Int) : List Int → Nat → Int
  | [], _ => -1
  | x :: r, k => if x = z then (k : Int) else plL z r (k + 1)
def plF (l : List Int) (z : Int) : Int := plL z l 0
theorem plL_spec (z : Int) : ∀ (l : List Int) (k : Nat), (plL z l k = -1 ∧ z ∉ l) ∨ ∃ i : Nat, plL z l k = k + i ∧ l[i]? = some z
  | [], k => .inl ⟨rfl, by simp⟩
  | x :: r, k => by
    rw [plL]
    by_cases e : x = z
    · rw [if_pos e]; exact .inr ⟨0, by simp, by rw [e]; rfl⟩
    · rw [if_neg e]
      rcases plL_spec z r (k + 1) with ⟨h1, h2⟩ | ⟨i, h1, h2⟩
      · exact .inl ⟨h1, by simp [h2]; exact fun h => e h.symm⟩
      · exact .inr ⟨i + 1, by rw [h1]; omega, h2⟩
theorem plL_hit {z : Int} : ∀ (l : List Int) (k i : Nat), l[i]? = some z → (∀ (j : Nat) (y : Int), j < i → l[j]? = some y → y ≠ z) → plL z l k = k + i
  | [], k, i, h, _ => by simp at h
  | x :: r, k, 0, h, _ => by
    simp only [List.getElem?_cons_zero, Option.some.injEq] at h
    rw [plL, if_pos h]; simp
  | x :: r, k, i + 1, h, hb => by
    rw [plL, if_neg (hb 0 x (by omega) rfl), plL_hit r (k + 1) i (by simpa using h) fun j y hj hy => hb (j + 1) y (by omega) (by simpa using hy)]
    omega
theorem plF_hit {z : Int} {l : List Int} {i : Nat} (h : l[i]? = some z) (hb : ∀ (j : Nat) (y : Int), j < i → l[j]? = some y → y ≠ z) : plF l z = i := by
  unfold plF; rw [plL_hit l 0 i h hb]; simp
theorem plF_miss {z : Int} {l : List Int} (h : ∀ (j : Nat) (y : Int), j < l.length → l[j]? = some y → y ≠ z) : plF l z = -1 := by
  unfold plF
  rcases plL_spec z l 0 with ⟨h1, _⟩ | ⟨i, _, h2⟩
  · exact h1
  · exact absurd rfl (h i z (List.getElem?_eq_some_iff.1 h2).1 h2)
theorem plF_mem {z : Int} {l : List Int} : 0 ≤ plF l z ↔ z ∈ l := by
  unfold plF
  rcases plL_spec z l 0 with ⟨h1, h2⟩ | ⟨i, h1, h2⟩
  · rw [h1]; constructor
    · intro h; omega
    · intro h; exact absurd h h2
  · rw [h1]; constructor
    · intro _; exact List.mem_of_getElem? h2
    · intro _; omega
end Go.Proofs.Ytmnlelpfbnagpaa
