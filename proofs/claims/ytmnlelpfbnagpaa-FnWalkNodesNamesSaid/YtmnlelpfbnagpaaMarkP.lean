/- The plain side of marks: the numbers 0 to 3 that are marked. -/
import Derived.Test.YtmnlelpfbnagpaaWords
namespace Go.Proofs.Ytmnlelpfbnagpaa

/-- The numbers 0 to 3 that are marked. -/
def markL (f : Int → Bool) : List Int := ([0, 1, 2, 3] : List Int).filter f
theorem markL_len (f : Int → Bool) : (markL f).length ≤ 4 := List.length_filter_le f [0, 1, 2, 3]

theorem mark_step (k : Nat) (hk : k < 4) : ([0, 1, 2, 3] : List Int).take (k + 1) = ([0, 1, 2, 3] : List Int).take k ++ [(k : Int)] := by
  match k, hk with
  | 0, _ => rfl
  | 1, _ => rfl
  | 2, _ => rfl
  | 3, _ => rfl
theorem mark_t {f : Int → Bool} {k : Nat} (hk : k < 4) (h : f k = true) : (([0, 1, 2, 3] : List Int).take (k + 1)).filter f = (([0, 1, 2, 3] : List Int).take k).filter f ++ [(k : Int)] := by
  rw [mark_step k hk, List.filter_append]; simp [h]
theorem mark_f {f : Int → Bool} {k : Nat} (hk : k < 4) (h : f k = false) : (([0, 1, 2, 3] : List Int).take (k + 1)).filter f = (([0, 1, 2, 3] : List Int).take k).filter f := by
  rw [mark_step k hk, List.filter_append]; simp [h]
theorem mark_len (f : Int → Bool) (k : Nat) : ((([0, 1, 2, 3] : List Int).take k).filter f).length ≤ 4 := by
  refine Nat.le_trans (List.length_filter_le _ _) ?_
  simp; omega
end Go.Proofs.Ytmnlelpfbnagpaa
