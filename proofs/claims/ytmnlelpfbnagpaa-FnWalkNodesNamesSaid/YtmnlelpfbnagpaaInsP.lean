/- The reference's sorting of children, in plain words. -/
import Derived.Test.YtmnlelpfbnagpaaWalkP
namespace Go.Proofs.Ytmnlelpfbnagpaa
open Go.RowKit

theorem less_cb : ∀ a b : List UInt8, Op.bytesLess a b = decide (Lib.compareBytes a b < 0)
  | [], [] => rfl
  | [], _ :: _ => rfl
  | _ :: _, [] => rfl
  | x :: a, y :: b => by
    rw [Op.bytesLess, Lib.compareBytes, less_cb a b]
    by_cases h1 : x < y
    · simp [h1]
    · by_cases h2 : y < x
      · have hne : x ≠ y := fun e => by subst e; exact h1 h2
        simp [h1, h2, hne]
      · have e : x = y := UInt8.le_antisymm (UInt8.not_lt.1 h2) (UInt8.not_lt.1 h1)
        subst e
        simp [h1]
theorem nlt_less {t : List Nd} {i j : Nat} {u v : Nd} (hu : t[i]? = some u) (hv : t[j]? = some v) : Op.bytesLess u.name.toList v.name.toList = nlt t (i : Int) (j : Int) := by
  rw [less_cb]
  unfold nlt nmL
  rw [Int.toNat_natCast, Int.toNat_natCast, hu, hv]
/-- The first i are in order. -/
def Srt (t : List Nd) (K l : List Int) (i : Nat) : Prop := l.Perm K ∧ (l.take i).Pairwise fun x y => nlt t y x = false
/-- The first i are in order but for the one at j, which stands before those that it is to stand before. -/
def Ins (t : List Nd) (K l : List Int) (i j : Nat) : Prop := l.Perm K ∧ ∃ (P : List Int) (x : Int) (Q R : List Int), l = P ++ x :: (Q ++ R) ∧ P.length = j ∧ j + Q.length = i ∧ (P ++ Q).Pairwise (fun x y => nlt t y x = false) ∧ ∀ y ∈ Q, nlt t x y = true
theorem Srt.zero (t : List Nd) (K : List Int) : Srt t K K 0 := ⟨.refl _, by rw [List.take_zero]; exact .nil⟩
theorem Srt.start {t : List Nd} {K l : List Int} {i : Nat} (h : Srt t K l i) (hi : i < l.length) : Ins t K l i i := by
  refine ⟨h.1, l.take i, l[i], [], l.drop (i + 1), ?_, by rw [List.length_take]; omega, rfl, by rw [List.append_nil]; exact h.2, fun y hy => by cases hy⟩
  rw [List.nil_append, ← List.drop_eq_getElem_cons hi, List.take_append_drop]
theorem Ins.step {t : List Nd} {K l : List Int} {i j : Nat} {x y : Int} (h : Ins t K l i (j + 1)) (hx : l[j + 1]? = some x) (hy : l[j]? = some y) (hlt : nlt t x y = true) : Ins t K ((l.set (j + 1) y).set j x) i j := by
  obtain ⟨hp, P, x', Q, R, rfl, hP, hQ, hs, hq⟩ := h
  have ex : x' = x := by
    rw [List.getElem?_append_right (by omega), hP, Nat.sub_self] at hx
    simpa using hx
  subst ex
  obtain ⟨P', z, rfl⟩ : ∃ P' z, P = P' ++ [z] := by
    rcases List.eq_nil_or_concat P with e | ⟨P', z, e⟩
    · subst e; simp at hP
    · exact ⟨P', z, by rw [e, List.concat_eq_append]⟩
  have hP' : P'.length = j := by simp at hP; omega
  have ez : z = y := by
    rw [List.append_assoc, List.getElem?_append_right (by omega), hP', Nat.sub_self] at hy
    simpa using hy
  subst ez
  have e : ((P' ++ [z] ++ x' :: (Q ++ R)).set (j + 1) z).set j x' = P' ++ x' :: ((z :: Q) ++ R) := by
    subst hP'
    rw [List.append_assoc, List.set_append_right _ _ (by omega), show P'.length + 1 - P'.length = 1 by omega, List.set_append_right _ _ (by omega), Nat.sub_self]
    rfl
  rw [e]
  refine ⟨?_, P', x', z :: Q, R, rfl, hP', by rw [List.length_cons]; omega, by simpa using hs, fun w hw => ?_⟩
  · refine List.Perm.trans ?_ hp
    rw [List.append_assoc]
    refine List.Perm.append_left P' ?_
    exact List.Perm.swap z x' (Q ++ R)
  · rcases List.mem_cons.1 hw with rfl | hw
    · exact hlt
    · exact hq w hw
theorem Ins.done {t : List Nd} {K l : List Int} {i j : Nat} (h : Ins t K l i j) (hj : j = 0 ∨ ∃ x y, l[j]? = some x ∧ l[j - 1]? = some y ∧ nlt t x y = false) : Srt t K l (i + 1) := by
  obtain ⟨hp, P, x, Q, R, rfl, hP, hQ, hs, hq⟩ := h
  refine ⟨hp, ?_⟩
  have e : (P ++ x :: (Q ++ R)).take (i + 1) = P ++ x :: Q := by
    rw [show P ++ x :: (Q ++ R) = (P ++ x :: Q) ++ R by simp, List.take_append_of_le_length (by simp; omega), List.take_of_length_le (by simp; omega)]
  rw [e]
  have hs' := List.pairwise_append.1 hs
  have hPx : ∀ p ∈ P, nlt t x p = false := by
    rcases hj with h0 | ⟨x', y, hx, hy, hn⟩
    · intro p hp'
      have : P = [] := List.eq_nil_of_length_eq_zero (by omega)
      rw [this] at hp'
      cases hp'
    · rw [List.getElem?_append_right (by omega), hP, Nat.sub_self] at hx
      simp only [List.getElem?_cons_zero, Option.some.injEq] at hx
      subst hx
      by_cases hj0 : j = 0
      · intro p hp'
        have : P = [] := List.eq_nil_of_length_eq_zero (by omega)
        rw [this] at hp'
        cases hp'
      · rw [List.getElem?_append_left (by omega)] at hy
        intro p hp'
        obtain ⟨k, hk⟩ := List.getElem?_of_mem hp'
        have hkl := (List.getElem?_eq_some_iff.1 hk).1
        by_cases hkj : k = j - 1
        · rw [hkj, hy] at hk
          injection hk with hk
          rw [← hk]; exact hn
        · have hyl := (List.getElem?_eq_some_iff.1 hy).1
          have := (List.pairwise_iff_getElem.1 hs'.1) k (j - 1) hkl hyl (by omega)
          rw [(List.getElem?_eq_some_iff.1 hk).2, (List.getElem?_eq_some_iff.1 hy).2] at this
          exact nlt_ntrans this hn
  refine List.pairwise_append.2 ⟨hs'.1, List.pairwise_cons.2 ⟨fun q hq' => ?_, hs'.2.1⟩, fun p hp' z hz => ?_⟩
  · cases hc : nlt t q x with
    | false => rfl
    | true =>
      have := nlt_trans (hq q hq') hc
      rw [nlt_irrefl] at this
      cases this
  · rcases List.mem_cons.1 hz with rfl | hz
    · exact hPx p hp'
    · exact hs'.2.2 p hp' z hz
theorem Srt.all {t : List Nd} (h : VT t) {a : Int} (ha : 0 ≤ a) {l : List Int} {i : Nat} (hs : Srt t (kidsF t a) l i) (hi : l.length ≤ i) : l = srtF t a := by
  obtain ⟨h1, h2⟩ := hs
  rw [List.take_of_length_le hi] at h2
  exact srtF_only h ha h1 h2
end Go.Proofs.Ytmnlelpfbnagpaa
