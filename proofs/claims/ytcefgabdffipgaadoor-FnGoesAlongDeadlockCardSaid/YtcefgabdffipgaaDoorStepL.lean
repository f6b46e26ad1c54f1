/- Steps of a schedule, in plain words: last locks, accesses, two phases. -/
import Derived.Test.YtcefgabdffipgaaDoorStepP
namespace Go.Proofs.YtcefgabdffipgaaDoor
open Go.RowKit

/-- What is picked out of a list, by place and element. -/
def pickL {α β : Type} (p : Nat → α → Bool) (f : α → β) : List α → Nat → List β
  | [], _ => []
  | x :: r, k => if p k x then f x :: pickL p f r (k + 1) else pickL p f r (k + 1)
theorem pick_app {α β : Type} {p : Nat → α → Bool} {f : α → β} : ∀ (a b : List α) (k : Nat), pickL p f (a ++ b) k = pickL p f a k ++ pickL p f b (k + a.length)
  | [], b, k => rfl
  | x :: a, b, k => by
    rw [List.cons_append, pickL, pickL, pick_app a b (k + 1), show k + 1 + a.length = k + (x :: a).length by simp; omega]
    split <;> rfl
theorem pick_snoc {α β : Type} {p : Nat → α → Bool} {f : α → β} {list : List α} {k : Nat} {x : α} (hx : list[k]? = some x) : pickL p f (list.take (k + 1)) 0 = pickL p f (list.take k) 0 ++ if p k x then [f x] else [] := by
  have hk := (List.getElem?_eq_some_iff.1 hx).1
  rw [show list.take (k + 1) = list.take k ++ [x] by rw [List.take_add_one, hx]; rfl, pick_app]
  congr 1
  rw [show 0 + (list.take k).length = k by simp; omega]
  show (if p k x then f x :: pickL p f [] (k + 1) else pickL p f [] (k + 1)) = _
  split <;> rfl
theorem pick_t {α β : Type} {p : Nat → α → Bool} {f : α → β} {list : List α} {k : Nat} {x : α} (hx : list[k]? = some x) (h : p k x = true) : pickL p f (list.take (k + 1)) 0 = pickL p f (list.take k) 0 ++ [f x] := by rw [pick_snoc hx, if_pos h]
theorem pick_f {α β : Type} {p : Nat → α → Bool} {f : α → β} {list : List α} {k : Nat} {x : α} (hx : list[k]? = some x) (h : p k x = false) : pickL p f (list.take (k + 1)) 0 = pickL p f (list.take k) 0 := by rw [pick_snoc hx, if_neg (by rw [h]; simp), List.append_nil]
theorem pick_len {α β : Type} {p : Nat → α → Bool} {f : α → β} : ∀ (l : List α) (k : Nat), (pickL p f l k).length ≤ l.length
  | [], _ => Nat.le_refl _
  | x :: r, k => by
    have := pick_len (p := p) (f := f) r (k + 1)
    rw [pickL]; split <;> simp <;> omega
theorem pick_mem {α β : Type} {p : Nat → α → Bool} {f : α → β} {y : β} : ∀ (l : List α) (k : Nat), y ∈ pickL p f l k ↔ ∃ i x, l[i]? = some x ∧ p (k + i) x = true ∧ f x = y
  | [], k => by simp [pickL]
  | x :: r, k => by
    rw [pickL]
    have ih := pick_mem (p := p) (f := f) (y := y) r (k + 1)
    constructor
    · intro h
      split at h
      · rename_i hp
        rcases List.mem_cons.1 h with e | h
        · exact ⟨0, x, rfl, hp, e.symm⟩
        · obtain ⟨i, z, h1, h2, h3⟩ := ih.1 h
          exact ⟨i + 1, z, h1, by rw [show k + (i + 1) = k + 1 + i by omega]; exact h2, h3⟩
      · obtain ⟨i, z, h1, h2, h3⟩ := ih.1 h
        exact ⟨i + 1, z, h1, by rw [show k + (i + 1) = k + 1 + i by omega]; exact h2, h3⟩
    · rintro ⟨i, z, h1, h2, h3⟩
      cases i with
      | zero =>
        simp at h1
        subst h1
        rw [Nat.add_zero] at h2
        rw [if_pos h2]
        exact List.mem_cons.2 (.inl h3.symm)
      | succ i =>
        have := ih.2 ⟨i, z, h1, by rw [show k + 1 + i = k + (i + 1) by omega]; exact h2, h3⟩
        split
        · exact List.mem_cons.2 (.inr this)
        · exact this
theorem pick_congr {α β : Type} {p q : Nat → α → Bool} {f : α → β} : ∀ (l : List α) (k : Nat), (∀ i x, l[i]? = some x → p (k + i) x = q (k + i) x) → pickL p f l k = pickL q f l k
  | [], _, _ => rfl
  | x :: r, k, h => by
    have h0 := h 0 x rfl
    rw [Nat.add_zero] at h0
    have h1 := pick_congr (p := p) (q := q) (f := f) r (k + 1) fun i y hy => by rw [show k + 1 + i = k + (i + 1) by omega]; exact h (i + 1) y hy
    rw [pickL, pickL, h0, h1]

/-- A step takes a lock for a transaction. -/
def Takes (s : St) (who : Int) : Prop := s.who = who ∧ s.free = false
instance (s : St) (who : Int) : Decidable (Takes s who) := inferInstanceAs (Decidable (_ ∧ _))
def lpL (who : Int) : List St → Nat → Int → Int
  | [], _, a => a
  | s :: r, k, a => lpL who r (k + 1) (if Takes s who then (k : Int) else a)
/-- The place of the last lock. -/
def lpF (list : List St) (who : Int) : Int := lpL who list 0 (-1)
theorem lpL_app (who : Int) : ∀ (a b : List St) (k : Nat) (z : Int), lpL who (a ++ b) k z = lpL who b (k + a.length) (lpL who a k z)
  | [], b, k, z => rfl
  | s :: a, b, k, z => by rw [List.cons_append, lpL, lpL, lpL_app who a b (k + 1), show k + 1 + a.length = k + (s :: a).length by simp; omega]
theorem lpF_snoc {list : List St} {k : Nat} {s : St} (hs : list[k]? = some s) (who : Int) : lpF (list.take (k + 1)) who = if Takes s who then (k : Int) else lpF (list.take k) who := by
  have hk := (List.getElem?_eq_some_iff.1 hs).1
  unfold lpF
  rw [show list.take (k + 1) = list.take k ++ [s] by rw [List.take_add_one, hs]; rfl, lpL_app]
  rw [show 0 + (list.take k).length = k by simp; omega]
  rfl
theorem lpF_all (list : List St) (who : Int) : lpF (list.take list.length) who = lpF list who := by rw [List.take_length]
theorem lpF_spec (list : List St) (who : Int) : ∀ k : Nat, k ≤ list.length → (lpF (list.take k) who = -1 ∧ ∀ (i : Nat) (s : St), i < k → list[i]? = some s → ¬ Takes s who) ∨
    ∃ (i : Nat) (s : St), lpF (list.take k) who = i ∧ i < k ∧ list[i]? = some s ∧ Takes s who ∧ ∀ (j : Nat) (y : St), i < j → j < k → list[j]? = some y → ¬ Takes y who := by
  intro k
  induction k with
  | zero => exact fun _ => .inl ⟨rfl, fun i s h => by omega⟩
  | succ k ih =>
    intro hk
    have hs : list[k]? = some list[k] := List.getElem?_eq_getElem (by omega)
    generalize list[k] = s at hs
    rw [lpF_snoc hs]
    by_cases ht : Takes s who
    · rw [if_pos ht]
      exact .inr ⟨k, s, rfl, by omega, hs, ht, fun j y h1 h2 => by omega⟩
    · rw [if_neg ht]
      rcases ih (by omega) with ⟨h1, h2⟩ | ⟨i, x, h1, h2, h3, h4, h5⟩
      · refine .inl ⟨h1, fun i y hi hy => ?_⟩
        by_cases e : i = k
        · subst e; rw [hs] at hy; injection hy with hy; subst hy; exact ht
        · exact h2 i y (by omega) hy
      · refine .inr ⟨i, x, h1, by omega, h3, h4, fun j y hj hjk hy => ?_⟩
        by_cases e : j = k
        · subst e; rw [hs] at hy; injection hy with hy; subst hy; exact ht
        · exact h5 j y hj (by omega) hy
theorem lpF_cases (list : List St) (who : Int) : (lpF list who = -1 ∧ ∀ (i : Nat) (s : St), list[i]? = some s → ¬ Takes s who) ∨
    ∃ (i : Nat) (s : St), lpF list who = i ∧ list[i]? = some s ∧ Takes s who ∧ ∀ (j : Nat) (y : St), i < j → list[j]? = some y → ¬ Takes y who := by
  have := lpF_spec list who list.length (Nat.le_refl _)
  rw [lpF_all] at this
  rcases this with ⟨h1, h2⟩ | ⟨i, s, h1, h2, h3, h4, h5⟩
  · exact .inl ⟨h1, fun i s hs => h2 i s (List.getElem?_eq_some_iff.1 hs).1 hs⟩
  · exact .inr ⟨i, s, h1, h3, h4, fun j y hj hy => h5 j y hj (List.getElem?_eq_some_iff.1 hy).1 hy⟩
theorem lpF_step {list : List St} {k : Nat} {s : St} (hs : list[k]? = some s) {who : Int} (h : lpF list who = lpF (list.take (k + 1)) who) (ht : ¬ Takes s who) : lpF list who = lpF (list.take k) who := by
  rw [h, lpF_snoc hs, if_neg ht]
theorem lpF_hit {list : List St} {k : Nat} {s : St} (hs : list[k]? = some s) {who : Int} (h : lpF list who = lpF (list.take (k + 1)) who) (ht : Takes s who) : lpF list who = k := by
  rw [h, lpF_snoc hs, if_pos ht]
theorem lpF_ge (list : List St) (who : Int) : -1 ≤ lpF list who ∧ lpF list who < list.length := by
  rcases lpF_cases list who with ⟨h, _⟩ | ⟨i, s, h, hs, _⟩
  · rw [h]; omega
  · have := (List.getElem?_eq_some_iff.1 hs).1
    rw [h]; omega
/-- The transactions by their last locks. -/
def lpoF (list : List St) : List Int := pickL (fun i s => !s.free && decide (lpF list s.who = i)) St.who list 0
theorem lpo_bit {list : List St} {k : Nat} {s : St} (hs : list[k]? = some s) : decide (lpF list s.who = (k : Int)) = (!s.free && decide (lpF list s.who = k)) := by
  cases hf : s.free with
  | false => rfl
  | true =>
    simp
    intro e
    rcases lpF_cases list s.who with ⟨h, _⟩ | ⟨i, x, h, hx, ht, _⟩
    · rw [h] at e; omega
    · rw [h] at e
      obtain rfl : i = k := by omega
      rw [hs] at hx; injection hx with hx; subst hx
      exact absurd ht.2 (by rw [hf]; simp)
theorem lpo_len (list : List St) : (lpoF list).length ≤ list.length := pick_len list 0
/-- Accesses of steps that take locks. -/
def acF (list : List St) : List Ac := pickL (fun _ s => !s.free) (fun s => ⟨s.who, s.node, decide (s.mode = 5)⟩) list 0
theorem acF_len (list : List St) : (acF list).length ≤ list.length := pick_len list 0
/-- No lock is taken after one is freed. -/
def TP (list : List St) (who : Int) : Prop := ∀ (i j : Nat) (x y : St), i < j → list[i]? = some x → list[j]? = some y → x.who = who → x.free = true → ¬ Takes y who
end Go.Proofs.YtcefgabdffipgaaDoor
