/- The order of last locks, in plain words. -/
import Derived.Test.YtddpdcnbdbnljaaDoorStepL
namespace Go.Proofs.YtddpdcnbdbnljaaDoor
open Go.RowKit

theorem pick_pair {α β : Type} {p : Nat → α → Bool} {f : α → β} {g : β → Int} (h : ∀ i x, p i x = true → g (f x) = i) : ∀ (l : List α) (k : Nat), (pickL p f l k).Pairwise (fun a b => g a < g b) ∧ ∀ y ∈ pickL p f l k, (k : Int) ≤ g y
  | [], k => ⟨List.Pairwise.nil, fun y hy => by cases hy⟩
  | x :: r, k => by
    obtain ⟨h1, h2⟩ := pick_pair h r (k + 1)
    rw [pickL]
    by_cases hp : p k x = true
    · rw [if_pos hp]
      have hg := h k x hp
      refine ⟨List.pairwise_cons.2 ⟨fun y hy => ?_, h1⟩, fun y hy => ?_⟩
      · have := h2 y hy; omega
      · rcases List.mem_cons.1 hy with e | hy
        · rw [e, hg]; exact Int.le_refl _
        · have := h2 y hy; omega
    · rw [if_neg hp]
      exact ⟨h1, fun y hy => by have := h2 y hy; omega⟩
theorem pick_filter {α β : Type} {p p' : Nat → α → Bool} {f : α → β} {q : β → Bool} : ∀ (l : List α) (k : Nat), (∀ i x, l[i]? = some x → p' (k + i) x = (p (k + i) x && q (f x))) → pickL p' f l k = (pickL p f l k).filter q
  | [], _, _ => rfl
  | x :: r, k, h => by
    have h0 := h 0 x rfl
    rw [Nat.add_zero] at h0
    have ih := pick_filter (p := p) (p' := p') (f := f) (q := q) r (k + 1) fun i y hy => by rw [show k + 1 + i = k + (i + 1) by omega]; exact h (i + 1) y hy
    rw [pickL, pickL, h0, ih]
    cases hp : p k x <;> cases hq : q (f x) <;> simp [hq]
theorem lpo_p {list : List St} : ∀ (i : Nat) (s : St), (!s.free && decide (lpF list s.who = (i : Int))) = true → lpF list s.who = i := by
  intro i s h
  simp only [Bool.and_eq_true, decide_eq_true_eq] at h
  exact h.2
theorem lpo_pair (list : List St) : (lpoF list).Pairwise (fun a b => lpF list a < lpF list b) := (pick_pair (g := lpF list) (fun i s h => lpo_p i s h) list 0).1
theorem lpo_mem {list : List St} {t : Int} : t ∈ lpoF list ↔ 0 ≤ lpF list t := by
  unfold lpoF
  rw [pick_mem]
  constructor
  · rintro ⟨i, s, _, hp, rfl⟩
    rw [lpo_p (0 + i) s hp]; omega
  · intro h
    rcases lpF_cases list t with ⟨e, _⟩ | ⟨i, s, e, hs, ht, _⟩
    · omega
    · refine ⟨i, s, hs, ?_, ht.1⟩
      simp only [Bool.and_eq_true, decide_eq_true_eq, ht.2]
      exact ⟨rfl, by rw [ht.1, e]; simp⟩
theorem lpo_snoc (init : List St) (s : St) : lpoF (init ++ [s]) = if s.free = true then lpoF init else (lpoF init).filter (fun t => decide (t ≠ s.who)) ++ [s.who] := by
  have hsn : ∀ who, lpF (init ++ [s]) who = if Takes s who then (init.length : Int) else lpF init who := fun who => by
    have := lpF_snoc (list := init ++ [s]) (k := init.length) (s := s) (by simp) who
    rw [show (init ++ [s]).take (init.length + 1) = init ++ [s] by rw [List.take_of_length_le (by simp)], List.take_left] at this
    exact this
  have hlt : ∀ who, lpF init who < init.length := fun who => (lpF_ge init who).2
  unfold lpoF
  rw [pick_app]
  cases hf : s.free with
  | true =>
    rw [if_pos rfl]
    have h2 : pickL (fun i (s_1 : St) => !s_1.free && decide (lpF (init ++ [s]) s_1.who = (i : Int))) St.who [s] (0 + init.length) = [] := by
      rw [pickL, if_neg (by simp [hf])]; rfl
    rw [h2, List.append_nil]
    refine pick_congr init 0 fun i x _ => ?_
    rw [hsn, if_neg (fun h => by have := h.2; rw [hf] at this; cases this)]
  | false =>
    rw [if_neg (by simp)]
    congr 1
    · refine pick_filter (q := fun t => decide (t ≠ s.who)) init 0 fun i x hx => ?_
      rw [hsn]
      by_cases e : s.who = x.who
      · rw [if_pos ⟨e, hf⟩, e]
        have hi := (List.getElem?_eq_some_iff.1 hx).1
        simp
        omega
      · rw [if_neg (fun h => e h.1)]
        have : x.who ≠ s.who := fun h => e h.symm
        simp [this]
    · rw [pickL, if_pos]
      · rfl
      · rw [hsn, if_pos ⟨rfl, hf⟩]; simp [hf]
end Go.Proofs.YtddpdcnbdbnljaaDoor
