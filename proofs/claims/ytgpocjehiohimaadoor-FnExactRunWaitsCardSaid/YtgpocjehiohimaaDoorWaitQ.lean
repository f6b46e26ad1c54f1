/- Waits, in plain words: who waits for whom, also by way of others. -/
import Derived.Test.YtgpocjehiohimaaDoorTabP
namespace Go.Proofs.YtgpocjehiohimaaDoor
open Go.RowKit

/-- A transaction waits for another one, also by way of others. -/
inductive Rch (l : List Wt) : Int → Int → Prop
  | one (x : Wt) : x ∈ l → Rch l x.who x.tgt
  | more (x : Wt) (a : Int) : x ∈ l → Rch l a x.who → Rch l a x.tgt
theorem Rch.first {l : List Wt} {a b : Int} (h : Rch l a b) : ∃ x ∈ l, x.who = a ∧ (x.tgt = b ∨ Rch l x.tgt b) := by
  induction h with
  | one x hx => exact ⟨x, hx, rfl, .inl rfl⟩
  | more x a hx _ ih =>
    obtain ⟨y, hy, h1, h2⟩ := ih
    refine ⟨y, hy, h1, .inr ?_⟩
    rcases h2 with h2 | h2
    · rw [h2]; exact .one x hx
    · exact .more x _ hx h2
theorem Rch.trans {l : List Wt} {a b c : Int} (h : Rch l a b) (h' : Rch l b c) : Rch l a c := by
  induction h' with
  | one x hx => exact .more x a hx h
  | more x _ hx _ ih => exact .more x a hx (ih h)
theorem ex_sink {R : Int → Int → Prop} (ht : ∀ a b c, R a b → R b c → R a c) (hi : ∀ a, ¬ R a a) : ∀ L : List Int, L ≠ [] → ∃ s ∈ L, ∀ p ∈ L, ¬ R s p
  | [], h => absurd rfl h
  | [x], _ => ⟨x, List.mem_cons_self .., fun p hp => by simp at hp; rw [hp]; exact hi x⟩
  | x :: y :: r, _ => by
    classical
    obtain ⟨s, hs, hm⟩ := ex_sink ht hi (y :: r) (by simp)
    by_cases hc : R s x
    · refine ⟨x, List.mem_cons_self .., fun p hp hxp => ?_⟩
      rcases List.mem_cons.1 hp with rfl | hp
      · exact hi _ hxp
      · exact hm p hp (ht _ _ _ hc hxp)
    · exact ⟨s, List.mem_cons_of_mem _ hs, fun p hp => (List.mem_cons.1 hp).elim (fun e => e ▸ hc) (hm p)⟩
/-- Waits that are valid. -/
def VW (l : List Wt) : Prop := l.length ≤ 12 ∧ ∀ x ∈ l, (0 ≤ x.who ∧ x.who ≤ 3) ∧ (0 ≤ x.tgt ∧ x.tgt ≤ 3) ∧ x.who ≠ x.tgt
theorem mark_len3 {f : Int → Bool} {k : Int} (h0 : 0 ≤ k) (h3 : k ≤ 3) (h : f k = false) : (markL f).length ≤ 3 := by
  unfold markL
  have h1 : (([0, 1, 2, 3] : List Int).filter f).length < ([0, 1, 2, 3] : List Int).length := by
    rw [List.length_filter_lt_length_iff_exists]
    exact ⟨k, by simp; omega, by rw [h]; simp⟩
  simp only [List.length_cons, List.length_nil] at h1
  omega
theorem lbF_len3 {l : List Lk} {who node mode : Int} (h : 0 ≤ who ∧ who ≤ 3) : (lbF l who node mode).length ≤ 3 := by
  unfold lbF
  split
  · exact mark_len3 h.1 h.2 (by simp)
  · simp
theorem lbF_mem {l : List Lk} {who node mode t : Int} (h : t ∈ lbF l who node mode) : (0 ≤ t ∧ t ≤ 3) ∧ who ≠ t := by
  unfold lbF at h
  split at h
  · have := blkF_mem h
    exact ⟨⟨this.1, this.2.1⟩, fun e => this.2.2.1 e.symm⟩
  · cases h
end Go.Proofs.YtgpocjehiohimaaDoor
