/- The text of a path, piece by piece, in plain words. -/
import Derived.Test.YtmnlelpfbnagpaaPathP
import Derived.Lib.Strings
namespace Go.Proofs.Ytmnlelpfbnagpaa
open Go.RowKit

def pfx (t : List Nd) (a : Int) (k : Nat) : List UInt8 := (((pathL t a).drop 1).take k).flatMap fun n => 47 :: nmL t n
theorem pfx_zero (t : List Nd) (a : Int) : pfx t a 0 = [] := rfl
theorem pfx_all {t : List Nd} {a : Int} {k : Nat} (h : (pathL t a).length ≤ k + 1) : pfx t a k = txL t a := by
  unfold pfx txL
  rw [List.take_of_length_le (by rw [List.length_drop]; omega)]
theorem path_at {t : List Nd} {a : Int} (h : IsNd t a) {k : Nat} {z : Int} (hz : (pathL t a)[k + 1]? = some z) : ∃ (j : Nat) (x : Nd), z = (j : Int) ∧ 0 < j ∧ t[j]? = some x ∧ x.name.size ≤ 4 ∧ pfx t a (k + 1) = pfx t a k ++ 47 :: x.name.data.toList := by
  have hm : z ∈ upI t a := by
    have := List.mem_of_getElem? hz
    unfold pathL at this
    simpa using this
  have hlt := upI_lt h.1.desc h.2.2 hm
  have hp : (pathL t a).Pairwise (· < ·) := by
    unfold pathL
    rw [List.pairwise_reverse]
    exact upI_desc h.1.desc h.2.2
  have hl1 := (List.getElem?_eq_some_iff.1 hz)
  obtain ⟨hl1, hl2⟩ := hl1
  have h0 : (pathL t a)[0] < (pathL t a)[k + 1] := (List.pairwise_iff_getElem.1 hp) 0 (k + 1) (by omega) hl1 (by omega)
  have h00 : 0 ≤ (pathL t a)[0] := by
    have : (pathL t a)[0] ∈ upI t a := by
      rw [← List.mem_reverse]
      exact List.getElem_mem (l := pathL t a) (n := 0) (by omega)
    exact (upI_lt h.1.desc h.2.2 this).1
  have hj := h.2.2
  obtain ⟨j, rfl⟩ := Int.eq_ofNat_of_zero_le hlt.1
  have hlj : j < t.length := by omega
  have hx : t[j]? = some t[j] := List.getElem?_eq_getElem hlj
  have hj0 : 0 < j := by omega
  have hok := ((h.1.2.2 j t[j] hlj hx).2.2.2 hj0).2.2.1
  refine ⟨j, t[j], rfl, hj0, hx, ?_, ?_⟩
  · simp only [nmOk, Bool.and_eq_true, decide_eq_true_eq] at hok
    omega
  · have hd : ((pathL t a).drop 1)[k]? = some (j : Int) := by rw [List.getElem?_drop, Nat.add_comm]; exact hz
    unfold pfx
    rw [List.take_add_one, hd, Option.toList_some, List.flatMap_append]
    congr 1
    have : nmL t (j : Int) = t[j].name.toList := by unfold nmL; rw [show ((j : Int)).toNat = j by omega, hx]
    simp [this, Lib.toList_data]
theorem path_two {t : List Nd} {a : Int} (h : IsNd t a) : ((pathL t a).length = 1 ∧ a = 0) ∨ (2 ≤ (pathL t a).length ∧ 0 < a) := by
  by_cases h0 : a = 0
  · subst h0; rw [pathL_top h.1]; exact .inl ⟨rfl, rfl⟩
  · obtain ⟨h1, h2, h3⟩ := h
    obtain ⟨k, rfl⟩ := Int.eq_ofNat_of_zero_le h2
    have hlk : k < t.length := by omega
    have hx : t[k]? = some t[k] := List.getElem?_eq_getElem hlk
    have hp := h1.parp hx (by omega)
    rw [pathL_step h1 hx, List.length_append]
    have := (IsNd.path_len (t := t) (a := t[k].par) ⟨h1, hp.1, by omega⟩).2
    exact .inr ⟨by rw [List.length_singleton]; omega, by omega⟩
theorem pfx_len {t : List Nd} {a : Int} (h : IsNd t a) : ∀ k : Nat, (pfx t a k).length ≤ 5 * k
  | 0 => by rw [pfx_zero]; simp
  | k + 1 => by
    have ih := pfx_len h k
    cases hz : (pathL t a)[k + 1]? with
    | some z =>
      obtain ⟨_, x, _, _, _, hs, e⟩ := path_at h hz
      rw [e, List.length_append, List.length_cons, ← Lib.size_eq]
      omega
    | none =>
      have h1 := List.getElem?_eq_none_iff.1 hz
      rw [pfx_all (by omega), ← pfx_all (k := k) (by omega)]
      omega
theorem ptL_len {t : List Nd} {a : Int} (h : IsNd t a) : (ptL t a).length ≤ 25 := by
  unfold ptL
  split
  · simp
  · rw [← pfx_all (k := 5) (by have := h.path_len; omega)]
    exact pfx_len h 5
open Classical in
/-- The text of a node; empty where there is none. -/
noncomputable def ptF (t : List Nd) (a : Int) : List UInt8 := if IsNd t a then ptL t a else []
theorem ptF_yes {t : List Nd} {a : Int} (h : IsNd t a) : ptF t a = ptL t a := by unfold ptF; rw [if_pos h]
theorem ptF_no {t : List Nd} {a : Int} (h : ¬ IsNd t a) : ptF t a = [] := by unfold ptF; rw [if_neg h]
end Go.Proofs.Ytmnlelpfbnagpaa
