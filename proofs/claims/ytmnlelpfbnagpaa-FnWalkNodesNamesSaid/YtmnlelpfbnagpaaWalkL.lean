/- What the laws on walks say, in plain words. -/
import Derived.Test.YtmnlelpfbnagpaaWalkP
import Derived.Test.YtmnlelpfbnagpaaPlaceP
namespace Go.Proofs.Ytmnlelpfbnagpaa
open Go.RowKit

theorem plF_cut {l u v : List Int} {x : Int} (h : l.Nodup) (e : l = u ++ x :: v) : plF l x = u.length ∧ ∀ y ∈ v, (u.length : Int) < plF l y := by
  have key : ∀ (u v : List Int) (x : Int), l = u ++ x :: v → plF l x = u.length := fun u v x e => by
    refine plF_hit (by rw [e, List.getElem?_append_right (Nat.le_refl _), Nat.sub_self]; rfl) fun j y hj hy hc => ?_
    subst hc
    have hx : l[u.length]? = some y := by rw [e, List.getElem?_append_right (Nat.le_refl _), Nat.sub_self]; rfl
    have := (List.getElem?_inj (List.getElem?_eq_some_iff.1 hy).1 h).1 (hy.trans hx.symm)
    omega
  refine ⟨key u v x e, fun y hy => ?_⟩
  obtain ⟨v1, v2, rfl⟩ := List.append_of_mem hy
  rw [key (u ++ x :: v1) v2 y (by rw [e]; simp), List.length_append, List.length_cons]
  omega
/-- Who stands at a place is found there. -/
theorem plF_nd {l : List Int} {k : Nat} {x : Int} (h : l.Nodup) (hx : l[k]? = some x) : plF l x = k := by
  refine plF_hit hx fun j y hj hy hc => ?_
  subst hc
  have := (List.getElem?_inj (List.getElem?_eq_some_iff.1 hy).1 h).1 (hy.trans hx.symm)
  omega
theorem len_split {α : Type} (f : α → Bool) : ∀ l : List α, (l.filter fun x => !f x).length + (l.filter f).length = l.length
  | [] => rfl
  | x :: r => by
    have ih := len_split f r
    cases h : f x <;> simp [h] <;> omega
section
variable {t : List Nd}
/-- Walks go down. -/
theorem wk_down (h : VT t) {i : Nat} {x : Nd} (hx : t[i]? = some x) (hi : 0 < i) : plF (wkI t 0) x.par < plF (wkI t 0) i := by
  have hl := (List.getElem?_eq_some_iff.1 hx).1
  have hp := h.parp hx hi
  have h1 := h.1
  have hnd := wk_nd h (a := 0) (by omega) (by omega)
  obtain ⟨p, hpe⟩ := Int.eq_ofNat_of_zero_le hp.1
  have hpl : p < t.length := by omega
  have hpm : x.par ∈ wkI t 0 := (wk_mem h (by omega) (by omega)).2 ⟨p, hpe, hpl, upI_zero h p hpl⟩
  obtain ⟨l1, l2, e⟩ := wk_part h t.length 0 (by omega) (by omega) (by omega) _ hpm
  rw [wkI_step h hp.1 (by omega), List.cons_append] at e
  have hk : (i : Int) ∈ kidsF t x.par := kidsF_mem.2 ⟨i, x, rfl, hx, rfl⟩
  have him : (i : Int) ∈ (srtF t x.par).flatMap (wkI t) ++ l2 := List.mem_append_left _ (List.mem_flatMap.2 ⟨i, srtF_mem.2 hk, (wk_mem h (by omega) (by omega)).2 ⟨i, rfl, hl, upI_self h.desc hl⟩⟩)
  have hc := plF_cut hnd e
  rw [hc.1]
  exact hc.2 _ him
/-- Walks go by names. -/
theorem wk_names (h : VT t) {i k : Nat} {x y : Nd} (hx : t[i]? = some x) (hy : t[k]? = some y) (hi : 0 < i) (hk : 0 < k) (hp : x.par = y.par) (hn : nlt t i k = true) : plF (wkI t 0) i < plF (wkI t 0) k := by
  have hl := (List.getElem?_eq_some_iff.1 hx).1
  have hlk := (List.getElem?_eq_some_iff.1 hy).1
  have hpp := h.parp hx hi
  have h1 := h.1
  have hnd := wk_nd h (a := 0) (by omega) (by omega)
  obtain ⟨p, hpe⟩ := Int.eq_ofNat_of_zero_le hpp.1
  have hpl : p < t.length := by omega
  have hpm : x.par ∈ wkI t 0 := (wk_mem h (by omega) (by omega)).2 ⟨p, hpe, hpl, upI_zero h p hpl⟩
  obtain ⟨l1, l2, e⟩ := wk_part h t.length 0 (by omega) (by omega) (by omega) _ hpm
  rw [wkI_step h hpp.1 (by omega), List.cons_append] at e
  have hki : (i : Int) ∈ srtF t x.par := srtF_mem.2 (kidsF_mem.2 ⟨i, x, rfl, hx, rfl⟩)
  have hkk : (k : Int) ∈ srtF t x.par := srtF_mem.2 (kidsF_mem.2 ⟨k, y, rfl, hy, hp.symm⟩)
  obtain ⟨s1, s2, es⟩ := List.append_of_mem hki
  have hs := srtF_sorted t x.par
  rw [es] at hs hkk
  have hk2 : (k : Int) ∈ s2 := by
    rcases List.mem_append.1 hkk with hk1 | hk1
    · have := (List.pairwise_append.1 hs).2.2 _ hk1 _ (List.mem_cons_self ..)
      rw [hn] at this
      cases this
    · rcases List.mem_cons.1 hk1 with e | hk1
      · have : nlt t (i : Int) k = false := by rw [e]; exact nlt_irrefl
        rw [hn] at this
        cases this
      · exact hk1
  rw [es, List.flatMap_append, List.flatMap_cons, wkI_step h (a := (i : Int)) (by omega) (by omega)] at e
  have e2 : wkI t 0 = (l1 ++ x.par :: s1.flatMap (wkI t)) ++ (i : Int) :: (((srtF t i).flatMap (wkI t) ++ s2.flatMap (wkI t)) ++ l2) := by rw [e]; simp
  have hkm : (k : Int) ∈ ((srtF t i).flatMap (wkI t) ++ s2.flatMap (wkI t)) ++ l2 := List.mem_append_left _ (List.mem_append_right _ (List.mem_flatMap.2 ⟨k, hk2, (wk_mem h (by omega) (by omega)).2 ⟨k, rfl, hlk, upI_self h.desc hlk⟩⟩))
  have hc := plF_cut hnd e2
  rw [hc.1]
  exact hc.2 _ hkm
theorem wk_all (h : VT t) : (wkI t 0).length = t.length := by
  have h1 := h.1
  rw [wk_len h (by omega) (by omega), List.filter_eq_self.2, List.length_range]
  intro i hi
  exact decide_eq_true (upI_zero h i (List.mem_range.1 hi))
/-- Who is below and who is not are all. -/
theorem wk_split (h : VT t) {a : Int} (h0 : 0 ≤ a) (hl : a < t.length) : ((List.range t.length).filter fun (i : Nat) => !decide (a ∈ upI t i)).length + (wkI t a).length = t.length := by
  rw [wk_len h h0 hl, len_split, List.length_range]
end
end Go.Proofs.Ytmnlelpfbnagpaa
