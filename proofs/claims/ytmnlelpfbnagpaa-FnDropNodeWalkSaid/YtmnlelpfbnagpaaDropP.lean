/- Trees without a node and all below it, in plain words. -/
import Derived.Test.YtmnlelpfbnagpaaPathE
import Derived.Test.YtmnlelpfbnagpaaWalkL
namespace Go.Proofs.Ytmnlelpfbnagpaa
open Go.RowKit

/-- Whether a node stays. -/
def stay (t : List Nd) (a : Int) (i : Nat) : Bool := !decide (a ∈ upI t i)
/-- How many of the first k stay. -/
def cnt (t : List Nd) (a : Int) : Nat → Nat
  | 0 => 0
  | k + 1 => cnt t a k + if stay t a k then 1 else 0
/-- A node that stays, with the new number of its Parent. -/
def rn (t : List Nd) (a : Int) (k : Nat) (x : Nd) : Nd := if k = 0 then x else ⟨(cnt t a x.par.toNat : Int), x.name, x.val⟩
def drK (t : List Nd) (a : Int) : Nat → List Nd
  | 0 => []
  | k + 1 => drK t a k ++ (match t[k]? with | some x => (if stay t a k then [rn t a k x] else []) | none => [])
/-- The tree without the node a and all below it. -/
def drF (t : List Nd) (a : Int) : List Nd := drK t a t.length
section
variable {t : List Nd} {a : Int}
theorem drK_y {k : Nat} {x : Nd} (hx : t[k]? = some x) (hs : stay t a k = true) : drK t a (k + 1) = drK t a k ++ [rn t a k x] := by rw [drK, hx]; simp [hs]
theorem drK_n {k : Nat} (hs : stay t a k = false) : drK t a (k + 1) = drK t a k := by rw [drK]; split <;> simp [hs]
theorem cnt_y {k : Nat} (hs : stay t a k = true) : cnt t a (k + 1) = cnt t a k + 1 := by rw [cnt]; simp [hs]
theorem cnt_n {k : Nat} (hs : stay t a k = false) : cnt t a (k + 1) = cnt t a k := by rw [cnt]; simp [hs]
theorem cnt_le : ∀ k : Nat, cnt t a k ≤ k
  | 0 => Nat.le_refl _
  | k + 1 => by
    have := cnt_le k
    rw [cnt]; split <;> omega
theorem cnt_mono {i k : Nat} (h : i ≤ k) : cnt t a i ≤ cnt t a k := by
  induction k with
  | zero => have : i = 0 := by omega
            subst this; exact Nat.le_refl _
  | succ k ih =>
    by_cases e : i = k + 1
    · subst e; exact Nat.le_refl _
    · have := ih (by omega)
      rw [cnt]; omega
theorem cnt_lt {i k : Nat} (hs : stay t a i = true) (h : i < k) : cnt t a i < cnt t a k := by
  have := cnt_mono (t := t) (a := a) (show i + 1 ≤ k from h)
  rw [cnt_y hs] at this
  omega
theorem cnt_inj {i k : Nat} (hi : stay t a i = true) (hk : stay t a k = true) (e : cnt t a i = cnt t a k) : i = k := by
  rcases Nat.lt_trichotomy i k with h | h | h
  · have := cnt_lt hi h; omega
  · exact h
  · have := cnt_lt hk h; omega
theorem drK_len : ∀ k : Nat, k ≤ t.length → (drK t a k).length = cnt t a k
  | 0, _ => rfl
  | k + 1, h => by
    have ih := drK_len k (by omega)
    cases hs : stay t a k with
    | true => rw [drK_y (List.getElem?_eq_getElem (by omega)) hs, cnt_y hs, List.length_append, ih]; rfl
    | false => rw [drK_n hs, cnt_n hs, ih]
theorem drF_len : (drF t a).length = cnt t a t.length := drK_len _ (Nat.le_refl _)
theorem drK_app {i : Nat} : ∀ k : Nat, i ≤ k → ∃ l, drK t a k = drK t a i ++ l
  | 0, h => by
    have : i = 0 := by omega
    subst this; exact ⟨[], by simp⟩
  | k + 1, h => by
    by_cases e : i = k + 1
    · subst e; exact ⟨[], by simp⟩
    · obtain ⟨l, hl⟩ := drK_app (i := i) k (by omega)
      rw [drK, hl]
      exact ⟨l ++ _, by rw [List.append_assoc]⟩
theorem drF_at {i : Nat} {x : Nd} (hx : t[i]? = some x) (hs : stay t a i = true) : (drF t a)[cnt t a i]? = some (rn t a i x) := by
  have hl := (List.getElem?_eq_some_iff.1 hx).1
  obtain ⟨l, e⟩ := drK_app (t := t) (a := a) (i := i + 1) t.length hl
  have hk := drK_len (t := t) (a := a) i (by omega)
  unfold drF
  rw [e, drK_y hx hs, List.append_assoc, List.getElem?_append_right (by omega), hk, Nat.sub_self]
  rfl
theorem cnt_inv : ∀ (k j : Nat), j < cnt t a k → ∃ i, i < k ∧ stay t a i = true ∧ cnt t a i = j
  | 0, j, h => by rw [cnt] at h; omega
  | k + 1, j, h => by
    by_cases hj : j < cnt t a k
    · obtain ⟨i, h1, h2, h3⟩ := cnt_inv k j hj
      exact ⟨i, by omega, h2, h3⟩
    · cases hs : stay t a k with
      | true => rw [cnt_y hs] at h; exact ⟨k, by omega, hs, by omega⟩
      | false => rw [cnt_n hs] at h; omega
theorem drF_inv {j : Nat} {y : Nd} (hy : (drF t a)[j]? = some y) : ∃ (i : Nat) (x : Nd), i < t.length ∧ t[i]? = some x ∧ stay t a i = true ∧ cnt t a i = j ∧ y = rn t a i x := by
  have hj := (List.getElem?_eq_some_iff.1 hy).1
  rw [drF_len] at hj
  obtain ⟨i, h1, h2, h3⟩ := cnt_inv _ _ hj
  have hx : t[i]? = some t[i] := List.getElem?_eq_getElem h1
  have := drF_at hx h2
  rw [h3, hy] at this
  injection this with this
  exact ⟨i, _, h1, hx, h2, h3, this⟩
theorem cnt_filter : ∀ k : Nat, cnt t a k = ((List.range k).filter fun (i : Nat) => !decide (a ∈ upI t i)).length
  | 0 => rfl
  | k + 1 => by
    rw [List.range_succ, List.filter_append, List.length_append, ← cnt_filter k, cnt]
    congr 1
    cases hs : stay t a k with
    | true => unfold stay at hs; rw [List.filter_cons, if_pos hs]; rfl
    | false =>
      unfold stay at hs
      have hn : ¬ (!decide (a ∈ upI t (k : Int))) = true := by rw [hs]; exact Bool.false_ne_true
      rw [List.filter_cons, if_neg hn]; rfl
/-- As many are gone as are below. -/
theorem dr_count (h : VT t) (h0 : 0 ≤ a) (hl : a < t.length) : (drF t a).length + (wkI t a).length = t.length := by
  rw [drF_len, cnt_filter]
  exact wk_split h h0 hl
theorem stay_zero (h : VT t) (ha : 0 < a) : stay t a 0 = true := by
  unfold stay
  rw [Bool.not_eq_true']
  refine decide_eq_false fun hm => ?_
  have := upI_lt h.desc (n := ((0 : Nat) : Int)) (by have := h.1; omega) hm
  omega
theorem stay_par (h : VT t) {k : Nat} {x : Nd} (hx : t[k]? = some x) (hk : 0 < k) (hs : stay t a k = true) : stay t a x.par.toNat = true := by
  unfold stay at hs ⊢
  rw [Bool.not_eq_true'] at hs ⊢
  have hs := of_decide_eq_false hs
  refine decide_eq_false fun hm => hs ?_
  rw [upI_step h.desc hx]
  have hp := h.parp hx hk
  rw [show ((x.par.toNat : Nat) : Int) = x.par by omega] at hm
  exact List.mem_cons_of_mem _ hm
theorem rn_pos {k : Nat} {x : Nd} (hk : 0 < k) : rn t a k x = ⟨(cnt t a x.par.toNat : Int), x.name, x.val⟩ := by unfold rn; rw [if_neg (by omega)]
theorem rn_zero {x : Nd} : rn t a 0 x = x := by unfold rn; rw [if_pos rfl]
theorem cnt_par (h : VT t) {k : Nat} {x : Nd} (hx : t[k]? = some x) (hk : 0 < k) (hs : stay t a k = true) : cnt t a x.par.toNat < cnt t a k := by
  have hp := h.parp hx hk
  exact cnt_lt (stay_par h hx hk hs) (by omega)
theorem dr_desc (h : VT t) : Desc (drF t a) (drF t a).length := by
  intro j y hj hy
  obtain ⟨i, x, hi, hx, hs, rfl, rfl⟩ := drF_inv hy
  rcases Nat.eq_zero_or_pos i with e | hp
  · subst e
    rw [rn_zero, h.par0 hx]; omega
  · rw [rn_pos hp]
    have := cnt_par h hx hp hs
    show ((cnt t a x.par.toNat : Nat) : Int) < _
    omega
theorem dr_dep (h : VT t) : ∀ i : Nat, i < t.length → stay t a i = true → dep (drF t a) (cnt t a i) = dep t i := by
  intro i
  induction i using Nat.strongRecOn with
  | _ i ih =>
    intro hi hs
    have hx : t[i]? = some t[i] := List.getElem?_eq_getElem hi
    generalize t[i] = x at hx
    have hy := drF_at hx hs
    rcases Nat.eq_zero_or_pos i with e | hp
    · subst e
      rw [rn_zero] at hy
      rw [dep_top hx (by have := h.par0 hx; omega), dep_top hy (by have := h.par0 hx; omega)]
    · have hpp := h.parp hx hp
      rw [rn_pos hp] at hy
      have h1 := dep_step (dr_desc (a := a) h) (List.getElem?_eq_some_iff.1 hy).1 hy (by show (0 : Int) ≤ ((cnt t a x.par.toNat : Nat) : Int); omega)
      rw [h1, dep_step h.desc hi hx hpp.1]
      show dep (drF t a) (((cnt t a x.par.toNat : Nat) : Int)).toNat + 1 = _
      rw [Int.toNat_natCast, ih x.par.toNat (by omega) (by omega) (stay_par h hx hp hs)]
/-- What is left is a tree. -/
theorem dr_VT (h : VT t) (ha : 0 < a) : VT (drF t a) := by
  have hz := stay_zero h ha
  have h1 := h.1
  have h12 := h.2.1
  refine ⟨?_, ?_, ?_⟩
  · rw [drF_len]
    have := cnt_lt (k := t.length) hz h1
    omega
  · rw [drF_len]
    have := cnt_le (t := t) (a := a) t.length
    omega
  · intro j y hj hy
    obtain ⟨i, x, hi, hx, hs, rfl, rfl⟩ := drF_inv hy
    have ho := h.2.2 i x hi hx
    rcases Nat.eq_zero_or_pos i with e | hp
    · subst e
      rw [rn_zero]
      exact ⟨ho.1, ho.2.1, fun _ => ho.2.2.1 rfl, fun hc => by rw [cnt] at hc; omega⟩
    · rw [rn_pos hp]
      have ho2 := ho.2.2.2 hp
      have hlt := cnt_par h hx hp hs
      have hpp := h.parp hx hp
      refine ⟨ho.1, ho.2.1, fun hc => by have := cnt_lt hz hp; rw [cnt] at this; omega, fun _ => ⟨by show (0 : Int) ≤ ((cnt t a x.par.toNat : Nat) : Int); omega, by show ((cnt t a x.par.toNat : Nat) : Int) ≤ _; omega, ho2.2.2.1, ?_, ?_⟩⟩
      · show kidF ((drF t a).take (cnt t a i)) ((cnt t a x.par.toNat : Nat) : Int) x.name 0 < 0
        rcases kidF_spec ((cnt t a x.par.toNat : Nat) : Int) x.name ((drF t a).take (cnt t a i)) 0 with ⟨g, _⟩ | ⟨j', y', g1, g2, g3, _⟩
        · rw [g]; omega
        · exfalso
          rw [List.getElem?_take] at g2
          split at g2
          case isFalse => cases g2
          case isTrue hj' =>
            obtain ⟨i', x', hi', hx', hs', rfl, rfl⟩ := drF_inv g2
            rcases Nat.eq_zero_or_pos i' with e | hp'
            · subst e
              rw [rn_zero] at g3
              have := h.par0 hx'
              have := g3.1
              omega
            · rw [rn_pos hp'] at g3
              have e1 : ((cnt t a x'.par.toNat : Nat) : Int) = ((cnt t a x.par.toNat : Nat) : Int) := g3.1
              have e2 := cnt_inj (stay_par h hx' hp' hs') (stay_par h hx hp hs) (by omega)
              have hpp' := h.parp hx' hp'
              have e3 : x'.par = x.par := by omega
              have hii : i' < i := Classical.byContradiction fun hc => by
                have := cnt_mono (t := t) (a := a) (show i ≤ i' by omega)
                omega
              have hn := ho2.2.2.2.1
              rcases kidF_spec x.par x.name (t.take i) 0 with ⟨_, k2⟩ | ⟨_, _, k1, _⟩
              · exact k2 x' (List.mem_of_getElem? (i := i') (by rw [List.getElem?_take, if_pos hii]; exact hx')) ⟨e3, g3.2⟩
              · rw [k1] at hn; omega
      · rw [dr_dep h i hi hs]; exact ho2.2.2.2.2
theorem dr_emb (h : VT t) (ha : 0 < a) : Emb t (drF t a) (fun k => stay t a k = true) (cnt t a) := by
  refine ⟨rfl, fun k x hK hk hx => ⟨stay_par h hx hk hK, ?_, rn t a k x, drF_at hx hK, by rw [rn_pos hk], by rw [rn_pos hk]⟩⟩
  have := cnt_lt (stay_zero h ha) hk
  omega
/-- Paths of what is gone lead nowhere. -/
theorem dr_gone (h : VT t) (ha : 0 < a) (hl : a < t.length) {z : Int} (hz : z ∈ wkI t a) : rsF (drF t a) (ptF t z) = -1 := by
  obtain ⟨i, rfl, hi, hu⟩ := (wk_mem h (by omega) hl).1 hz
  have h2 := dr_VT h ha
  rcases rsF_cases h2 (ptF t i) with h1 | ⟨j, _, hj, h4, _⟩
  · exact h1.1
  · exfalso
    obtain ⟨k, x, hk, hx, hs, rfl, _⟩ := drF_inv (List.getElem?_eq_getElem hj)
    have e1 := ptF_emb h h2 (dr_emb h ha) k hs hk hj
    rw [ptF_yes (t := drF t a) ⟨h2, by omega, by omega⟩, h4] at e1
    have e2 := rsF_ptF0 h hi
    rw [e1, rsF_ptF0 h hk] at e2
    have e3 : k = i := by omega
    subst e3
    unfold stay at hs
    rw [Bool.not_eq_true'] at hs
    exact of_decide_eq_false hs hu
end
end Go.Proofs.Ytmnlelpfbnagpaa
