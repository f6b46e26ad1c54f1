/- What the laws on locks along a tree say, in plain words. -/
import Derived.Test.YtcefgabdffipgaaDoorSerialP
namespace Go.Proofs.YtcefgabdffipgaaDoor
open Go.RowKit

theorem alI_cases (t : List Nd) (list : List St) (who : Int) : alI t list who = -1 ∨ (VT t ∧ VS list ∧ ∃ i : Nat, alI t list who = i ∧ alF t list who = i ∧ i < list.length ∧ fltB t list who i = true ∧ ∀ j, j < i → fltB t list who j = false) := by
  by_cases h : VT t ∧ VS list
  · rcases alF_cases t list who with ⟨h1, _⟩ | ⟨i, h1, h2, h3, h4⟩
    · exact .inl (by rw [alI_yes h.1 h.2, h1])
    · exact .inr ⟨h.1, h.2, i, by rw [alI_yes h.1 h.2, h1], h1, h2, h3, h4⟩
  · exact .inl (alI_no h)
theorem alF_clean {t : List Nd} {list : List St} {who : Int} (h : alF t list who = -1) : ∀ i, i < list.length → fltB t list who i = false := by
  rcases alF_cases t list who with ⟨_, h2⟩ | ⟨i, h1, _⟩
  · exact h2
  · rw [h] at h1; omega
/-- A step that takes and is no fault. -/
theorem clean_at {t : List Nd} {list : List St} {who : Int} {i : Nat} {s : St} {m : List Lk} (hf : fltB t list who i = false) (hs : list[i]? = some s) (hm : stepsF (list.take i) [] = some m) (ht : Takes s who) : s.mode = 5 ∧ Goes t m (hadF (list.take i) who) who s.node :=
  Classical.byContradiction fun hc => by
    have := (fltB_at hs hm).2 ⟨ht, hc⟩
    rw [hf] at this; cases this
theorem clean_w {t : List Nd} {list : List St} {who : Int} (hv : VS list) (h : alF t list who = -1) : ∀ s ∈ list, Takes s who → s.mode = 5 := by
  intro s hs ht
  obtain ⟨i, hi⟩ := List.mem_iff_getElem?.1 hs
  obtain ⟨m, hm, _⟩ := hv.tab i
  exact (clean_at (alF_clean h i (List.getElem?_eq_some_iff.1 hi).1) hi hm ht).1
/-- The first lock of a transaction. -/
theorem flt_first {t : List Nd} {list : List St} {who : Int} {i : Nat} {s : St} (hv : VS list) (hf : fltB t list who i = true) (hs : list[i]? = some s) (h0 : ∀ (j : Nat) (y : St), j < i → list[j]? = some y → ¬ Takes y who) : s.mode ≠ 5 ∨ (t.length : Int) ≤ s.node := by
  obtain ⟨m, hm, _⟩ := hv.tab i
  have hg := ((fltB_at hs hm).1 hf).2
  have hnil : hadF (list.take i) who = [] := by
    cases e : hadF (list.take i) who with
    | nil => rfl
    | cons z r =>
      have : z ∈ hadF (list.take i) who := by rw [e]; exact List.mem_cons_self ..
      obtain ⟨j, hj, y, hy, ht, _⟩ := had_take_mem.1 this
      exact absurd ht (h0 j y hj hy)
  by_cases h5 : s.mode = 5
  · refine .inr (Int.not_lt.1 fun hlt => hg ⟨h5, ⟨(hv.at hs).2.1.1, hlt⟩, ?_, .inl hnil⟩)
    rw [hnil]; simp
  · exact .inl h5
open Classical in
/-- The nodes that can be locked next. -/
noncomputable def naF (t : List Nd) (m : List Lk) (had : List Int) (who : Int) : List Int := (List.range t.length).map (fun (k : Nat) => (k : Int)) |>.filter fun n => decide (Goes t m had who n ∧ blkF m who n 5 = [])
open Classical in
theorem naF_mem {t : List Nd} {m : List Lk} {had : List Int} {who n : Int} : n ∈ naF t m had who ↔ Goes t m had who n ∧ blkF m who n 5 = [] := by
  unfold naF
  rw [List.mem_filter, decide_eq_true_iff]
  constructor
  · exact fun h => h.2
  · intro h
    refine ⟨List.mem_map.2 ⟨n.toNat, List.mem_range.2 ?_, ?_⟩, h⟩ <;> have := h.1.1 <;> omega
theorem naF_len (t : List Nd) (m : List Lk) (had : List Int) (who : Int) : (naF t m had who).length ≤ t.length := by
  unfold naF
  refine Nat.le_trans (List.length_filter_le _ _) ?_
  simp
open Classical in
noncomputable def naT (t : List Nd) (m : List Lk) (had : List Int) (who : Int) (k : Nat) : List Int := (List.range k).map (fun (k : Nat) => (k : Int)) |>.filter fun n => decide (Goes t m had who n ∧ blkF m who n 5 = [])
theorem naT_all (t : List Nd) (m : List Lk) (had : List Int) (who : Int) : naT t m had who t.length = naF t m had who := rfl
theorem naT_zero (t : List Nd) (m : List Lk) (had : List Int) (who : Int) : naT t m had who 0 = [] := rfl
open Classical in
theorem naT_t {t : List Nd} {m : List Lk} {had : List Int} {who : Int} {k : Nat} (h : Goes t m had who k ∧ blkF m who k 5 = []) : naT t m had who (k + 1) = naT t m had who k ++ [(k : Int)] := by
  unfold naT
  rw [List.range_succ, List.map_append, List.filter_append]
  congr 1
  simp [h]
open Classical in
theorem naT_f {t : List Nd} {m : List Lk} {had : List Int} {who : Int} {k : Nat} (h : ¬ (Goes t m had who k ∧ blkF m who k 5 = [])) : naT t m had who (k + 1) = naT t m had who k := by
  unfold naT
  rw [List.range_succ, List.map_append, List.filter_append]
  conv => rhs; rw [← List.append_nil (List.filter _ _)]
  congr 1
  simp only [List.map_cons, List.map_nil, List.filter_cons, List.filter_nil]
  rw [if_neg]
  rw [decide_eq_true_iff]
  exact h
theorem naT_len (t : List Nd) (m : List Lk) (had : List Int) (who : Int) (k : Nat) : (naT t m had who k).length ≤ k := by
  unfold naT
  refine Nat.le_trans (List.length_filter_le _ _) ?_
  simp
/-- What is asked of NextAlong. -/
def NA (t : List Nd) (list : List St) (who : Int) : Prop := VT t ∧ VS list ∧ (0 ≤ who ∧ who ≤ 3) ∧ alF t list who = -1
/-- One of them is a further step. -/
theorem NA.more {t : List Nd} {list : List St} {who n : Int} {m : List Lk} (h : NA t list who) (hm : tabF list = some m) (hl : list.length < 16) (hn : n ∈ naF t m (hadF list who) who) : VS (list ++ [⟨who, false, n, 5⟩]) ∧ alF t (list ++ [⟨who, false, n, 5⟩]) who = -1 := by
  obtain ⟨hg, hb⟩ := naF_mem.1 hn
  obtain ⟨hv, hs, hw, ha⟩ := h
  have hvm := tabF_VTb hm
  obtain ⟨_, hm'⟩ := tabF_some hm
  have hask : OkAsk who n 5 := ⟨hw, ⟨hg.1.1, by have := hg.1.2; have := hv.2.1; omega⟩, by omega, by omega⟩
  have htk : takeF m who n 5 = some (grantF m who n 5) := takeF_yes hvm hask (by rw [all6 (p := fun h => joinF h 5 = 5) (by decide) _ (heldF_isM hvm who n)]; exact hb)
  refine ⟨VS_of (l := grantF m who n 5) ?_, alF_none fun j hj => ?_⟩
  · rw [tabF_yes (by simp; omega), stepsF_app, hm']
    show stepsF [_] m = _
    rw [stepsF, doF_take rfl]
    show (match takeF m who n 5 with | none => none | some l' => stepsF [] l') = _
    rw [htk]; rfl
  · by_cases e : j < list.length
    · rw [fltB_pre e]; exact alF_clean ha j e
    · have ej : j = list.length := by simp at hj; omega
      subst ej
      refine fltB_f (s := ⟨who, false, n, 5⟩) (m := m) (by simp) (by rw [List.take_left]; exact hm') fun hf => hf.2 ⟨rfl, ?_⟩
      rw [List.take_left]; exact hg
theorem naF_first {t : List Nd} {who : Int} : naF t [] (hadF [] who) who = (List.range t.length).map (fun (k : Nat) => (k : Int)) := by
  classical
  unfold naF
  rw [List.filter_eq_self]
  intro n hn
  obtain ⟨k, hk, rfl⟩ := List.mem_map.1 hn
  have hk := List.mem_range.1 hk
  rw [decide_eq_true_iff]
  exact ⟨⟨⟨by omega, by omega⟩, by simp [hadF, pickL], .inl rfl⟩, blkF_nil_of fun t h1 h2 h3 => togF_zero 5 (by decide)⟩
theorem NA.below {t : List Nd} {list : List St} {who n : Int} {m : List Lk} (h : NA t list who) (hm : tabF list = some m) (hp : lpF list who ≠ -1) (hn : n ∈ naF t m (hadF list who) who) :
    1 ≤ n ∧ n < t.length ∧ ∃ x, t[n.toNat]? = some x ∧ heldF m who x.par = 5 := by
  obtain ⟨hg, _⟩ := naF_mem.1 hn
  obtain ⟨hv, hs, hw, ha⟩ := h
  have hvm := tabF_VTb hm
  obtain ⟨_, hm'⟩ := tabF_some hm
  have hne : hadF list who ≠ [] := by
    rcases lpF_cases list who with ⟨h, _⟩ | ⟨i, s, _, h2, h3, _⟩
    · exact absurd h hp
    · intro e
      have := had_mem.2 ⟨i, s, h2, h3, rfl⟩
      rw [e] at this; cases this
  rcases hg.2.2 with e | ⟨x, hx, hh⟩
  · exact absurd e hne
  · have h5 := stepsF_w (who := who) list [] m VTb_nil hm' (clean_w hs ha) (fun n h => absurd rfl h) x.par hh
    refine ⟨?_, hg.1.2, x, hx, h5⟩
    obtain ⟨y, hy, _, h2, _⟩ := heldF_pos hvm hh
    have := (hvm.ask hy).2.1.1
    have := hv.parn hx
    omega
end Go.Proofs.YtcefgabdffipgaaDoor
