/- Who waits behind a run, in plain words. -/
import Derived.Test.YtgpocjehiohimaaDoorRunP2
import Derived.Test.YtgpocjehiohimaaDoorWaitQ
namespace Go.Proofs.YtgpocjehiohimaaDoor
open Go.RowKit

/-- Who stands in the way of a part. -/
noncomputable def blkD (t : List Nd) (m : Mc) (who : Int) (d : Dd) (o : Int) : Bool := (lkF t who d.node (modeF d)).any fun x => decide (o ∈ lbF m.tab who x.node x.mode)
noncomputable def wtOne (t : List Nd) (sc : List (List Dd)) (m : Mc) (who : Nat) : List Wt := match nextD sc m who with
  | none => []
  | some d => (markL (blkD t m who d)).map fun o => ⟨(who : Int), o⟩
noncomputable def wtF (t : List Nd) (sc : List (List Dd)) (m : Mc) (k : Nat) : List Wt := (List.range k).flatMap (wtOne t sc m)
theorem wtF_succ (t : List Nd) (sc : List (List Dd)) (m : Mc) (k : Nat) : wtF t sc m (k + 1) = wtF t sc m k ++ wtOne t sc m k := by
  unfold wtF
  rw [List.range_succ, List.flatMap_append]
  simp
section
variable {t : List Nd} {sc : List (List Dd)} {m : Mc}
theorem wtF_mem {k : Nat} {x : Wt} (h : x ∈ wtF t sc m k) : ∃ (i : Nat) (d : Dd), i < k ∧ x.who = i ∧ nextD sc m i = some d ∧ ∃ y ∈ lkF t i d.node (modeF d), x.tgt ∈ lbF m.tab i y.node y.mode := by
  unfold wtF at h
  obtain ⟨i, hi, hx⟩ := List.mem_flatMap.1 h
  unfold wtOne at hx
  cases hd : nextD sc m i with
  | none => rw [hd] at hx; cases hx
  | some d =>
    rw [hd] at hx
    obtain ⟨o, ho, rfl⟩ := List.mem_map.1 hx
    obtain ⟨_, hb⟩ := List.mem_filter.1 ho
    obtain ⟨y, hy, hy2⟩ := List.any_eq_true.1 hb
    exact ⟨i, d, List.mem_range.1 hi, rfl, hd, y, hy, of_decide_eq_true hy2⟩
theorem blkD_self {who : Nat} {d : Dd} : blkD t m who d who = false := by
  unfold blkD
  rw [List.any_eq_false]
  intro x _ h
  exact (lbF_mem (of_decide_eq_true h)).2 rfl
theorem wtOne_len (hsc : VSc t sc) {who : Nat} (hw : who < sc.length) : (wtOne t sc m who).length ≤ 3 := by
  unfold wtOne
  split
  · simp
  · rw [List.length_map]
    have := hsc.1
    exact mark_len3 (k := (who : Int)) (by omega) (by omega) blkD_self
theorem wtF_len (hsc : VSc t sc) : ∀ k : Nat, k ≤ sc.length → (wtF t sc m k).length ≤ 3 * k
  | 0, _ => by simp [wtF]
  | k + 1, h => by
    rw [wtF_succ, List.length_append]
    have := wtF_len hsc k (by omega)
    have := wtOne_len (m := m) hsc (who := k) (by omega)
    omega
theorem lbF_holds (hvm : VTb m.tab) {who node mode o : Int} (h : o ∈ lbF m.tab who node mode) : heldF m.tab o node ≠ 0 := fun e => by
  unfold lbF at h
  split at h
  · rename_i hc
    have h4 := (blkF_mem h).2.2.2
    rw [e, togF_zero _ (joinF_isM (heldF_isM hvm _ _) hc.2.isM)] at h4
    cases h4
  · cases h
/-- A wait behind a run. -/
theorem Inv.wait (hvt : VT t) (hsc : VSc t sc) (h : Inv t sc m) {x : Wt} (hx : x ∈ wtF t sc m sc.length) :
    (∃ i : Nat, x.who = i ∧ i < sc.length ∧ x.who ∉ m.fin ∧ pickM t sc m i = m) ∧ (∃ j : Nat, x.tgt = j ∧ j < sc.length ∧ x.tgt ∉ m.fin) ∧ x.who ≠ x.tgt ∧ ∃ y ∈ m.tab, y.who = x.tgt := by
  obtain ⟨i, d, hi, hw, hd, y, hy, hl⟩ := wtF_mem hx
  have hh := lbF_holds h.tab hl
  obtain ⟨j, e1, hj, j1, j2⟩ := h.held _ _ hh
  obtain ⟨z, hz, z1, _⟩ := heldF_pos h.tab hh
  have hlt : plc m i < (scr sc i).length := by
    have := (List.getElem?_eq_some_iff.1 hd).1
    have := h.prange i hi
    omega
  refine ⟨⟨i, hw, hi, fun hc => ?_, pick_blocked hvt hsc h hi hd hy hl⟩, ⟨j, e1, hj, fun hc => ?_⟩, ?_, z, hz, z1⟩
  · obtain ⟨i', e, _, h2⟩ := (h.fin _).1 hc
    obtain rfl : i = i' := by omega
    omega
  · obtain ⟨i', e, _, h2⟩ := (h.fin _).1 hc
    obtain rfl : j = i' := by omega
    omega
  · rw [hw]; exact (lbF_mem hl).2
theorem Inv.waits (hvt : VT t) (hsc : VSc t sc) (h : Inv t sc m) : VW (wtF t sc m sc.length) := by
  refine ⟨by have := wtF_len (m := m) hsc sc.length (Nat.le_refl _); have := hsc.1; omega, fun x hx => ?_⟩
  obtain ⟨⟨i, e1, hi, _⟩, ⟨j, e2, hj, _⟩, hne, _⟩ := h.wait hvt hsc hx
  have := hsc.1
  exact ⟨by omega, by omega, hne⟩
/-- Where all that is not done waits, somebody waits for himself. -/
theorem Inv.dead (hvt : VT t) (hsc : VSc t sc) (h : Inv t sc m) (hn : m.fin.length ≠ sc.length) (hw : ∀ i : Nat, i < sc.length → (i : Int) ∈ m.fin ∨ ∃ x ∈ wtF t sc m sc.length, x.who = i) : ∃ a, (0 ≤ a ∧ a ≤ 3) ∧ Rch (wtF t sc m sc.length) a a := by
  classical
  have hex : ∃ i : Nat, i < sc.length ∧ (i : Int) ∉ m.fin := Classical.byContradiction fun hc => by
    have hall : ∀ i : Nat, i < sc.length → (i : Int) ∈ m.fin := fun i hi => Classical.byContradiction fun h => hc ⟨i, hi, h⟩
    have h1 : (ints sc.length).length ≤ m.fin.length := List.Nodup.length_le_of_subset (by
      unfold ints
      exact List.Pairwise.map _ (fun a b (h : a ≠ b) (e : (a : Int) = b) => h (by omega)) List.nodup_range) fun z hz => by
        obtain ⟨k, hk, rfl⟩ := List.mem_map.1 hz
        exact hall k (List.mem_range.1 hk)
    have h2 : (ints sc.length).length = sc.length := by simp [ints]
    have := h.finl
    omega
  obtain ⟨i0, hi0, hn0⟩ := hex
  refine Classical.byContradiction fun hc => ?_
  have hirr : ∀ a, ¬ Rch (wtF t sc m sc.length) a a := fun a ha => by
    refine hc ⟨a, ?_, ha⟩
    obtain ⟨x, hx, rfl, _⟩ := ha.first
    obtain ⟨⟨i, e1, hi, _⟩, _⟩ := h.wait hvt hsc hx
    have := hsc.1
    omega
  obtain ⟨s, hs, hsink⟩ := ex_sink (R := Rch (wtF t sc m sc.length)) (fun a b c => Rch.trans) hirr ((ints sc.length).filter fun z => decide (z ∉ m.fin)) (fun e => by
    have : (i0 : Int) ∈ (ints sc.length).filter fun z => decide (z ∉ m.fin) := List.mem_filter.2 ⟨List.mem_map.2 ⟨i0, List.mem_range.2 hi0, rfl⟩, decide_eq_true hn0⟩
    rw [e] at this; cases this)
  obtain ⟨s1, s2⟩ := List.mem_filter.1 hs
  obtain ⟨k, hk, rfl⟩ := List.mem_map.1 s1
  rcases hw k (List.mem_range.1 hk) with hf | ⟨x, hx, hxw⟩
  · exact of_decide_eq_true s2 hf
  · obtain ⟨_, ⟨j, e2, hj, hjn⟩, _⟩ := h.wait hvt hsc hx
    refine hsink x.tgt (List.mem_filter.2 ⟨List.mem_map.2 ⟨j, List.mem_range.2 hj, e2.symm⟩, decide_eq_true hjn⟩) ?_
    have := Rch.one x hx
    rw [hxw] at this
    exact this
end
end Go.Proofs.YtgpocjehiohimaaDoor
