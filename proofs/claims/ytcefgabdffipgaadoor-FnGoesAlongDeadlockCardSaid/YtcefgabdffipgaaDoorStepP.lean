/- Steps of a schedule, in plain words: a step on a table, all steps, and what a valid list of steps says of its steps. -/
import Derived.Test.YtcefgabdffipgaaDoorTabL
namespace Go.Proofs.YtcefgabdffipgaaDoor
open Go.RowKit

/-- A table without the lock of a transaction on a node. -/
def dropF (l : List Lk) (who node : Int) : List Lk := l.filter fun x => decide (¬ (x.who = who ∧ x.node = node))
/-- A step on a valid table. -/
noncomputable def doF (l : List Lk) (s : St) : Option (List Lk) :=
  if s.free = true then (if s.mode = 0 ∧ heldF l s.who s.node ≠ 0 then some (dropF l s.who s.node) else none)
  else takeF l s.who s.node s.mode
noncomputable def stepsF : List St → List Lk → Option (List Lk)
  | [], l => some l
  | s :: r, l => match doF l s with
    | none => none
    | some l' => stepsF r l'
noncomputable def tabF (list : List St) : Option (List Lk) := if list.length ≤ 16 then stepsF list [] else none
/-- Valid steps. -/
def VS (list : List St) : Prop := tabF list ≠ none
def OkSt (s : St) : Prop := (0 ≤ s.who ∧ s.who ≤ 3) ∧ (0 ≤ s.node ∧ s.node ≤ 11) ∧ (s.free = true → s.mode = 0) ∧ (s.free = false → 1 ≤ s.mode ∧ s.mode ≤ 5)

theorem dropF_sub (l : List Lk) (who node : Int) : (dropF l who node).Sublist l := List.filter_sublist
theorem dropF_mem {l : List Lk} {who node : Int} {x : Lk} : x ∈ dropF l who node ↔ x ∈ l ∧ ¬ (x.who = who ∧ x.node = node) := by
  unfold dropF; rw [List.mem_filter, decide_eq_true_iff]
theorem dropF_VTb {l : List Lk} (h : VTb l) (who node : Int) : VTb (dropF l who node) := h.sub (dropF_sub l who node)
theorem dropF_held {l : List Lk} (h : VTb l) (who node a b : Int) : heldF (dropF l who node) a b = if a = who ∧ b = node then 0 else heldF l a b := by
  have hd := dropF_VTb h who node
  by_cases hc : a = who ∧ b = node
  · rw [if_pos hc]
    exact heldF_none fun x hx ⟨h1, h2⟩ => (dropF_mem.1 hx).2 ⟨h1.trans hc.1, h2.trans hc.2⟩
  · rw [if_neg hc]
    by_cases h0 : heldF l a b = 0
    · rw [h0]
      refine heldF_none fun x hx ⟨h1, h2⟩ => ?_
      have := heldF_mem h (dropF_mem.1 hx).1
      rw [h1, h2, h0] at this
      have := (h.ask (dropF_mem.1 hx).1).2.2.1
      omega
    · obtain ⟨x, hx, h1, h2, h3⟩ := heldF_pos h h0
      have := heldF_mem hd (dropF_mem.2 ⟨hx, fun ⟨e1, e2⟩ => hc ⟨h1.symm.trans e1, h2.symm.trans e2⟩⟩)
      rw [h1, h2] at this
      rw [this, h3]
/-- Where the lock stands, it is the one that goes. -/
theorem dropF_erase {l : List Lk} (h : VTb l) {who node : Int} {k : Nat} {x : Lk} (hx : l[k]? = some x) (h1 : x.who = who) (h2 : x.node = node) : dropF l who node = l.eraseIdx k := by
  have hk := (List.getElem?_eq_some_iff.1 hx).1
  have hp := (VTb_iff.1 h).2.2.1
  rw [List.eraseIdx_eq_take_drop_succ]
  have hd : l = l.take k ++ x :: l.drop (k + 1) := by
    have h0 := (List.take_append_drop k l).symm
    rw [List.drop_eq_getElem_cons hk, (List.getElem?_eq_some_iff.1 hx).2] at h0
    exact h0
  rw [hd, List.pairwise_append] at hp
  obtain ⟨_, hp2, hp3⟩ := hp
  rw [List.pairwise_cons] at hp2
  conv => lhs; rw [hd]
  unfold dropF
  rw [List.filter_append, List.filter_cons]
  have e1 : (List.take k l).filter (fun x => decide (¬ (x.who = who ∧ x.node = node))) = List.take k l :=
    List.filter_eq_self.2 fun y hy => by
      have := hp3 y hy x (List.mem_cons_self ..)
      rw [h1, h2] at this
      exact decide_eq_true fun e => this ⟨e.1, e.2⟩
  have e2 : (List.drop (k + 1) l).filter (fun x => decide (¬ (x.who = who ∧ x.node = node))) = List.drop (k + 1) l :=
    List.filter_eq_self.2 fun y hy => by
      have := hp2.1 y hy
      rw [h1, h2] at this
      exact decide_eq_true fun e => this ⟨e.1.symm, e.2.symm⟩
  rw [e1, e2]
  simp [h1, h2]

theorem doF_ok {l l' : List Lk} {s : St} (h : VTb l) (hd : doF l s = some l') : VTb l' ∧ OkSt s := by
  unfold doF at hd
  split at hd
  · rename_i hf
    split at hd
    · rename_i hc
      injection hd with hd
      subst hd
      obtain ⟨x, hx, h1, h2, _⟩ := heldF_pos h hc.2
      have ha := h.ask hx
      exact ⟨dropF_VTb h _ _, ⟨by rw [← h1]; exact ha.1, by rw [← h2]; exact ha.2.1, fun _ => hc.1, fun e => by rw [hf] at e; cases e⟩⟩
    · cases hd
  · rename_i hf
    obtain ⟨_, ha, _, _⟩ := takeF_some hd
    exact ⟨takeF_VTb hd, ha.1, ha.2.1, fun e => absurd e hf, fun _ => ha.2.2⟩
theorem doF_free {l : List Lk} {s : St} (hf : s.free = true) (hm : s.mode = 0) : doF l s = if heldF l s.who s.node ≠ 0 then some (dropF l s.who s.node) else none := by
  unfold doF; rw [if_pos hf]; simp [hm]
theorem doF_take {l : List Lk} {s : St} (hf : s.free = false) : doF l s = takeF l s.who s.node s.mode := by
  unfold doF; rw [if_neg (by rw [hf]; simp)]
theorem doF_nomode {l : List Lk} {s : St} (hf : s.free = true) (hm : s.mode ≠ 0) : doF l s = none := by
  unfold doF; rw [if_pos hf, if_neg (fun h => hm h.1)]
theorem doF_nohold {l : List Lk} {s : St} (hf : s.free = true) (hm : heldF l s.who s.node = 0) : doF l s = none := by
  unfold doF; rw [if_pos hf, if_neg (fun h => h.2 hm)]

theorem stepsF_app : ∀ (a b : List St) (l : List Lk), stepsF (a ++ b) l = (stepsF a l).bind (stepsF b)
  | [], b, l => rfl
  | s :: a, b, l => by
    rw [List.cons_append, stepsF, stepsF]
    cases doF l s with
    | none => rfl
    | some l' => exact stepsF_app a b l'
theorem stepsF_ok : ∀ (list : List St) (l l' : List Lk), VTb l → stepsF list l = some l' → VTb l' ∧ ∀ s ∈ list, OkSt s
  | [], l, l', h, hs => by injection hs with hs; subst hs; exact ⟨h, fun _ h => by cases h⟩
  | s :: r, l, l', h, hs => by
    rw [stepsF] at hs
    cases hd : doF l s with
    | none => rw [hd] at hs; cases hs
    | some m =>
      rw [hd] at hs
      obtain ⟨h1, h2⟩ := doF_ok h hd
      obtain ⟨h3, h4⟩ := stepsF_ok r m l' h1 hs
      exact ⟨h3, fun x hx => (List.mem_cons.1 hx).elim (fun e => e ▸ h2) (h4 x)⟩
theorem stepsF_snoc {list : List St} {l m : List Lk} {k : Nat} {s : St} (h : stepsF (list.take k) l = some m) (hs : list[k]? = some s) : stepsF (list.take (k + 1)) l = doF m s := by
  have hk := (List.getElem?_eq_some_iff.1 hs).1
  have e : list.take (k + 1) = list.take k ++ [s] := by
    rw [List.take_add_one, hs]; rfl
  rw [e, stepsF_app, h]
  show stepsF [s] m = _
  rw [stepsF]
  cases doF m s <;> rfl
/-- A step that can't be done ends all. -/
theorem stepsF_stop {list : List St} {l m : List Lk} {k : Nat} {s : St} (h : stepsF (list.take k) l = some m) (hs : list[k]? = some s) (hd : doF m s = none) : stepsF list l = none := by
  have h1 := stepsF_snoc h hs
  rw [hd] at h1
  rw [← List.take_append_drop (k + 1) list, stepsF_app, h1]
  rfl
theorem tabF_some {list : List St} {l : List Lk} (h : tabF list = some l) : list.length ≤ 16 ∧ stepsF list [] = some l := by
  unfold tabF at h
  split at h
  · rename_i hl; exact ⟨hl, h⟩
  · cases h
theorem tabF_yes {list : List St} (h : list.length ≤ 16) : tabF list = stepsF list [] := by unfold tabF; rw [if_pos h]
theorem tabF_no {list : List St} (h : 16 < list.length) : tabF list = none := by unfold tabF; rw [if_neg (by omega)]
theorem tabF_VTb {list : List St} {l : List Lk} (h : tabF list = some l) : VTb l := (stepsF_ok list [] l VTb_nil (tabF_some h).2).1
theorem tabF_okSt {list : List St} {l : List Lk} (h : tabF list = some l) : ∀ s ∈ list, OkSt s := (stepsF_ok list [] l VTb_nil (tabF_some h).2).2
theorem VS.ex {list : List St} (h : VS list) : ∃ l, tabF list = some l := by
  cases e : tabF list with
  | none => exact absurd e h
  | some l => exact ⟨l, rfl⟩
theorem VS.len {list : List St} (h : VS list) : list.length ≤ 16 := let ⟨_, h⟩ := h.ex; (tabF_some h).1
theorem VS.ok {list : List St} (h : VS list) : ∀ s ∈ list, OkSt s := let ⟨_, h⟩ := h.ex; tabF_okSt h
theorem VS.at {list : List St} (h : VS list) {k : Nat} {s : St} (hs : list[k]? = some s) : OkSt s := h.ok s (List.mem_of_getElem? hs)
theorem VS_of {list : List St} {l : List Lk} (h : tabF list = some l) : VS list := fun e => by rw [h] at e; cases e
theorem nVS {list : List St} (h : ¬ VS list) : tabF list = none := by
  cases e : tabF list with
  | none => rfl
  | some l => exact absurd (VS_of e) h
theorem VS.take {list : List St} (h : VS list) (k : Nat) : VS (list.take k) := by
  obtain ⟨l, h⟩ := h.ex
  obtain ⟨h1, h2⟩ := tabF_some h
  rw [← List.take_append_drop k list, stepsF_app] at h2
  cases e : stepsF (list.take k) [] with
  | none => rw [e] at h2; cases h2
  | some m => exact VS_of (l := m) (by rw [tabF_yes (by rw [List.length_take]; omega), e])
theorem VS.tab {list : List St} (h : VS list) (k : Nat) : ∃ m, stepsF (list.take k) [] = some m ∧ VTb m := by
  obtain ⟨m, hm⟩ := (h.take k).ex
  exact ⟨m, (tabF_some hm).2, tabF_VTb hm⟩
theorem VS_nil : VS [] := VS_of (l := []) rfl
theorem not_VS_bad {list : List St} {k : Nat} {s : St} (hs : list[k]? = some s) (hb : ¬ OkSt s) : ¬ VS list := fun h => hb (h.at hs)
end Go.Proofs.YtcefgabdffipgaaDoor
