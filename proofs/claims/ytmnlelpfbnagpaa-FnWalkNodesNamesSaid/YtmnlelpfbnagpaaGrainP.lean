/- The plain side of grains: locks for a lock, who may read and write, faults. -/
import Derived.Test.YtmnlelpfbnagpaaTabP
import Derived.Test.YtmnlelpfbnagpaaUpP
namespace Go.Proofs.Ytmnlelpfbnagpaa

/-- A valid tree and one of its nodes. -/
def IsNd (t : List Nd) (a : Int) : Prop := VT t ∧ 0 ≤ a ∧ a < t.length
/-- The nodes from the top down to a node. -/
def pathL (t : List Nd) (a : Int) : List Int := (upI t a).reverse

theorem pathL_len {t : List Nd} (h : VT t) {k : Nat} (hk : k < t.length) : (pathL t k).length ≤ 5 := by
  unfold pathL
  rw [List.length_reverse]
  exact upI_len5 h hk
theorem IsNd.path_len {t : List Nd} {a : Int} (h : IsNd t a) : (pathL t a).length ≤ 5 ∧ 1 ≤ (pathL t a).length := by
  obtain ⟨h1, h2, h3⟩ := h
  obtain ⟨j, rfl⟩ := Int.eq_ofNat_of_zero_le h2
  refine ⟨pathL_len h1 (by omega), ?_⟩
  unfold pathL
  rw [List.length_reverse]
  exact List.length_pos_of_mem (upI_self h1.desc (k := j) (by omega))
theorem IsNd.snoc {t : List Nd} {a : Int} (h : IsNd t a) : pathL t a = (pathL t a).take ((pathL t a).length - 1) ++ [a] := by
  obtain ⟨h1, h2, h3⟩ := h
  obtain ⟨j, rfl⟩ := Int.eq_ofNat_of_zero_le h2
  have hx : t[j]? = some t[j] := List.getElem?_eq_getElem (by omega)
  unfold pathL
  rw [upI_step h1.desc hx, List.reverse_cons, List.length_append, List.length_reverse]
  simp
theorem IsNd.mem {t : List Nd} {a b : Int} (h : IsNd t a) (hb : b ∈ upI t a) : IsNd t b := by
  have := upI_lt h.1.desc h.2.2 hb
  exact ⟨h.1, this.1, by have := h.2.2; omega⟩

def lkF (t : List Nd) (who node mode : Int) : List Lk := ((pathL t node).take ((pathL t node).length - 1)).map (fun a => ⟨who, a, needF mode⟩) ++ [⟨who, node, mode⟩]
open Classical in
noncomputable def lksF (t : List Nd) (who node mode : Int) : List Lk := if IsNd t node ∧ OkAsk who node mode then lkF t who node mode else []
theorem lksF_yes {t : List Nd} {who node mode : Int} (h1 : IsNd t node) (h2 : OkAsk who node mode) : lksF t who node mode = lkF t who node mode := by unfold lksF; rw [if_pos ⟨h1, h2⟩]
theorem lksF_no {t : List Nd} {who node mode : Int} (h : ¬ (IsNd t node ∧ OkAsk who node mode)) : lksF t who node mode = [] := by unfold lksF; rw [if_neg h]
theorem lkF_len {t : List Nd} {who node mode : Int} (h : IsNd t node) : (lkF t who node mode).length ≤ 5 := by
  have := h.path_len
  unfold lkF
  rw [List.length_append, List.length_map, List.length_take]
  simp only [List.length_cons, List.length_nil]
  omega
theorem lksF_len (t : List Nd) (who node mode : Int) : (lksF t who node mode).length ≤ 5 := by
  by_cases h : IsNd t node ∧ OkAsk who node mode
  · rw [lksF_yes h.1 h.2]; exact lkF_len h.1
  · rw [lksF_no h]; simp

/-- A mode as strong as one on a node or above it. -/
def onP (t : List Nd) (l : List Lk) (who : Int) (mode : Int) (z : Int) : Bool := (upI t z).any fun a => strF (heldF l who a) mode
open Classical in
noncomputable def mayF (mode : Int) (t : List Nd) (l : List Lk) (who node : Int) : Bool := if IsNd t node ∧ VTb l then onP t l who mode node else false
theorem mayF_yes {mode : Int} {t : List Nd} {l : List Lk} {who node : Int} (h1 : IsNd t node) (h2 : VTb l) : mayF mode t l who node = onP t l who mode node := by unfold mayF; rw [if_pos ⟨h1, h2⟩]
theorem mayF_no {mode : Int} {t : List Nd} {l : List Lk} {who node : Int} (h : ¬ (IsNd t node ∧ VTb l)) : mayF mode t l who node = false := by unfold mayF; rw [if_neg h]
theorem str3 {h : Int} (hm : IsM h) : strF h 3 = decide (3 ≤ h) := all6 (p := fun h => strF h 3 = decide (3 ≤ h)) (by decide) h hm
theorem str5 {h : Int} (hm : IsM h) : strF h 5 = decide (h = 5) := all6 (p := fun h => strF h 5 = decide (h = 5)) (by decide) h hm

/-- The first of these nodes, counted from k, that is locked without its parent; -1 for none. -/
def gfL (l : List Lk) (who : Int) (xs : List Nd) (k : Nat) : Int := match xs with
  | [] => -1
  | x :: r => if strF (heldF l who x.par) (needF (heldF l who k)) = false then k else gfL l who r (k + 1)
open Classical in
noncomputable def gfF (t : List Nd) (l : List Lk) (who : Int) : Int := if VT t ∧ VTb l then gfL l who (t.drop 1) 1 else -1
theorem gfF_yes {t : List Nd} {l : List Lk} {who : Int} (h1 : VT t) (h2 : VTb l) : gfF t l who = gfL l who (t.drop 1) 1 := by unfold gfF; rw [if_pos ⟨h1, h2⟩]
theorem gfF_no {t : List Nd} {l : List Lk} {who : Int} (h : ¬ (VT t ∧ VTb l)) : gfF t l who = -1 := by unfold gfF; rw [if_neg h]

theorem gfL_spec (l : List Lk) (who : Int) : ∀ (xs : List Nd) (k : Nat), (gfL l who xs k = -1 ∧ ∀ (i : Nat) (x : Nd), xs[i]? = some x → strF (heldF l who x.par) (needF (heldF l who ((k + i : Nat) : Int))) = true) ∨
    ∃ (i : Nat) (x : Nd), gfL l who xs k = ((k + i : Nat) : Int) ∧ xs[i]? = some x ∧ strF (heldF l who x.par) (needF (heldF l who ((k + i : Nat) : Int))) = false ∧ ∀ (j : Nat) (y : Nd), j < i → xs[j]? = some y → strF (heldF l who y.par) (needF (heldF l who ((k + j : Nat) : Int))) = true := by
  intro xs
  induction xs with
  | nil => intro k; left; exact ⟨rfl, by simp⟩
  | cons x r ih =>
    intro k
    rw [gfL]
    by_cases h : strF (heldF l who x.par) (needF (heldF l who k)) = false
    · rw [if_pos h]
      right
      exact ⟨0, x, by simp, rfl, h, fun j y hj => by omega⟩
    · rw [if_neg h]
      have h' : strF (heldF l who x.par) (needF (heldF l who ((k : Nat) : Int))) = true := by simpa using h
      rcases ih (k + 1) with ⟨h1, h2⟩ | ⟨i, y, h1, h2, h3, h4⟩
      · left
        refine ⟨h1, fun i z hz => ?_⟩
        cases i with
        | zero => simp only [List.getElem?_cons_zero, Option.some.injEq] at hz; subst hz; exact h'
        | succ i => have := h2 i z (by simpa using hz); rw [show k + 1 + i = k + (i + 1) by omega] at this; exact this
      · right
        refine ⟨i + 1, y, by rw [h1]; omega, by simpa using h2, by rw [show k + (i + 1) = k + 1 + i by omega]; exact h3, fun j z hj hz => ?_⟩
        cases j with
        | zero => simp only [List.getElem?_cons_zero, Option.some.injEq] at hz; subst hz; exact h'
        | succ j => have := h4 j z (by omega) (by simpa using hz); rw [show k + 1 + j = k + (j + 1) by omega] at this; exact this

/-- No fault: every lock has one above it that is strong enough. -/
def Fine (t : List Nd) (l : List Lk) (who : Int) : Prop := ∀ (k : Nat) (x : Nd), 1 ≤ k → t[k]? = some x → strF (heldF l who x.par) (needF (heldF l who (k : Int))) = true
theorem gfF_fine {t : List Nd} {l : List Lk} {who : Int} (h1 : VT t) (h2 : VTb l) : gfF t l who = -1 ↔ Fine t l who := by
  rw [gfF_yes h1 h2]
  rcases gfL_spec l who (t.drop 1) 1 with ⟨h, hh⟩ | ⟨i, x, h, hx, hf, _⟩
  · refine ⟨fun _ k x hk hx => ?_, fun _ => h⟩
    have := hh (k - 1) x (by rw [List.getElem?_drop, show 1 + (k - 1) = k by omega]; exact hx)
    rw [show 1 + (k - 1) = k by omega] at this
    exact this
  · refine ⟨fun h' => by rw [h] at h'; omega, fun hh => ?_⟩
    rw [List.getElem?_drop] at hx
    have := hh (1 + i) x (by omega) hx
    rw [this] at hf; cases hf
theorem gfF_range {t : List Nd} {l : List Lk} {who : Int} : gfF t l who = -1 ∨ (1 ≤ gfF t l who ∧ gfF t l who < t.length) := by
  by_cases h : VT t ∧ VTb l
  · rw [gfF_yes h.1 h.2]
    rcases gfL_spec l who (t.drop 1) 1 with ⟨h, _⟩ | ⟨i, x, h, hx, _⟩
    · exact Or.inl h
    · right
      have := (List.getElem?_eq_some_iff.1 hx).1
      rw [List.length_drop] at this
      rw [h]; omega
  · exact Or.inl (gfF_no h)
theorem Fine.up {t : List Nd} {l : List Lk} {who : Int} (hv : VT t) (hb : VTb l) (hf : Fine t l who) : ∀ (k : Nat), k < t.length → ∀ a ∈ upI t k, a ≠ (k : Int) → strF (heldF l who a) (needF (heldF l who k)) = true := by
  intro k
  induction k using Nat.strongRecOn with
  | _ k ih =>
    intro hk a ha hne
    have hx : t[k]? = some t[k] := List.getElem?_eq_getElem hk
    rw [upI_step hv.desc hx] at ha
    rcases List.mem_cons.1 ha with rfl | ha
    · exact absurd rfl hne
    rcases Nat.eq_zero_or_pos k with rfl | hp
    · rw [upI_neg (by have := hv.par0 hx; omega)] at ha; simp at ha
    have hpp := hv.parp hx hp
    have h1 := hf k _ hp hx
    obtain ⟨j, e⟩ := Int.eq_ofNat_of_zero_le hpp.1
    rw [e] at ha hpp h1
    by_cases e2 : a = (j : Int)
    · rw [e2]; exact h1
    · have h2 := ih j (by omega) (by omega) a ha e2
      have hm := heldF_isM hb
      -- a is as strong as what j needs, and j is as strong as what k needs
      have h3 : strF (needF (heldF l who j)) (needF (heldF l who k)) = true := by
        have := all66 (p := fun x y => strF x (needF y) = true → strF (needF x) (needF y) = true) (by decide) _ _ (hm who j) (hm who k) h1
        exact this
      exact strF_trans (hm _ _) (needF_isM _) (needF_isM _) h2 h3
end Go.Proofs.Ytmnlelpfbnagpaa
