/- The plain side of trees: what a valid tree is. No program. -/
import Derived.Test.YtmnlelpfbnagpaaWords
namespace Go.Proofs.Ytmnlelpfbnagpaa

def chOk (c : UInt8) : Bool := decide (97 ≤ (c.toNat : Int)) && decide ((c.toNat : Int) ≤ 122)
def nmOk (s : ByteArray) : Bool := decide (1 ≤ s.size) && decide (s.size ≤ 4) && s.data.toList.all chOk

/-- The first node with a parent and a name, counted from i. -/
def kidF (l : List Nd) (p : Int) (s : ByteArray) (i : Nat) : Int :=
  match l with
  | [] => -1
  | x :: r => if x.par = p ∧ (x.name.toList == s.toList) = true then i else kidF r p s (i + 1)

/-- How many nodes are above a node (with fuel). -/
def depF (t : List Nd) : Nat → Nat → Nat
  | 0, _ => 0
  | f + 1, i => match t[i]? with
    | some x => if 0 ≤ x.par then depF t f x.par.toNat + 1 else 0
    | none => 0
def dep (t : List Nd) (i : Nat) : Nat := depF t (i + 1) i

/-- Parents come before. -/
def Desc (t : List Nd) (k : Nat) : Prop := ∀ j x, j < k → t[j]? = some x → x.par < j

theorem depF_eq {t : List Nd} {k : Nat} (h : Desc t k) : ∀ i, i < k → ∀ f g, i < f → i < g → depF t f i = depF t g i := by
  intro i
  induction i using Nat.strongRecOn with
  | _ i ih =>
    intro hik f g hf hg
    cases f with
    | zero => omega
    | succ f =>
      cases g with
      | zero => omega
      | succ g =>
        simp only [depF]
        cases hx : t[i]? with
        | none => rfl
        | some x =>
          have := h i x hik hx
          by_cases h0 : 0 ≤ x.par
          · simp only [if_pos h0]
            rw [ih x.par.toNat (by omega) (by omega) f g (by omega) (by omega)]
          · simp only [if_neg h0]
theorem dep_step {t : List Nd} {k i : Nat} {x : Nd} (h : Desc t k) (hi : i < k) (hx : t[i]? = some x) (h0 : 0 ≤ x.par) : dep t i = dep t x.par.toNat + 1 := by
  have := h i x hi hx
  unfold dep
  rw [depF, hx]
  simp only [if_pos h0]
  rw [depF_eq h x.par.toNat (by omega) i (x.par.toNat + 1) (by omega) (by omega)]
theorem dep_top {t : List Nd} {i : Nat} {x : Nd} (hx : t[i]? = some x) (h0 : x.par < 0) : dep t i = 0 := by
  unfold dep
  rw [depF, hx]
  simp only [if_neg (show ¬ 0 ≤ x.par from by omega)]
theorem dep_le {t : List Nd} {k : Nat} (h : Desc t k) : ∀ i, i < k → dep t i ≤ i := by
  intro i
  induction i using Nat.strongRecOn with
  | _ i ih =>
    intro hik
    cases hx : t[i]? with
    | none => unfold dep; rw [depF, hx]; simp
    | some x =>
      have := h i x hik hx
      by_cases h0 : 0 ≤ x.par
      · rw [dep_step h hik hx h0]
        have := ih x.par.toNat (by omega) (by omega)
        omega
      · rw [dep_top hx (by omega)]; omega

/-- What is asked of the node number i. -/
def OkAt (t : List Nd) (i : Nat) (x : Nd) : Prop :=
  -1000 ≤ x.val ∧ x.val ≤ 1000 ∧ (i = 0 → x.par = -1 ∧ x.name.toList.isEmpty = true) ∧
  (0 < i → 0 ≤ x.par ∧ x.par ≤ (i : Int) - 1 ∧ nmOk x.name = true ∧ kidF (t.take i) x.par x.name 0 < 0 ∧ dep t i ≤ 4)

def OkTo (t : List Nd) (k : Nat) : Prop := ∀ i x, i < k → t[i]? = some x → OkAt t i x

def VT (t : List Nd) : Prop := 1 ≤ t.length ∧ t.length ≤ 12 ∧ OkTo t t.length
open Classical in
noncomputable def vt (t : List Nd) : Bool := decide (VT t)
theorem vt_true {t : List Nd} (h : VT t) : vt t = true := by simpa [vt] using h
theorem vt_false {t : List Nd} (h : ¬ VT t) : vt t = false := by simpa [vt] using h
theorem VT_of {t : List Nd} (h : vt t = true) : VT t := by simpa [vt] using h
theorem nVT_of {t : List Nd} (h : vt t = false) : ¬ VT t := by simpa [vt] using h

theorem OkTo.desc {t : List Nd} {k : Nat} (h : OkTo t k) : Desc t k := by
  intro j x hj hx
  obtain ⟨_, _, h0, h1⟩ := h j x hj hx
  rcases Nat.eq_zero_or_pos j with rfl | hp
  · have := (h0 rfl).1; omega
  · have := (h1 hp).2.1; omega
theorem OkTo.succ {t : List Nd} {k : Nat} {x : Nd} (h : OkTo t k) (hx : t[k]? = some x) (ho : OkAt t k x) : OkTo t (k + 1) := by
  intro i y hi hy
  by_cases e : i = k
  · subst e; rw [hx] at hy; injection hy with hy; subst hy; exact ho
  · exact h i y (by omega) hy
theorem OkTo.zero {t : List Nd} : OkTo t 0 := fun _ _ h => absurd h (by omega)
theorem not_VT_at {t : List Nd} {k : Nat} {x : Nd} (hx : t[k]? = some x) (ho : ¬ OkAt t k x) : ¬ VT t := by
  intro h
  exact ho (h.2.2 k x (List.getElem?_eq_some_iff.1 hx).1 hx)

theorem OkTo.dep_le {t : List Nd} {k j : Nat} (h : OkTo t k) (hj : j < k) (hl : j < t.length) : dep t j ≤ 4 := by
  have hx : t[j]? = some t[j] := List.getElem?_eq_getElem hl
  have ho := h j _ hj hx
  rcases Nat.eq_zero_or_pos j with rfl | hp
  · have := (ho.2.2.1 rfl).1
    rw [dep_top hx (by omega)]; omega
  · exact (ho.2.2.2 hp).2.2.2.2
theorem desc_succ {t : List Nd} {k : Nat} {x : Nd} (h : OkTo t k) (hx : t[k]? = some x) (hp : x.par < k) : Desc t (k + 1) := by
  intro j y hj hy
  by_cases e : j = k
  · subst e; rw [hx] at hy; injection hy with hy; subst hy; exact hp
  · exact h.desc j y (by omega) hy

/-- Names are no longer than any machine bears. -/
def NmB (t : List Nd) : Prop := ∀ (i : Nat) (x : Nd), t[i]? = some x → x.name.size ≤ 1000000000000

theorem kidF_range (l : List Nd) (p : Int) (s : ByteArray) : ∀ i : Nat, kidF l p s i = -1 ∨ (i ≤ kidF l p s i ∧ kidF l p s i < i + l.length) := by
  induction l with
  | nil => intro i; left; rfl
  | cons x r ih =>
    intro i
    rw [kidF]
    split
    · right; simp; omega
    · rcases ih (i + 1) with h | ⟨h1, h2⟩
      · left; exact h
      · right; simp; omega

/-- The reference begins with the node 1. -/
theorem kid_from1 {t : List Nd} {p : Int} {s : ByteArray} (hp : 0 ≤ p) (h0 : ∀ x, t[0]? = some x → x.par = -1) : kidF (t.drop 1) p s 1 = kidF t p s 0 := by
  cases t with
  | nil => rfl
  | cons x r =>
    have := h0 x rfl
    rw [kidF, if_neg (by rintro ⟨h, _⟩; omega)]
    rfl
end Go.Proofs.Ytmnlelpfbnagpaa
