/- Locks along a tree, in plain words. -/
import Derived.Test.YtcefgabdffipgaaDoorStepL
import Derived.Test.YtcefgabdffipgaaDoorGrainP
namespace Go.Proofs.YtcefgabdffipgaaDoor
open Go.RowKit

/-- The nodes on which a transaction has taken locks, in order. -/
def hadF (list : List St) (who : Int) : List Int := pickL (fun _ s => decide (Takes s who)) St.node list 0
/-- A further node can be taken along the tree. -/
def Goes (t : List Nd) (l : List Lk) (had : List Int) (who node : Int) : Prop := (0 ≤ node ∧ node < t.length) ∧ node ∉ had ∧ (had = [] ∨ ∃ x, t[node.toNat]? = some x ∧ heldF l who x.par ≠ 0)
/-- A step is a fault. -/
def Flt (t : List Nd) (l : List Lk) (had : List Int) (who : Int) (s : St) : Prop := Takes s who ∧ ¬ (s.mode = 5 ∧ Goes t l had who s.node)
open Classical in
noncomputable def fltB (t : List Nd) (list : List St) (who : Int) (i : Nat) : Bool := decide (∃ s m, list[i]? = some s ∧ stepsF (list.take i) [] = some m ∧ Flt t m (hadF (list.take i) who) who s)
open Classical in
theorem fltB_iff {t : List Nd} {list : List St} {who : Int} {i : Nat} : fltB t list who i = true ↔ ∃ s m, list[i]? = some s ∧ stepsF (list.take i) [] = some m ∧ Flt t m (hadF (list.take i) who) who s := by
  unfold fltB; exact decide_eq_true_iff
def firstF (p : Nat → Bool) : Nat → Nat → Int
  | 0, _ => -1
  | n + 1, k => if p k then (k : Int) else firstF p n (k + 1)
noncomputable def alF (t : List Nd) (list : List St) (who : Int) : Int := firstF (fltB t list who) list.length 0
open Classical in
/-- The first fault. -/
noncomputable def alI (t : List Nd) (list : List St) (who : Int) : Int := if VT t ∧ VS list then alF t list who else -1
theorem alI_yes {t : List Nd} {list : List St} {who : Int} (h1 : VT t) (h2 : VS list) : alI t list who = alF t list who := by unfold alI; rw [if_pos ⟨h1, h2⟩]
theorem alI_no {t : List Nd} {list : List St} {who : Int} (h : ¬ (VT t ∧ VS list)) : alI t list who = -1 := by unfold alI; rw [if_neg h]

theorem firstF_spec (p : Nat → Bool) : ∀ n k : Nat, (firstF p n k = -1 ∧ ∀ i, k ≤ i → i < k + n → p i = false) ∨ ∃ i : Nat, firstF p n k = i ∧ k ≤ i ∧ i < k + n ∧ p i = true ∧ ∀ j, k ≤ j → j < i → p j = false
  | 0, k => .inl ⟨rfl, fun i h1 h2 => by omega⟩
  | n + 1, k => by
    rw [firstF]
    cases hp : p k with
    | true => exact .inr ⟨k, by simp, by omega, by omega, hp, fun j h1 h2 => by omega⟩
    | false =>
      simp only [Bool.false_eq_true, if_false]
      rcases firstF_spec p n (k + 1) with ⟨h1, h2⟩ | ⟨i, h1, h2, h3, h4, h5⟩
      · refine .inl ⟨h1, fun i hi hn => ?_⟩
        by_cases e : i = k
        · rw [e]; exact hp
        · exact h2 i (by omega) (by omega)
      · refine .inr ⟨i, h1, by omega, by omega, h4, fun j hj hji => ?_⟩
        by_cases e : j = k
        · rw [e]; exact hp
        · exact h5 j (by omega) hji
theorem alF_cases (t : List Nd) (list : List St) (who : Int) : (alF t list who = -1 ∧ ∀ i, i < list.length → fltB t list who i = false) ∨
    ∃ i : Nat, alF t list who = i ∧ i < list.length ∧ fltB t list who i = true ∧ ∀ j, j < i → fltB t list who j = false := by
  rcases firstF_spec (fltB t list who) list.length 0 with ⟨h1, h2⟩ | ⟨i, h1, _, h3, h4, h5⟩
  · exact .inl ⟨h1, fun i hi => h2 i (by omega) (by omega)⟩
  · exact .inr ⟨i, h1, by omega, h4, fun j hj => h5 j (by omega) hj⟩
theorem alF_hit {t : List Nd} {list : List St} {who : Int} {i : Nat} (hi : i < list.length) (h : fltB t list who i = true) (hb : ∀ j, j < i → fltB t list who j = false) : alF t list who = i := by
  rcases alF_cases t list who with ⟨_, h2⟩ | ⟨k, h1, _, h3, h4⟩
  · rw [h2 i hi] at h; cases h
  · rw [h1]
    have : k = i := by
      rcases Nat.lt_trichotomy k i with e | e | e
      · rw [hb k e] at h3; cases h3
      · exact e
      · rw [h4 i e] at h; cases h
    rw [this]
theorem alF_none {t : List Nd} {list : List St} {who : Int} (hb : ∀ j, j < list.length → fltB t list who j = false) : alF t list who = -1 := by
  rcases alF_cases t list who with ⟨h, _⟩ | ⟨k, _, h2, h3, _⟩
  · exact h
  · rw [hb k h2] at h3; cases h3
theorem fltB_at {t : List Nd} {list : List St} {who : Int} {i : Nat} {s : St} {m : List Lk} (hs : list[i]? = some s) (hm : stepsF (list.take i) [] = some m) : fltB t list who i = true ↔ Flt t m (hadF (list.take i) who) who s := by
  rw [fltB_iff]
  constructor
  · rintro ⟨s', m', h1, h2, h3⟩
    rw [hs] at h1; injection h1 with h1; subst h1
    rw [hm] at h2; injection h2 with h2; subst h2
    exact h3
  · exact fun h => ⟨s, m, hs, hm, h⟩
theorem fltB_t {t : List Nd} {list : List St} {who : Int} {i : Nat} {s : St} {m : List Lk} (hs : list[i]? = some s) (hm : stepsF (list.take i) [] = some m) (h : Flt t m (hadF (list.take i) who) who s) : fltB t list who i = true := (fltB_at hs hm).2 h
theorem fltB_f {t : List Nd} {list : List St} {who : Int} {i : Nat} {s : St} {m : List Lk} (hs : list[i]? = some s) (hm : stepsF (list.take i) [] = some m) (h : ¬ Flt t m (hadF (list.take i) who) who s) : fltB t list who i = false := by
  cases e : fltB t list who i with
  | false => rfl
  | true => exact absurd ((fltB_at hs hm).1 e) h
theorem fltB_pre {t : List Nd} {a b : List St} {who : Int} {i : Nat} (hi : i < a.length) : fltB t (a ++ b) who i = fltB t a who i := by
  unfold fltB
  rw [List.getElem?_append_left hi, List.take_append_of_le_length (by omega)]
theorem fltB_take {t : List Nd} {list : List St} {who : Int} {i k : Nat} (hi : i < k) (hk : k ≤ list.length) : fltB t (list.take k) who i = fltB t list who i := by
  conv => rhs; rw [← List.take_append_drop k list]
  rw [fltB_pre (by rw [List.length_take]; omega)]
theorem fltB_takes {t : List Nd} {list : List St} {who : Int} {i : Nat} (h : fltB t list who i = true) : ∃ s, list[i]? = some s ∧ Takes s who := by
  rw [fltB_iff] at h
  obtain ⟨s, m, h1, _, h3⟩ := h
  exact ⟨s, h1, h3.1⟩

theorem had_snoc {list : List St} {k : Nat} {s : St} (hs : list[k]? = some s) (who : Int) : hadF (list.take (k + 1)) who = hadF (list.take k) who ++ if Takes s who then [s.node] else [] := by
  unfold hadF
  rw [pick_snoc hs]
  by_cases h : Takes s who
  · rw [if_pos (decide_eq_true h), if_pos h]
  · rw [if_neg (by rw [decide_eq_false h]; simp), if_neg h]
theorem had_mem {list : List St} {who n : Int} : n ∈ hadF list who ↔ ∃ (i : Nat) (s : St), list[i]? = some s ∧ Takes s who ∧ s.node = n := by
  unfold hadF
  rw [pick_mem]
  constructor
  · rintro ⟨i, x, h1, h2, h3⟩; exact ⟨i, x, h1, of_decide_eq_true h2, h3⟩
  · rintro ⟨i, x, h1, h2, h3⟩; exact ⟨i, x, h1, decide_eq_true h2, h3⟩
theorem had_len (list : List St) (who : Int) : (hadF list who).length ≤ list.length := pick_len list 0

/-- The nodes that a transaction holds, as the reference keeps them. -/
def hasL (who : Int) : List St → List Int → List Int
  | [], a => a
  | s :: r, a => hasL who r (if s.who = who then (if s.free = true then a.filter (fun n => decide (n ≠ s.node)) else a ++ [s.node]) else a)
def hasF (list : List St) (who : Int) : List Int := hasL who list []
theorem hasL_app (who : Int) : ∀ (a b : List St) (z : List Int), hasL who (a ++ b) z = hasL who b (hasL who a z)
  | [], b, z => rfl
  | s :: a, b, z => by rw [List.cons_append, hasL, hasL, hasL_app who a b]
theorem has_snoc {list : List St} {k : Nat} {s : St} (hs : list[k]? = some s) (who : Int) : hasF (list.take (k + 1)) who = if s.who = who then (if s.free = true then (hasF (list.take k) who).filter (fun n => decide (n ≠ s.node)) else hasF (list.take k) who ++ [s.node]) else hasF (list.take k) who := by
  unfold hasF
  rw [show list.take (k + 1) = list.take k ++ [s] by rw [List.take_add_one, hs]; rfl, hasL_app]
  rfl
theorem hasL_len (who : Int) : ∀ (list : List St) (a : List Int), (hasL who list a).length ≤ a.length + list.length
  | [], a => by simp [hasL]
  | s :: r, a => by
    rw [hasL]
    refine Nat.le_trans (hasL_len who r _) ?_
    have := List.length_filter_le (fun n => decide (n ≠ s.node)) a
    split
    · split <;> simp at this ⊢ <;> omega
    · simp; try omega
theorem has_len (list : List St) (who : Int) : (hasF list who).length ≤ list.length := by unfold hasF; simpa using hasL_len who list []
/-- What a step does to what a transaction holds. -/
theorem doF_held {l l' : List Lk} {s : St} (h : VTb l) (hd : doF l s = some l') (a b : Int) : heldF l' a b = if a = s.who ∧ b = s.node then (if s.free = true then 0 else joinF (heldF l s.who s.node) s.mode) else heldF l a b := by
  unfold doF at hd
  split at hd
  · rename_i hf
    split at hd
    · injection hd with hd
      subst hd
      rw [dropF_held h, if_pos hf]
    · cases hd
  · rename_i hf
    obtain ⟨_, ha, _, rfl⟩ := takeF_some hd
    rw [grantF_held _ _ _ _ ha.isM, if_neg hf]
theorem doF_mode {l l' : List Lk} {s : St} (hd : doF l s = some l') (hf : ¬ s.free = true) : 1 ≤ s.mode ∧ s.mode ≤ 5 := by
  unfold doF at hd
  rw [if_neg hf] at hd
  exact (takeF_some hd).2.1.2.2
theorem hasL_held (who : Int) : ∀ (list : List St) (l m : List Lk) (a : List Int), VTb l → stepsF list l = some m → (∀ n, heldF l who n ≠ 0 ↔ n ∈ a) → ∀ n, heldF m who n ≠ 0 ↔ n ∈ hasL who list a
  | [], l, m, a, _, h, ha => by injection h with h; subst h; exact ha
  | s :: r, l, m, a, hv, h, ha => by
    rw [stepsF] at h
    cases hd : doF l s with
    | none => rw [hd] at h; cases h
    | some l' =>
      rw [hd] at h
      have hv' := (doF_ok hv hd).1
      rw [hasL]
      refine hasL_held who r l' m _ hv' h fun n => ?_
      rw [doF_held hv hd]
      by_cases hw : s.who = who
      · rw [if_pos hw]
        by_cases hf : s.free = true
        · rw [if_pos hf, if_pos hf, List.mem_filter, decide_eq_true_iff, ← ha n]
          by_cases hn : n = s.node
          · rw [if_pos ⟨hw.symm, hn⟩]; simp [hn]
          · rw [if_neg fun e => hn e.2]; simp [hn]
        · rw [if_neg hf, if_neg hf, List.mem_append, ← ha n]
          by_cases hn : n = s.node
          · rw [if_pos ⟨hw.symm, hn⟩]
            have := doF_mode hd hf
            have hj := joinF_pos (heldF_isM hv s.who s.node) (show IsM s.mode from ⟨by omega, this.2⟩) this.1
            simp [hn]; omega
          · rw [if_neg fun e => hn e.2]; simp [hn]
      · rw [if_neg hw, if_neg fun e => hw e.1.symm]; exact ha n
theorem has_held {list : List St} {m : List Lk} (h : stepsF list [] = some m) (who n : Int) : heldF m who n ≠ 0 ↔ n ∈ hasF list who :=
  hasL_held who list [] m [] VTb_nil h (fun n => by simp [heldF]) n
/-- Where all locks of a transaction are for writing, it holds them so. -/
theorem stepsF_w {who : Int} : ∀ (list : List St) (l m : List Lk), VTb l → stepsF list l = some m → (∀ s ∈ list, Takes s who → s.mode = 5) → (∀ n, heldF l who n ≠ 0 → heldF l who n = 5) → ∀ n, heldF m who n ≠ 0 → heldF m who n = 5
  | [], l, m, _, h, _, ha => by injection h with h; subst h; exact ha
  | s :: r, l, m, hv, h, hw, ha => by
    rw [stepsF] at h
    cases hd : doF l s with
    | none => rw [hd] at h; cases h
    | some l' =>
      rw [hd] at h
      refine stepsF_w r l' m (doF_ok hv hd).1 h (fun x hx => hw x (List.mem_cons_of_mem _ hx)) fun n => ?_
      rw [doF_held hv hd]
      by_cases hc : who = s.who ∧ n = s.node
      · rw [if_pos hc]
        by_cases hf : s.free = true
        · rw [if_pos hf]; exact fun e => absurd rfl e
        · rw [if_neg hf, hw s (List.mem_cons_self ..) ⟨hc.1.symm, by simpa using hf⟩]
          intro _
          exact all6 (p := fun h => joinF h 5 = 5) (by decide) _ (heldF_isM hv _ _)
      · rw [if_neg hc]; exact ha n
/-- All go along the tree. -/
def GA (t : List Nd) (list : List St) : Prop := VT t ∧ VS list ∧ ∀ who : Int, 0 ≤ who → who ≤ 3 → alF t list who = -1
theorem GA.nil {t : List Nd} (h : VT t) : GA t [] := ⟨h, VS_nil, fun _ _ _ => rfl⟩
theorem alF_take {t : List Nd} {list : List St} {who : Int} {k : Nat} (hk : k ≤ list.length) (h : ∀ j, j < k → fltB t list who j = false) : alF t (list.take k) who = -1 :=
  alF_none fun j hj => by
    rw [List.length_take] at hj
    rw [fltB_take (by omega) hk]; exact h j (by omega)
theorem alF_take_hit {t : List Nd} {list : List St} {who : Int} {k n : Nat} (hk : k ≤ list.length) (hn : n < k) (ht : fltB t list who n = true) (h : ∀ j, j < n → fltB t list who j = false) : alF t (list.take k) who = n :=
  alF_hit (by rw [List.length_take]; omega) (by rw [fltB_take hn hk]; exact ht) fun j hj => by rw [fltB_take (by omega) hk]; exact h j hj
theorem GA.take {t : List Nd} {list : List St} (h : GA t list) (k : Nat) : GA t (list.take k) := by
  refine ⟨h.1, h.2.1.take k, fun who h0 h3 => ?_⟩
  rcases alF_cases t list who with ⟨_, h2⟩ | ⟨i, h1, _⟩
  · by_cases hk : k ≤ list.length
    · exact alF_take hk fun j hj => h2 j (by omega)
    · rw [List.take_of_length_le (by omega)]; exact h.2.2 who h0 h3
  · rw [h.2.2 who h0 h3] at h1; omega
end Go.Proofs.YtcefgabdffipgaaDoor
