/- The plain side of redoing: what a node's value is in the end. -/
import Derived.Test.YtpklfhefhfkkhaaRedoP
namespace Go.Proofs.Ytpklfhefhfkkhaa

/-- The value that the last record that is done gives a node. -/
def lastF (l : List Rc) (n : Nat) : Option Int := match l with
  | [] => none
  | r :: rs => match lastF rs n with
    | some v => some v
    | none => if doneF (r :: rs) = true ∧ r.node.toNat = n then some r.val else none

def upd (x : Nd) (v : Option Int) : Nd := ⟨x.par, x.name, v.getD x.val⟩
theorem upd_none (x : Nd) : upd x none = x := rfl

theorem setV_get (t : List Nd) (k n : Nat) (v : Int) : (setV t k v)[n]? = (t[n]?).map fun x => if k = n then ⟨x.par, x.name, v⟩ else x := by
  unfold setV
  split
  · rename_i x hx
    rw [List.getElem?_set]
    by_cases h : k = n
    · subst h
      obtain ⟨hk, rfl⟩ := List.getElem?_eq_some_iff.1 hx
      simp [hk]
    · simp [h]
  · rename_i hx
    by_cases h : k = n
    · subst h; simp [hx]
    · simp [h]

theorem redoL_get (l : List Rc) : ∀ (t : List Nd) (n : Nat), (redoL l t)[n]? = (t[n]?).map fun x => upd x (lastF l n) := by
  induction l with
  | nil => intro t n; rw [redoL, lastF]; simp [upd_none]
  | cons r rs ih =>
    intro t n
    rw [redoL, ih, lastF]
    by_cases hd : doneF (r :: rs) = true
    · rw [if_pos hd, setV_get, Option.map_map]
      congr 1
      funext x
      simp only [Function.comp]
      cases hl : lastF rs n with
      | some v => by_cases h : r.node.toNat = n <;> simp [h, upd]
      | none => by_cases h : r.node.toNat = n <;> simp [h, hd, upd]
    · rw [if_neg hd]
      congr 1
      funext x
      cases hl : lastF rs n with
      | some v => rfl
      | none => simp [hd]

theorem redoL_twice (l : List Rc) (t : List Nd) : redoL l (redoL l t) = redoL l t := by
  apply List.ext_getElem?
  intro n
  rw [redoL_get, redoL_get, Option.map_map]
  congr 1
  funext x
  cases lastF l n <;> rfl

theorem lastF_range {n0 n : Nat} {l : List Rc} (h : ∀ r ∈ l, OkRec n0 r) {v : Int} (hv : lastF l n = some v) : -1000 ≤ v ∧ v ≤ 1000 := by
  induction l with
  | nil => simp [lastF] at hv
  | cons r rs ih =>
    rw [lastF] at hv
    cases hl : lastF rs n with
    | some u =>
      rw [hl] at hv
      simp only [Option.some.injEq] at hv
      subst hv
      exact ih (fun r hr => h r (List.mem_cons_of_mem _ hr)) hl
    | none =>
      rw [hl] at hv
      simp only at hv
      split at hv
      · injection hv with hv
        subst hv
        have := h r (List.mem_cons_self)
        exact ⟨this.2.2.2.2.1, this.2.2.2.2.2.1⟩
      · cases hv

/-- The same nodes, but for their values. -/
def Same (t t' : List Nd) : Prop := t.map (fun x => (x.par, x.name)) = t'.map (fun x => (x.par, x.name))
theorem Same.len {t t' : List Nd} (h : Same t t') : t.length = t'.length := by
  have := congrArg List.length h
  simpa using this
theorem Same.get {t t' : List Nd} (h : Same t t') {i : Nat} {y : Nd} (hy : t'[i]? = some y) : ∃ x, t[i]? = some x ∧ x.par = y.par ∧ x.name = y.name := by
  have e := congrArg (fun l => l[i]?) h
  simp only [List.getElem?_map, hy, Option.map_some] at e
  cases hx : t[i]? with
  | none => rw [hx] at e; simp at e
  | some x =>
    rw [hx] at e
    simp only [Option.map_some, Option.some.injEq, Prod.mk.injEq] at e
    exact ⟨x, rfl, e.1, e.2⟩
theorem Same.take {t t' : List Nd} (h : Same t t') (k : Nat) : Same (t.take k) (t'.take k) := by
  unfold Same at *
  rw [List.map_take, List.map_take, h]
theorem Same.symm {t t' : List Nd} (h : Same t t') : Same t' t := Eq.symm h
theorem Same.kid {l l' : List Nd} (h : Same l l') (p : Int) (s : ByteArray) : ∀ i, kidF l p s i = kidF l' p s i := by
  induction l generalizing l' with
  | nil =>
    intro i
    cases l' with
    | nil => rfl
    | cons y r => simp [Same] at h
  | cons x r ih =>
    intro i
    cases l' with
    | nil => simp [Same] at h
    | cons y r' =>
      simp only [Same, List.map_cons, List.cons.injEq, Prod.mk.injEq] at h
      rw [kidF, kidF, h.1.1, h.1.2, ih (l' := r') h.2]
theorem Same.depF {t t' : List Nd} (h : Same t t') : ∀ f i, depF t f i = depF t' f i := by
  intro f
  induction f with
  | zero => intro i; rfl
  | succ f ih =>
    intro i
    rw [Go.Proofs.Ytpklfhefhfkkhaa.depF, Go.Proofs.Ytpklfhefhfkkhaa.depF]
    cases hx : t[i]? with
    | none =>
      have : t'[i]? = none := by
        rw [List.getElem?_eq_none_iff] at hx ⊢
        rw [← h.len]; exact hx
      rw [this]
    | some x =>
      obtain ⟨y, hy, e1, _⟩ := h.symm.get hx
      rw [hy]
      simp only [← e1, ih]
theorem Same.dep {t t' : List Nd} (h : Same t t') (i : Nat) : dep t i = dep t' i := h.depF _ _
theorem VT_same {t t' : List Nd} (h : VT t) (hs : Same t t') (hv : ∀ (i : Nat) (y : Nd), t'[i]? = some y → -1000 ≤ y.val ∧ y.val ≤ 1000) : VT t' := by
  obtain ⟨h1, h2, h3⟩ := h
  refine ⟨by rw [← hs.len]; exact h1, by rw [← hs.len]; exact h2, fun i y hi hy => ?_⟩
  obtain ⟨x, hx, e1, e2⟩ := hs.get hy
  obtain ⟨_, _, o1, o2⟩ := h3 i x (by rw [hs.len]; exact hi) hx
  have := hv i y hy
  refine ⟨this.1, this.2, fun h0 => by rw [← e1, ← e2]; exact o1 h0, fun h0 => ?_⟩
  rw [← e1, ← e2, ← hs.dep, ← (hs.take i).kid]
  exact o2 h0
theorem redoL_same (l : List Rc) (t : List Nd) : Same t (redoL l t) := by
  unfold Same
  apply List.ext_getElem?
  intro n
  rw [List.getElem?_map, List.getElem?_map, redoL_get, Option.map_map]
  cases t[n]? <;> rfl
theorem VT_redoL {t : List Nd} {log : List Rc} (h : VL t log) : VT (redoL log t) := by
  refine VT_same h.1 (redoL_same log t) fun i y hy => ?_
  rw [redoL_get] at hy
  cases hx : t[i]? with
  | none => rw [hx] at hy; simp at hy
  | some x =>
    rw [hx] at hy
    simp only [Option.map_some, Option.some.injEq] at hy
    subst hy
    have hxv := h.1.2.2 i x (List.getElem?_eq_some_iff.1 hx).1 hx
    cases hl : lastF log i with
    | none => exact ⟨hxv.1, hxv.2.1⟩
    | some v => exact lastF_range (n0 := t.length) (fun r hr => by obtain ⟨j, hj⟩ := List.mem_iff_getElem?.1 hr; exact h.2.2 j r hj) hl
theorem VL_redo {t : List Nd} {log : List Rc} (h : VL t log) : VL (redoL log t) log := ⟨VT_redoL h, h.2.1, by rw [redoL_len]; exact h.2.2⟩
end Go.Proofs.Ytpklfhefhfkkhaa
