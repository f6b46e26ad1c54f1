/- The plain side of paths: the nodes from a node up to the top. -/
import Derived.Test.YtmnlelpfbnagpaaTreeP
namespace Go.Proofs.Ytmnlelpfbnagpaa

def upF (t : List Nd) : Nat → Int → List Int
  | 0, _ => []
  | f + 1, n => if n < 0 then [] else match t[n.toNat]? with
    | some x => n :: upF t f x.par
    | none => []
/-- The node n and all above it, the lowest first. -/
def upI (t : List Nd) (n : Int) : List Int := upF t (n.toNat + 1) n

theorem upF_eq {t : List Nd} (h : Desc t t.length) : ∀ (k : Nat) (n : Int), n.toNat ≤ k → ∀ f g, n.toNat < f → n.toNat < g → upF t f n = upF t g n := by
  intro k
  induction k with
  | zero =>
    intro n hn f g hf hg
    match f, g, hf, hg with
    | f + 1, g + 1, _, _ =>
      rw [upF, upF]
      by_cases h0 : n < 0
      · rw [if_pos h0, if_pos h0]
      · rw [if_neg h0, if_neg h0]
        cases hx : t[n.toNat]? with
        | none => rfl
        | some x =>
          have := h n.toNat x (List.getElem?_eq_some_iff.1 hx).1 hx
          have hp : x.par < 0 := by omega
          simp only
          congr 1
          cases f <;> cases g <;> simp [upF, hp]
  | succ k ih =>
    intro n hn f g hf hg
    match f, g, hf, hg with
    | f + 1, g + 1, hf, hg =>
      rw [upF, upF]
      by_cases h0 : n < 0
      · rw [if_pos h0, if_pos h0]
      · rw [if_neg h0, if_neg h0]
        cases hx : t[n.toNat]? with
        | none => rfl
        | some x =>
          have := h n.toNat x (List.getElem?_eq_some_iff.1 hx).1 hx
          simp only
          congr 1
          by_cases hp : x.par < 0
          · cases f <;> cases g <;> simp [upF, hp]
          · exact ih x.par (by omega) f g (by omega) (by omega)

theorem upI_neg {t : List Nd} {n : Int} (h : n < 0) : upI t n = [] := by
  unfold upI
  rw [upF, if_pos h]
theorem upI_step {t : List Nd} (h : Desc t t.length) {k : Nat} {x : Nd} (hx : t[k]? = some x) : upI t (k : Int) = (k : Int) :: upI t x.par := by
  have hk := (List.getElem?_eq_some_iff.1 hx).1
  have hp := h k x hk hx
  unfold upI
  rw [upF, if_neg (by omega)]
  simp only [Int.toNat_natCast, hx]
  congr 1
  by_cases h0 : x.par < 0
  · rw [upF, if_pos h0]
    cases k <;> simp [upF, h0]
  · exact upF_eq h x.par.toNat x.par (Nat.le_refl _) _ _ (by omega) (by omega)

theorem VT.desc {t : List Nd} (h : VT t) : Desc t t.length := h.2.2.desc
theorem VT.par0 {t : List Nd} (h : VT t) {x : Nd} (hx : t[0]? = some x) : x.par = -1 := (h.2.2 0 x (List.getElem?_eq_some_iff.1 hx).1 hx).2.2.1 rfl |>.1
theorem VT.parp {t : List Nd} (h : VT t) {k : Nat} {x : Nd} (hx : t[k]? = some x) (hk : 0 < k) : 0 ≤ x.par ∧ x.par < k := by
  have := (h.2.2 k x (List.getElem?_eq_some_iff.1 hx).1 hx).2.2.2 hk
  omega
theorem VT.parn {t : List Nd} (h : VT t) {k : Nat} {x : Nd} (hx : t[k]? = some x) : x.par < k := h.desc k x (List.getElem?_eq_some_iff.1 hx).1 hx
theorem VT.pargt {t : List Nd} (h : VT t) {k : Nat} {x : Nd} (hx : t[k]? = some x) : -1 ≤ x.par := by
  rcases Nat.eq_zero_or_pos k with rfl | hk
  · have := h.par0 hx; omega
  · have := h.parp hx hk; omega

/-- What is above is less. -/
theorem upI_le {t : List Nd} (h : Desc t t.length) : ∀ (k : Nat) (n : Int), n.toNat ≤ k → n < t.length → ∀ a ∈ upI t n, 0 ≤ a ∧ a ≤ n := by
  intro k
  induction k with
  | zero =>
    intro n hn hl a ha
    by_cases h0 : n < 0
    · rw [upI_neg h0] at ha; simp at ha
    · obtain ⟨j, rfl⟩ := Int.eq_ofNat_of_zero_le (show 0 ≤ n by omega)
      have hj : j = 0 := by omega
      subst hj
      have hx : t[0]? = some t[0] := List.getElem?_eq_getElem (by omega)
      have hp := h 0 _ (by omega) hx
      rw [upI_step h hx, upI_neg (by omega)] at ha
      simp at ha
      omega
  | succ k ih =>
    intro n hn hl a ha
    by_cases h0 : n < 0
    · rw [upI_neg h0] at ha; simp at ha
    · obtain ⟨j, rfl⟩ := Int.eq_ofNat_of_zero_le (show 0 ≤ n by omega)
      have hx : t[j]? = some t[j] := List.getElem?_eq_getElem (by omega)
      have hp := h j _ (by omega) hx
      rw [upI_step h hx] at ha
      rcases List.mem_cons.1 ha with rfl | ha
      · omega
      · have := ih _ (by omega) (by omega) a ha
        omega
theorem upI_lt {t : List Nd} (h : Desc t t.length) {n a : Int} (hl : n < t.length) (ha : a ∈ upI t n) : 0 ≤ a ∧ a ≤ n := upI_le h n.toNat n (Nat.le_refl _) hl a ha

/-- What is above something above is above. -/
theorem upI_trans {t : List Nd} (h : Desc t t.length) : ∀ (k : Nat) (n : Int), n.toNat ≤ k → n < t.length → ∀ a ∈ upI t n, ∃ pre, upI t n = pre ++ upI t a := by
  intro k
  induction k with
  | zero =>
    intro n hn hl a ha
    by_cases h0 : n < 0
    · rw [upI_neg h0] at ha; simp at ha
    · obtain ⟨j, rfl⟩ := Int.eq_ofNat_of_zero_le (show 0 ≤ n by omega)
      have hx : t[j]? = some t[j] := List.getElem?_eq_getElem (by omega)
      have := upI_lt h hl ha
      have e : a = (j : Int) := by omega
      subst e
      exact ⟨[], rfl⟩
  | succ k ih =>
    intro n hn hl a ha
    by_cases h0 : n < 0
    · rw [upI_neg h0] at ha; simp at ha
    · obtain ⟨j, rfl⟩ := Int.eq_ofNat_of_zero_le (show 0 ≤ n by omega)
      have hx : t[j]? = some t[j] := List.getElem?_eq_getElem (by omega)
      have hp := h j _ (by omega) hx
      have hst := upI_step h hx
      rw [hst] at ha ⊢
      rcases List.mem_cons.1 ha with rfl | ha
      · exact ⟨[], by rw [hst]; rfl⟩
      · obtain ⟨pre, e⟩ := ih _ (by omega) (by omega) a ha
        exact ⟨(j : Int) :: pre, by rw [e]; rfl⟩
theorem upI_suffix {t : List Nd} (h : Desc t t.length) {n a : Int} (hl : n < t.length) (ha : a ∈ upI t n) : ∃ pre, upI t n = pre ++ upI t a := upI_trans h n.toNat n (Nat.le_refl _) hl a ha
theorem upI_sub {t : List Nd} (h : Desc t t.length) {n a b : Int} (hl : n < t.length) (ha : a ∈ upI t n) (hb : b ∈ upI t a) : b ∈ upI t n := by
  obtain ⟨pre, e⟩ := upI_suffix h hl ha
  rw [e]
  exact List.mem_append_right _ hb
theorem upI_self {t : List Nd} (h : Desc t t.length) {k : Nat} (hk : k < t.length) : (k : Int) ∈ upI t k := by
  rw [upI_step h (List.getElem?_eq_getElem hk)]
  exact List.mem_cons_self

/-- Descending. -/
theorem upI_sorted {t : List Nd} (h : Desc t t.length) : ∀ (k : Nat) (n : Int), n.toNat ≤ k → n < t.length → (upI t n).Pairwise (· > ·) := by
  intro k
  induction k with
  | zero =>
    intro n hn hl
    by_cases h0 : n < 0
    · rw [upI_neg h0]; exact List.Pairwise.nil
    · obtain ⟨j, rfl⟩ := Int.eq_ofNat_of_zero_le (show 0 ≤ n by omega)
      have hj : j = 0 := by omega
      subst hj
      have hx : t[0]? = some t[0] := List.getElem?_eq_getElem (by omega)
      have hp := h 0 _ (by omega) hx
      rw [upI_step h hx, upI_neg (by omega)]
      simp
  | succ k ih =>
    intro n hn hl
    by_cases h0 : n < 0
    · rw [upI_neg h0]; exact List.Pairwise.nil
    · obtain ⟨j, rfl⟩ := Int.eq_ofNat_of_zero_le (show 0 ≤ n by omega)
      have hx : t[j]? = some t[j] := List.getElem?_eq_getElem (by omega)
      have hp := h j _ (by omega) hx
      rw [upI_step h hx, List.pairwise_cons]
      refine ⟨fun a ha => ?_, ih _ (by omega) (by omega)⟩
      have := upI_lt h (show (t[j]).par < t.length by omega) ha
      show a < _
      omega
theorem upI_desc {t : List Nd} (h : Desc t t.length) {n : Int} (hl : n < t.length) : (upI t n).Pairwise (· > ·) := upI_sorted h n.toNat n (Nat.le_refl _) hl

/-- Two above one: one is above the other. -/
theorem upI_chain {t : List Nd} (h : Desc t t.length) {n a b : Int} (hl : n < t.length) (ha : a ∈ upI t n) (hb : b ∈ upI t n) (hab : a ≤ b) : a ∈ upI t b := by
  obtain ⟨pre, e⟩ := upI_suffix h hl hb
  have hs := upI_desc h hl
  rw [e] at ha hs
  rcases List.mem_append.1 ha with hp | hp
  · have := upI_lt h hl hb
    obtain ⟨j, rfl⟩ := Int.eq_ofNat_of_zero_le this.1
    have hbb := upI_self h (k := j) (by omega)
    have := (List.pairwise_append.1 hs).2.2 a hp _ hbb
    have h2 : a > (j : Int) := this
    omega
  · exact hp

theorem upI_zero {t : List Nd} (h : VT t) : ∀ (k : Nat), k < t.length → (0 : Int) ∈ upI t k := by
  intro k
  induction k using Nat.strongRecOn with
  | _ k ih =>
    intro hk
    have hx : t[k]? = some t[k] := List.getElem?_eq_getElem hk
    rw [upI_step h.desc hx]
    rcases Nat.eq_zero_or_pos k with rfl | hp
    · exact List.mem_cons_self
    · have := h.parp hx hp
      obtain ⟨j, e⟩ := Int.eq_ofNat_of_zero_le this.1
      rw [e] at this ⊢
      exact List.mem_cons_of_mem _ (ih j (by omega) (by omega))
theorem upI_len {t : List Nd} (h : VT t) : ∀ (k : Nat), k < t.length → (upI t k).length = dep t k + 1 := by
  intro k
  induction k using Nat.strongRecOn with
  | _ k ih =>
    intro hk
    have hx : t[k]? = some t[k] := List.getElem?_eq_getElem hk
    rw [upI_step h.desc hx]
    rcases Nat.eq_zero_or_pos k with rfl | hp
    · rw [upI_neg (by have := h.par0 hx; omega), dep_top hx (by have := h.par0 hx; omega)]; rfl
    · have hpp := h.parp hx hp
      rw [dep_step h.desc hk hx hpp.1]
      obtain ⟨j, e⟩ := Int.eq_ofNat_of_zero_le hpp.1
      rw [e] at hpp ⊢
      rw [List.length_cons, ih j (by omega) (by omega)]
      simp
theorem upI_len5 {t : List Nd} (h : VT t) {k : Nat} (hk : k < t.length) : (upI t k).length ≤ 5 := by
  rw [upI_len h k hk]
  have := h.2.2.dep_le hk hk
  omega
end Go.Proofs.Ytmnlelpfbnagpaa
