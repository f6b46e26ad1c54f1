/- Paths as texts, in plain words: the text of a node, and the node of a text. -/
import Derived.Test.YtmnlelpfbnagpaaGrainP
namespace Go.Proofs.Ytmnlelpfbnagpaa
open Go.RowKit

def Kid (x : Nd) (p : Int) (s : List UInt8) : Prop := x.par = p ∧ x.name.toList = s
theorem kidF_spec (p : Int) (s : ByteArray) : ∀ (l : List Nd) (i : Nat), (kidF l p s i = -1 ∧ ∀ x ∈ l, ¬ Kid x p s.toList) ∨
    ∃ (j : Nat) (x : Nd), kidF l p s i = ((i + j : Nat) : Int) ∧ l[j]? = some x ∧ Kid x p s.toList ∧ ∀ (k : Nat) (y : Nd), k < j → l[k]? = some y → ¬ Kid y p s.toList
  | [], i => .inl ⟨rfl, fun x hx => by cases hx⟩
  | x :: r, i => by
    rw [kidF]
    by_cases hc : x.par = p ∧ (x.name.toList == s.toList) = true
    · rw [if_pos hc]
      exact .inr ⟨0, x, rfl, rfl, ⟨hc.1, by simpa using hc.2⟩, fun k y hk => by omega⟩
    · rw [if_neg hc]
      have hn : ¬ Kid x p s.toList := fun h => hc ⟨h.1, by simpa using h.2⟩
      rcases kidF_spec p s r (i + 1) with ⟨h1, h2⟩ | ⟨j, y, h1, h2, h3, h4⟩
      · exact .inl ⟨h1, fun y hy => (List.mem_cons.1 hy).elim (fun e => e ▸ hn) (h2 y)⟩
      · refine .inr ⟨j + 1, y, by rw [h1]; congr 1; omega, h2, h3, fun k z hk hz => ?_⟩
        cases k with
        | zero => simp at hz; subst hz; exact hn
        | succ k => exact h4 k z (by omega) hz
/-- The node with a Parent and a name is the only one. -/
theorem kid_only {t : List Nd} (h : VT t) {k : Nat} {x : Nd} (hx : t[k]? = some x) (hk : 0 < k) {s : ByteArray} (hs : x.name.toList = s.toList) : kidF t x.par s 0 = k := by
  rcases kidF_spec x.par s t 0 with ⟨_, h2⟩ | ⟨j, y, h1, h2, h3, h4⟩
  · exact absurd ⟨rfl, hs⟩ (h2 x (List.mem_of_getElem? hx))
  · rw [h1, Nat.zero_add]
    have hlk := (List.getElem?_eq_some_iff.1 hx).1
    rcases Nat.lt_trichotomy j k with e | e | e
    · have ho := (h.2.2 k x hlk hx).2.2.2 hk
      rcases kidF_spec x.par x.name (t.take k) 0 with ⟨_, g2⟩ | ⟨j', y', g1, _⟩
      · exact absurd ⟨h3.1, h3.2.trans hs.symm⟩ (g2 y (List.mem_of_getElem? (i := j) (by rw [List.getElem?_take, if_pos e]; exact h2)))
      · have := ho.2.2.2.1; rw [g1] at this; omega
    · rw [e]
    · exact absurd ⟨rfl, hs⟩ (h4 k x e hx)

/-- The name of a node. -/
def nmL (t : List Nd) (n : Int) : List UInt8 := match t[n.toNat]? with
  | some x => x.name.toList
  | none => []
/-- The text below the top. -/
def txL (t : List Nd) (a : Int) : List UInt8 := ((pathL t a).drop 1).flatMap fun n => 47 :: nmL t n
def ptL (t : List Nd) (a : Int) : List UInt8 := if a = 0 then [47] else txL t a
theorem pathL_top {t : List Nd} (h : VT t) : pathL t 0 = [0] := by
  have h1 : 0 < t.length := h.1
  have hx : t[0]? = some t[0] := List.getElem?_eq_getElem h1
  have := upI_step h.desc hx
  unfold pathL
  rw [show ((0 : Nat) : Int) = 0 from rfl] at this
  rw [this, h.par0 hx, upI_neg (by omega)]
  rfl
theorem pathL_step {t : List Nd} (h : VT t) {k : Nat} {x : Nd} (hx : t[k]? = some x) : pathL t k = pathL t x.par ++ [(k : Int)] := by
  unfold pathL
  rw [upI_step h.desc hx, List.reverse_cons]
theorem txL_top {t : List Nd} (h : VT t) : txL t 0 = [] := by unfold txL; rw [pathL_top h]; rfl
theorem txL_step {t : List Nd} (h : VT t) {k : Nat} {x : Nd} (hx : t[k]? = some x) (hk : 0 < k) : txL t k = txL t x.par ++ 47 :: x.name.toList := by
  have hp := h.parp hx hk
  have hlk := (List.getElem?_eq_some_iff.1 hx).1
  have hl := (IsNd.path_len (t := t) (a := x.par) ⟨h, hp.1, by omega⟩).2
  unfold txL
  rw [pathL_step h hx, List.drop_append_of_le_length hl, List.flatMap_append]
  congr 1
  have : nmL t k = x.name.toList := by unfold nmL; rw [show ((k : Int)).toNat = k by omega, hx]
  simp [this]
theorem txL_cons {t : List Nd} (h : VT t) {k : Nat} (hk : 0 < k) (hl : k < t.length) : ∃ r, txL t k = 47 :: r ∧ r ≠ [] := by
  have hx : t[k]? = some t[k] := List.getElem?_eq_getElem hl
  have hst := txL_step h hx hk
  generalize t[k] = x at hx hst
  have hp := h.parp hx hk
  have hnm : x.name.toList ≠ [] := by
    have := ((h.2.2 k x hl hx).2.2.2 hk).2.2.1
    intro e
    have hs : x.name.size = 0 := by
      have h1 : x.name.toList.length = x.name.size := by rw [Go.ByteArray.toList_eq]; simp
      rw [e] at h1; exact h1.symm
    simp [nmOk, hs] at this
  by_cases h0 : x.par = 0
  · rw [h0, txL_top h, List.nil_append] at hst
    exact ⟨_, hst, hnm⟩
  · obtain ⟨j, hj⟩ := Int.eq_ofNat_of_zero_le hp.1
    rw [hj] at hst hp h0
    obtain ⟨r, hr, _⟩ := txL_cons h (k := j) (by omega) (by omega)
    rw [hr] at hst
    exact ⟨r ++ 47 :: x.name.toList, hst, by simp⟩
termination_by k

/-- The parts of a text between slashes. -/
def pcs : List UInt8 → List (List UInt8)
  | [] => [[]]
  | c :: r => if c = 47 then [] :: pcs r else match pcs r with
    | [] => [[c]]
    | p :: ps => (c :: p) :: ps
theorem pcs_ne : ∀ r : List UInt8, pcs r ≠ []
  | [] => by simp [pcs]
  | c :: r => by
    rw [pcs]
    split
    · simp
    · split <;> simp
theorem pcs_one : ∀ r : List UInt8, (∀ c ∈ r, c ≠ 47) → pcs r = [r]
  | [], _ => rfl
  | c :: r, h => by
    rw [pcs, if_neg (h c (List.mem_cons_self ..)), pcs_one r fun d hd => h d (List.mem_cons_of_mem _ hd)]
theorem pcs_app : ∀ x y : List UInt8, pcs (x ++ 47 :: y) = pcs x ++ pcs y
  | [], y => by simp [pcs]
  | c :: x, y => by
    have ih := pcs_app x y
    rw [List.cons_append, pcs, pcs]
    by_cases hc : c = 47
    · rw [if_pos hc, if_pos hc, ih]; rfl
    · rw [if_neg hc, if_neg hc, ih]
      have := pcs_ne x
      cases hp : pcs x with
      | nil => exact absurd hp this
      | cons p ps => rfl
theorem pcs_head (r : List UInt8) : pcs r = r.takeWhile (fun c => c != 47) :: (match r.dropWhile (fun c => c != 47) with | [] => [] | _ :: r' => pcs r') := by
  induction r with
  | nil => rfl
  | cons c r ih =>
    rw [pcs]
    by_cases hc : c = 47
    · rw [if_pos hc]; subst hc; rfl
    · rw [if_neg hc, ih]
      have : (c != 47) = true := by simpa using hc
      simp [this]
def joinP (ps : List (List UInt8)) : List UInt8 := ps.flatMap fun p => 47 :: p
theorem joinP_pcs : ∀ r : List UInt8, joinP (pcs r) = 47 :: r
  | [] => rfl
  | c :: r => by
    have ih := joinP_pcs r
    rw [pcs]
    by_cases hc : c = 47
    · rw [if_pos hc]; subst hc
      show 47 :: joinP (pcs r) = _
      rw [ih]
    · rw [if_neg hc]
      cases hp : pcs r with
      | nil => exact absurd hp (pcs_ne r)
      | cons p ps =>
        rw [hp] at ih
        have h2 : joinP (p :: ps) = 47 :: (p ++ joinP ps) := rfl
        rw [h2] at ih
        injection ih with _ ih
        show 47 :: (c :: p ++ joinP ps) = _
        rw [List.cons_append, ih]
/-- Down along the parts. -/
def dnP (t : List Nd) : Int → List (List UInt8) → Int
  | a, [] => a
  | a, p :: ps => if kidF t a ⟨p.toArray⟩ 0 < 0 then -1 else dnP t (kidF t a ⟨p.toArray⟩ 0) ps
theorem ba_list (p : List UInt8) : (⟨p.toArray⟩ : ByteArray).toList = p := by rw [Go.ByteArray.toList_mk]
theorem dnP_app (t : List Nd) : ∀ (ps qs : List (List UInt8)) (a : Int), 0 ≤ dnP t a ps → 0 ≤ a → dnP t a (ps ++ qs) = dnP t (dnP t a ps) qs
  | [], qs, a, _, _ => rfl
  | p :: ps, qs, a, h, ha => by
    rw [dnP] at h
    rw [List.cons_append, dnP, dnP]
    split at h
    · omega
    · rename_i hk
      rw [if_neg hk, if_neg hk]
      exact dnP_app t ps qs _ h (by omega)
theorem dnP_sound {t : List Nd} (h : VT t) : ∀ (ps : List (List UInt8)) (a : Int), IsNd t a → 0 ≤ dnP t a ps → IsNd t (dnP t a ps) ∧ txL t (dnP t a ps) = txL t a ++ joinP ps ∧ (ps ≠ [] → 0 < dnP t a ps)
  | [], a, ha, _ => ⟨ha, by simp [dnP, joinP], fun e => absurd rfl e⟩
  | p :: ps, a, ha, hd => by
    rw [dnP] at hd ⊢
    split at hd
    · omega
    · rename_i hk
      rw [if_neg hk]
      rcases kidF_spec a ⟨p.toArray⟩ t 0 with ⟨h1, _⟩ | ⟨j, x, h1, h2, h3, _⟩
      · rw [h1] at hk; omega
      · rw [Nat.zero_add] at h1
        rw [h1] at hd ⊢
        have hlj := (List.getElem?_eq_some_iff.1 h2).1
        have hj0 : 0 < j := by
          rcases Nat.eq_zero_or_pos j with e | e
          · subst e
            have := h.par0 h2
            have := h3.1
            have := ha.2.1
            omega
          · exact e
        obtain ⟨g1, g2, g3⟩ := dnP_sound h ps (j : Int) ⟨h, by omega, by omega⟩ hd
        refine ⟨g1, ?_, fun _ => ?_⟩
        · rw [g2, txL_step h h2 hj0, h3.1, h3.2, ba_list, List.append_assoc]
          rfl
        · cases ps with
          | nil => show 0 < ((j : Nat) : Int); omega
          | cons q qs => exact g3 (by simp)
theorem noslash {s : ByteArray} (h : nmOk s = true) : ∀ c ∈ s.toList, c ≠ 47 := by
  intro c hc e
  have h3 : s.data.toList.all chOk = true := by
    simp only [nmOk, Bool.and_eq_true] at h
    exact h.2
  have hc' : c ∈ s.data.toList := by rw [← Go.ByteArray.toList_eq]; exact hc
  have := (List.all_eq_true.1 h3) c hc'
  rw [e] at this
  simp [chOk] at this
theorem dnP_full {t : List Nd} (h : VT t) {k : Nat} (hk : 0 < k) (hl : k < t.length) {r : List UInt8} (hr : txL t k = 47 :: r) : dnP t 0 (pcs r) = k := by
  have hx : t[k]? = some t[k] := List.getElem?_eq_getElem hl
  have hst := txL_step h hx hk
  generalize t[k] = x at hx hst
  have hp := h.parp hx hk
  have hns := noslash ((h.2.2 k x hl hx).2.2.2 hk).2.2.1
  have hkid : ∀ p : Int, x.par = p → dnP t p [x.name.toList] = k := by
    intro p e
    subst e
    have := kid_only h hx hk (s := ⟨x.name.toList.toArray⟩) (ba_list _).symm
    rw [dnP, this, if_neg (by omega)]
    rfl
  by_cases h0 : x.par = 0
  · rw [h0, txL_top h, List.nil_append, hr] at hst
    injection hst with _ hst
    rw [hst, pcs_one _ hns]
    exact hkid 0 h0
  · obtain ⟨j, hj⟩ := Int.eq_ofNat_of_zero_le hp.1
    have hjk : j < k := by omega
    obtain ⟨rj, hrj, _⟩ := txL_cons h (k := j) (by omega) (by omega)
    have ih := dnP_full h (k := j) (by omega) (by omega) hrj
    rw [hj, hrj, hr, List.cons_append] at hst
    injection hst with _ hst
    rw [hst, pcs_app, pcs_one _ hns, dnP_app t _ _ 0 (by rw [ih]; omega) (Int.le_refl _), ih]
    exact hkid j hj
termination_by k
open Classical in
/-- The node of a text. -/
noncomputable def rsF (t : List Nd) (s : List UInt8) : Int := if VT t then (match s with
  | [] => -1
  | c :: r => if c = 47 then (if r = [] then 0 else dnP t 0 (pcs r)) else -1) else -1
theorem rsF_no {t : List Nd} (h : ¬ VT t) (s : List UInt8) : rsF t s = -1 := by unfold rsF; rw [if_neg h]
theorem dnP_neg (t : List Nd) : ∀ (ps : List (List UInt8)) (a : Int), 0 ≤ a → dnP t a ps = -1 ∨ 0 ≤ dnP t a ps
  | [], a, h => .inr h
  | p :: ps, a, h => by
    rw [dnP]
    split
    · exact .inl rfl
    · exact dnP_neg t ps _ (by omega)
theorem rsF_cases {t : List Nd} (h : VT t) (s : List UInt8) : (rsF t s = -1 ∧ ∀ k : Nat, k < t.length → ptL t k ≠ s) ∨ ∃ k : Nat, rsF t s = k ∧ k < t.length ∧ ptL t k = s ∧ ∀ j : Nat, j < t.length → ptL t j = s → j = k := by
  have hfull : ∀ (k : Nat) (r : List UInt8), 0 < k → k < t.length → ptL t k = 47 :: r → r ≠ [] ∧ dnP t 0 (pcs r) = k := by
    intro k r hk hl hr
    unfold ptL at hr
    rw [if_neg (by omega)] at hr
    obtain ⟨r', h1, h2⟩ := txL_cons h hk hl
    rw [h1] at hr
    injection hr with _ hr
    subst hr
    exact ⟨h2, dnP_full h hk hl h1⟩
  have hpos : ∀ k : Nat, k < t.length → ∃ r, ptL t k = 47 :: r := by
    intro k hl
    by_cases h0 : k = 0
    · subst h0; exact ⟨[], rfl⟩
    · obtain ⟨r, h1, _⟩ := txL_cons h (k := k) (by omega) hl
      exact ⟨r, by unfold ptL; rw [if_neg (by omega)]; exact h1⟩
  unfold rsF
  rw [if_pos h]
  match s with
  | [] =>
    refine .inl ⟨rfl, fun k hl e => ?_⟩
    obtain ⟨r, hr⟩ := hpos k hl
    rw [hr] at e; cases e
  | c :: r =>
    simp only
    by_cases hc : c = 47
    · rw [if_pos hc]
      subst hc
      by_cases hr : r = []
      · rw [if_pos hr]
        subst hr
        refine .inr ⟨0, rfl, by have := h.1; omega, rfl, fun j hj e => ?_⟩
        rcases Nat.eq_zero_or_pos j with e0 | e0
        · exact e0
        · exact absurd rfl (hfull j [] e0 hj e).1
      · rw [if_neg hr]
        have hz : IsNd t 0 := ⟨h, Int.le_refl _, by have := h.1; omega⟩
        rcases dnP_neg t (pcs r) 0 (Int.le_refl _) with hd | hd
        · refine .inl ⟨hd, fun k hl e => ?_⟩
          rcases Nat.eq_zero_or_pos k with e0 | e0
          · subst e0
            have : ptL t 0 = [47] := rfl
            rw [show ((0 : Nat) : Int) = 0 from rfl, this] at e
            injection e with _ e
            exact hr e.symm
          · have := (hfull k r e0 hl e).2
            omega
        · obtain ⟨g1, g2, g3⟩ := dnP_sound h (pcs r) 0 hz hd
          have g3 := g3 (pcs_ne r)
          rw [txL_top h, List.nil_append, joinP_pcs] at g2
          obtain ⟨k, hk⟩ := Int.eq_ofNat_of_zero_le hd
          rw [hk] at g1 g2 g3 ⊢
          refine .inr ⟨k, rfl, by have := g1.2.2; omega, by unfold ptL; rw [if_neg (by omega)]; exact g2, fun j hj e => ?_⟩
          rcases Nat.eq_zero_or_pos j with e0 | e0
          · subst e0
            have : ptL t 0 = [47] := rfl
            rw [show ((0 : Nat) : Int) = 0 from rfl, this] at e
            injection e with _ e
            exact absurd e.symm hr
          · have := (hfull j r e0 hj e).2
            omega
    · rw [if_neg hc]
      refine .inl ⟨rfl, fun k hl e => ?_⟩
      obtain ⟨r', hr'⟩ := hpos k hl
      rw [hr'] at e
      injection e with e _
      exact hc e.symm
theorem rsF_path {t : List Nd} (h : VT t) {k : Nat} (hl : k < t.length) : rsF t (ptL t k) = k := by
  rcases rsF_cases h (ptL t k) with ⟨_, h2⟩ | ⟨j, h1, _, _, h4⟩
  · exact absurd rfl (h2 k hl)
  · rw [h1, h4 k hl rfl]
end Go.Proofs.Ytmnlelpfbnagpaa
