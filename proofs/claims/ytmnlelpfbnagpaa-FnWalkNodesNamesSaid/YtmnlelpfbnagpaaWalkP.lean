/- Walks by names, in plain words: kids in the order of their names, and all that is below a node. -/
import Derived.Test.YtmnlelpfbnagpaaPathP
import Derived.Lib.Bytealg
namespace Go.Proofs.Ytmnlelpfbnagpaa
open Go.RowKit

/-! The order of names. -/
theorem cb_self : ∀ a : List UInt8, Lib.compareBytes a a = 0
  | [] => rfl
  | x :: r => by rw [Lib.compareBytes, if_neg (UInt8.lt_irrefl x), if_neg (UInt8.lt_irrefl x)]; exact cb_self r
theorem cb_zero : ∀ a b : List UInt8, Lib.compareBytes a b = 0 → a = b
  | [], [], _ => rfl
  | [], _ :: _, h => by simp [Lib.compareBytes] at h
  | _ :: _, [], h => by simp [Lib.compareBytes] at h
  | x :: r, y :: s, h => by
    rw [Lib.compareBytes] at h
    by_cases h1 : x < y
    · rw [if_pos h1] at h; omega
    · by_cases h2 : y < x
      · rw [if_neg h1, if_pos h2] at h; omega
      · rw [if_neg h1, if_neg h2] at h
        have e : x = y := by
          have := UInt8.le_antisymm (UInt8.not_lt.1 h2) (UInt8.not_lt.1 h1)
          exact this
        rw [e, cb_zero r s h]
theorem cb_anti : ∀ a b : List UInt8, Lib.compareBytes b a = - Lib.compareBytes a b
  | [], [] => rfl
  | [], _ :: _ => rfl
  | _ :: _, [] => rfl
  | x :: r, y :: s => by
    rw [Lib.compareBytes, Lib.compareBytes]
    by_cases h1 : x < y
    · rw [if_neg (UInt8.lt_asymm h1), if_pos h1, if_pos h1]; rfl
    · by_cases h2 : y < x
      · rw [if_pos h2, if_neg h1, if_pos h2]
      · rw [if_neg h2, if_neg h1, if_neg h1, if_neg h2, cb_anti r s]
theorem cb_range (a b : List UInt8) : Lib.compareBytes a b = -1 ∨ Lib.compareBytes a b = 0 ∨ Lib.compareBytes a b = 1 := by
  induction a generalizing b with
  | nil => cases b <;> simp [Lib.compareBytes]
  | cons x r ih =>
    cases b with
    | nil => simp [Lib.compareBytes]
    | cons y s =>
      rw [Lib.compareBytes]
      split
      · simp
      · split
        · simp
        · exact ih s
theorem cb_trans : ∀ a b c : List UInt8, Lib.compareBytes a b < 0 → Lib.compareBytes b c < 0 → Lib.compareBytes a c < 0
  | [], [], _, h, _ => by simp [Lib.compareBytes] at h
  | [], _ :: _, [], _, h => by simp [Lib.compareBytes] at h
  | [], _ :: _, _ :: _, _, _ => by simp [Lib.compareBytes]
  | _ :: _, [], _, h, _ => by simp [Lib.compareBytes] at h
  | _ :: _, _ :: _, [], _, h => by simp [Lib.compareBytes] at h
  | x :: r, y :: s, z :: q, h, k => by
    rw [Lib.compareBytes] at h k ⊢
    by_cases h1 : x < y
    · by_cases k1 : y < z
      · rw [if_pos (UInt8.lt_trans h1 k1)]; omega
      · by_cases k2 : z < y
        · rw [if_neg k1, if_pos k2] at k; omega
        · have e : y = z := UInt8.le_antisymm (UInt8.not_lt.1 k2) (UInt8.not_lt.1 k1)
          rw [← e, if_pos h1]; omega
    · by_cases h2 : y < x
      · rw [if_neg h1, if_pos h2] at h; omega
      · have e : x = y := UInt8.le_antisymm (UInt8.not_lt.1 h2) (UInt8.not_lt.1 h1)
        rw [if_neg h1, if_neg h2] at h
        subst e
        by_cases k1 : x < z
        · rw [if_pos k1]; omega
        · by_cases k2 : z < x
          · rw [if_neg k1, if_pos k2] at k; omega
          · rw [if_neg k1, if_neg k2] at k ⊢
            exact cb_trans r s q h k

/-! Kids. -/
def nlt (t : List Nd) (a b : Int) : Bool := decide (Lib.compareBytes (nmL t a) (nmL t b) < 0)
def parI (t : List Nd) (i : Int) : Int := match t[i.toNat]? with | some x => x.par | none => -2
def kidsF (t : List Nd) (a : Int) : List Int := ((List.range t.length).map fun (i : Nat) => (i : Int)).filter fun i => decide (parI t i = a)
def srtF (t : List Nd) (a : Int) : List Int := (kidsF t a).mergeSort fun x y => !(nlt t y x)
theorem kidsF_mem {t : List Nd} {a z : Int} : z ∈ kidsF t a ↔ ∃ (i : Nat) (x : Nd), z = i ∧ t[i]? = some x ∧ x.par = a := by
  unfold kidsF
  rw [List.mem_filter]
  constructor
  · rintro ⟨h1, h2⟩
    obtain ⟨i, hi, rfl⟩ := List.mem_map.1 h1
    have hil := List.mem_range.1 hi
    have hx : t[i]? = some t[i] := List.getElem?_eq_getElem hil
    have := of_decide_eq_true h2
    unfold parI at this
    rw [Int.toNat_natCast, hx] at this
    exact ⟨i, _, rfl, hx, this⟩
  · rintro ⟨i, x, rfl, hx, hp⟩
    refine ⟨List.mem_map.2 ⟨i, List.mem_range.2 (List.getElem?_eq_some_iff.1 hx).1, rfl⟩, decide_eq_true ?_⟩
    unfold parI
    rw [Int.toNat_natCast, hx]
    exact hp
theorem kidsF_nodup (t : List Nd) (a : Int) : (kidsF t a).Nodup := by
  unfold kidsF
  refine List.Pairwise.filter _ (List.Pairwise.map _ (fun x y (h : x ≠ y) (e : (x : Int) = y) => h (by omega)) List.nodup_range)
theorem kid_gt {t : List Nd} (h : VT t) {a z : Int} (ha : 0 ≤ a) (hz : z ∈ kidsF t a) : a < z ∧ z < t.length := by
  obtain ⟨i, x, rfl, hx, rfl⟩ := kidsF_mem.1 hz
  have := h.parn hx
  have := (List.getElem?_eq_some_iff.1 hx).1
  omega
/-- Kids of one node have different names. -/
theorem kid_names {t : List Nd} (h : VT t) {a x y : Int} (ha : 0 ≤ a) (hx : x ∈ kidsF t a) (hy : y ∈ kidsF t a) (e : nmL t x = nmL t y) : x = y := by
  obtain ⟨i, u, rfl, hu, hp⟩ := kidsF_mem.1 hx
  obtain ⟨j, v, rfl, hv, hq⟩ := kidsF_mem.1 hy
  have hi : 0 < i := by have := h.parn hu; omega
  have hj : 0 < j := by have := h.parn hv; omega
  unfold nmL at e
  rw [Int.toNat_natCast, Int.toNat_natCast, hu, hv] at e
  simp only at e
  have h1 := kid_only h hu hi (s := u.name) rfl
  have h2 := kid_only h hv hj (s := u.name) e.symm
  rw [hp] at h1
  rw [hq, h1] at h2
  exact h2
theorem nlt_total {t : List Nd} (h : VT t) {a x y : Int} (ha : 0 ≤ a) (hx : x ∈ kidsF t a) (hy : y ∈ kidsF t a) (h1 : nlt t x y = false) (h2 : nlt t y x = false) : x = y := by
  unfold nlt at h1 h2
  have h1 := of_decide_eq_false h1
  have h2 := of_decide_eq_false h2
  have := cb_anti (nmL t x) (nmL t y)
  exact kid_names h ha hx hy (cb_zero _ _ (by omega))
theorem nlt_trans {t : List Nd} {x y z : Int} (h1 : nlt t x y = true) (h2 : nlt t y z = true) : nlt t x z = true := by
  unfold nlt at *
  exact decide_eq_true (cb_trans _ _ _ (of_decide_eq_true h1) (of_decide_eq_true h2))
theorem nlt_irrefl {t : List Nd} {x : Int} : nlt t x x = false := by unfold nlt; rw [cb_self]; decide
theorem nlt_ntrans {t : List Nd} {x y z : Int} (h1 : nlt t y x = false) (h2 : nlt t z y = false) : nlt t z x = false := by
  cases h3 : nlt t z x with
  | false => rfl
  | true =>
    unfold nlt at *
    have h1 := of_decide_eq_false h1
    have h2 := of_decide_eq_false h2
    have h3 := of_decide_eq_true h3
    have a1 := cb_anti (nmL t x) (nmL t y)
    have a2 := cb_anti (nmL t y) (nmL t z)
    rcases Int.lt_or_eq_of_le (show Lib.compareBytes (nmL t x) (nmL t y) ≤ 0 by omega) with e | e
    · have := cb_trans _ _ _ h3 e
      omega
    · rw [cb_zero _ _ e] at h3
      omega
theorem srtF_perm (t : List Nd) (a : Int) : (srtF t a).Perm (kidsF t a) := List.mergeSort_perm _ _
theorem srtF_mem {t : List Nd} {a z : Int} : z ∈ srtF t a ↔ z ∈ kidsF t a := (srtF_perm t a).mem_iff
theorem srtF_sorted (t : List Nd) (a : Int) : (srtF t a).Pairwise fun x y => nlt t y x = false := by
  have h := List.pairwise_mergeSort (le := fun x y => !(nlt t y x)) (fun x y z h1 h2 => by
    simp only [Bool.not_eq_true'] at h1 h2 ⊢
    exact nlt_ntrans h1 h2) (fun x y => by
    cases h1 : nlt t y x with
    | false => simp
    | true =>
      cases h2 : nlt t x y with
      | false => simp
      | true =>
        have := nlt_trans h1 h2
        rw [nlt_irrefl] at this
        cases this) (kidsF t a)
  exact h.imp fun h => by simpa using h
/-- A row of the kids in the order of their names is THE row. -/
theorem srtF_only {t : List Nd} (h : VT t) {a : Int} (ha : 0 ≤ a) {l : List Int} (hp : l.Perm (kidsF t a)) (hs : l.Pairwise fun x y => nlt t y x = false) : l = srtF t a := by
  refine List.Perm.eq_of_pairwise (le := fun x y => nlt t y x = false) (fun x y hx hy h1 h2 => ?_) hs (srtF_sorted t a) (hp.trans (srtF_perm t a).symm)
  exact nlt_total h ha (hp.mem_iff.1 hx) (srtF_mem.1 hy) h2 h1

/-! All that is below a node. -/
def wkF (t : List Nd) : Nat → Int → List Int
  | 0, a => [a]
  | f + 1, a => a :: (srtF t a).flatMap (wkF t f)
def wkI (t : List Nd) (a : Int) : List Int := wkF t t.length a
theorem wkF_eq {t : List Nd} (h : VT t) : ∀ (n : Nat) (a : Int), 0 ≤ a → a < t.length → t.length - a.toNat ≤ n → ∀ f g, t.length - a.toNat ≤ f → t.length - a.toNat ≤ g → wkF t f a = wkF t g a
  | 0, a, h0, hl, hn, _, _, _, _ => by omega
  | n + 1, a, h0, hl, hn, 0, _, hf, _ => by omega
  | n + 1, a, h0, hl, hn, _ + 1, 0, _, hg => by omega
  | n + 1, a, h0, hl, hn, f + 1, g + 1, hf, hg => by
    rw [wkF, wkF]
    congr 1
    rw [List.flatMap_def, List.flatMap_def]
    congr 1
    refine List.map_congr_left fun z hz => ?_
    have := kid_gt h h0 (srtF_mem.1 hz)
    exact wkF_eq h n z (by omega) (by omega) (by omega) f g (by omega) (by omega)
theorem wkI_step {t : List Nd} (h : VT t) {a : Int} (h0 : 0 ≤ a) (hl : a < t.length) : wkI t a = a :: (srtF t a).flatMap (wkI t) := by
  unfold wkI
  obtain ⟨f, hf⟩ : ∃ f, t.length = f + 1 := ⟨t.length - 1, by omega⟩
  rw [wkF_eq h t.length a h0 hl (by omega) t.length (f + 2) (by omega) (by omega), wkF]
  congr 1
  rw [List.flatMap_def, List.flatMap_def]
  congr 1
  refine List.map_congr_left fun z hz => ?_
  have := kid_gt h h0 (srtF_mem.1 hz)
  exact wkF_eq h t.length z (by omega) (by omega) (by omega) _ _ (by omega) (by omega)
/-- Between a node and one above it there is a kid of the upper one. -/
theorem up_kid {t : List Nd} (h : VT t) {a : Int} (h0 : 0 ≤ a) : ∀ (n i : Nat), i ≤ n → i < t.length → a ∈ upI t i → a ≠ i → ∃ c ∈ kidsF t a, c ∈ upI t i := by
  intro n
  induction n with
  | zero =>
    intro i hn hl ha hne
    have := upI_lt h.desc (n := (i : Int)) (by omega) ha
    omega
  | succ n ih =>
    intro i hn hl ha hne
    have hx : t[i]? = some t[i] := List.getElem?_eq_getElem hl
    have hs := upI_step h.desc hx
    rw [hs] at ha
    rcases List.mem_cons.1 ha with e | ha
    · exact absurd e hne
    · by_cases e : t[i].par = a
      · exact ⟨i, kidsF_mem.2 ⟨i, _, rfl, hx, e⟩, upI_self h.desc hl⟩
      · have hpn : 0 ≤ t[i].par := Classical.byContradiction fun hc => by
          rw [upI_neg (by omega)] at ha
          cases ha
        have hlt := h.parn hx
        obtain ⟨q, hq⟩ := Int.eq_ofNat_of_zero_le hpn
        rw [hq] at ha e hs hlt
        obtain ⟨c, hc, hcu⟩ := ih q (by omega) (by omega) ha fun e' => e e'.symm
        exact ⟨c, hc, by rw [hs]; exact List.mem_cons_of_mem _ hcu⟩
theorem kid_up {t : List Nd} (h : VT t) {a c : Int} (h0 : 0 ≤ a) (hl : a < t.length) (hc : c ∈ kidsF t a) : a ∈ upI t c ∧ ∀ z ∈ upI t c, z = c ∨ z ∈ upI t a := by
  obtain ⟨i, x, rfl, hx, rfl⟩ := kidsF_mem.1 hc
  obtain ⟨q, hq⟩ := Int.eq_ofNat_of_zero_le h0
  rw [upI_step h.desc hx]
  refine ⟨List.mem_cons_of_mem _ ?_, fun z hz => List.mem_cons.1 hz⟩
  rw [hq]
  exact upI_self h.desc (by omega)
theorem wkI_mem {t : List Nd} (h : VT t) : ∀ (n : Nat) (a : Int), 0 ≤ a → a < t.length → t.length - a.toNat ≤ n → ∀ z, z ∈ wkI t a ↔ ∃ i : Nat, z = i ∧ i < t.length ∧ a ∈ upI t i
  | 0, a, h0, hl, hn, _ => by omega
  | n + 1, a, h0, hl, hn, z => by
    rw [wkI_step h h0 hl, List.mem_cons, List.mem_flatMap]
    constructor
    · rintro (rfl | ⟨c, hc, hz⟩)
      · obtain ⟨q, rfl⟩ := Int.eq_ofNat_of_zero_le h0
        exact ⟨q, rfl, by omega, upI_self h.desc (by omega)⟩
      · have hc' := srtF_mem.1 hc
        have hg := kid_gt h h0 hc'
        obtain ⟨i, rfl, hi, hu⟩ := (wkI_mem h n c (by omega) hg.2 (by omega) z).1 hz
        exact ⟨i, rfl, hi, upI_sub h.desc (by omega) hu (kid_up h h0 hl hc').1⟩
    · rintro ⟨i, rfl, hi, hu⟩
      by_cases e : a = i
      · exact .inl e.symm
      · obtain ⟨c, hc, hcu⟩ := up_kid h h0 i i (Nat.le_refl _) hi hu e
        have hg := kid_gt h h0 hc
        exact .inr ⟨c, srtF_mem.2 hc, (wkI_mem h n c (by omega) hg.2 (by omega) _).2 ⟨i, rfl, hi, hcu⟩⟩
theorem wk_mem {t : List Nd} (h : VT t) {a : Int} (h0 : 0 ≤ a) (hl : a < t.length) {z : Int} : z ∈ wkI t a ↔ ∃ i : Nat, z = i ∧ i < t.length ∧ a ∈ upI t i := wkI_mem h t.length a h0 hl (by omega) z
theorem wk_nodup {t : List Nd} (h : VT t) : ∀ (n : Nat) (a : Int), 0 ≤ a → a < t.length → t.length - a.toNat ≤ n → (wkI t a).Nodup
  | 0, a, h0, hl, hn => by omega
  | n + 1, a, h0, hl, hn => by
    rw [wkI_step h h0 hl, List.nodup_cons]
    refine ⟨fun hc => ?_, ?_⟩
    · obtain ⟨c, hc, hz⟩ := List.mem_flatMap.1 hc
      have hg := kid_gt h h0 (srtF_mem.1 hc)
      obtain ⟨i, e, hi, hu⟩ := (wk_mem h (by omega) hg.2).1 hz
      have := upI_lt h.desc (n := (i : Int)) (by omega) hu
      omega
    · unfold List.Nodup
      rw [List.pairwise_flatMap]
      refine ⟨fun c hc => ?_, ?_⟩
      · have hg := kid_gt h h0 (srtF_mem.1 hc)
        exact wk_nodup h n c (by omega) hg.2 (by omega)
      · have hnd : (srtF t a).Pairwise (fun x y => x ≠ y) := (srtF_perm t a).symm.pairwise (kidsF_nodup t a) fun h => h.symm
        refine hnd.imp_of_mem fun {c d} hc hd hne x hx y hy e => ?_
        subst e
        have hc' := srtF_mem.1 hc
        have hd' := srtF_mem.1 hd
        have gc := kid_gt h h0 hc'
        have gd := kid_gt h h0 hd'
        obtain ⟨i, rfl, hi, hu⟩ := (wk_mem h (by omega) gc.2).1 hx
        obtain ⟨j, e, _, hv⟩ := (wk_mem h (by omega) gd.2).1 hy
        obtain rfl : i = j := by omega
        have key : ∀ c d, c ∈ kidsF t a → d ∈ kidsF t a → c ∈ upI t i → d ∈ upI t i → c < d → False := fun c d hc hd hu hv hlt => by
          have gc := kid_gt h h0 hc
          have h1 := upI_chain h.desc (n := (i : Int)) (by omega) hu hv (by omega)
          rcases (kid_up h h0 hl hd).2 c h1 with e | h2
          · omega
          · have := upI_lt h.desc hl h2
            omega
        rcases Int.lt_trichotomy c d with hlt | e | hlt
        · exact key c d hc' hd' hu hv hlt
        · exact hne e
        · exact key d c hd' hc' hv hu hlt
theorem wk_nd {t : List Nd} (h : VT t) {a : Int} (h0 : 0 ≤ a) (hl : a < t.length) : (wkI t a).Nodup := wk_nodup h t.length a h0 hl (by omega)
/-- Walks are parts of walks. -/
theorem wk_part {t : List Nd} (h : VT t) : ∀ (n : Nat) (a : Int), 0 ≤ a → a < t.length → t.length - a.toNat ≤ n → ∀ x ∈ wkI t a, ∃ l1 l2, wkI t a = l1 ++ (wkI t x ++ l2)
  | 0, a, h0, hl, hn, _, _ => by omega
  | n + 1, a, h0, hl, hn, x, hx => by
    rw [wkI_step h h0 hl] at hx
    rcases List.mem_cons.1 hx with rfl | hx
    · exact ⟨[], [], by simp⟩
    · obtain ⟨c, hc, hz⟩ := List.mem_flatMap.1 hx
      have hg := kid_gt h h0 (srtF_mem.1 hc)
      obtain ⟨l1, l2, e⟩ := wk_part h n c (by omega) hg.2 (by omega) x hz
      obtain ⟨s1, s2, es⟩ := List.append_of_mem hc
      refine ⟨a :: (s1.flatMap (wkI t) ++ l1), l2 ++ s2.flatMap (wkI t), ?_⟩
      rw [wkI_step h h0 hl, es, List.flatMap_append, List.flatMap_cons, e]
      simp
theorem wk_cut {t : List Nd} (h : VT t) {a : Int} (h0 : 0 ≤ a) (hl : a < t.length) {k : Nat} {x : Int} (hx : (wkI t a)[k]? = some x) : ∃ l2, (wkI t a).drop k = wkI t x ++ l2 := by
  have hm := List.mem_of_getElem? hx
  obtain ⟨i, rfl, hi, _⟩ := (wk_mem h h0 hl).1 hm
  obtain ⟨l1, l2, e⟩ := wk_part h t.length a h0 hl (by omega) _ hm
  have hh : (wkI t a)[l1.length]? = some (i : Int) := by
    rw [e, List.getElem?_append_right (Nat.le_refl _), Nat.sub_self, wkI_step h (by omega) (by omega)]
    rfl
  have hk := (List.getElem?_inj (List.getElem?_eq_some_iff.1 hx).1 (wk_nd h h0 hl)).1 (hx.trans hh.symm)
  exact ⟨l2, by rw [e, hk, List.drop_left]⟩
theorem wk_head {t : List Nd} (h : VT t) {a : Int} (h0 : 0 ≤ a) (hl : a < t.length) : (wkI t a)[0]? = some a := by rw [wkI_step h h0 hl]; rfl
/-- As many as are below. -/
theorem wk_len {t : List Nd} (h : VT t) {a : Int} (h0 : 0 ≤ a) (hl : a < t.length) : (wkI t a).length = ((List.range t.length).filter fun (i : Nat) => decide (a ∈ upI t i)).length := by
  have hp : (wkI t a).Perm (((List.range t.length).filter fun (i : Nat) => decide (a ∈ upI t i)).map fun (i : Nat) => (i : Int)) := by
    refine (List.perm_ext_iff_of_nodup (wk_nd h h0 hl) ?_).2 fun z => ?_
    · exact List.Pairwise.map _ (fun x y (h : x ≠ y) (e : (x : Int) = y) => h (by omega)) (List.Pairwise.filter _ List.nodup_range)
    · rw [wk_mem h h0 hl, List.mem_map]
      constructor
      · rintro ⟨i, rfl, hi, hu⟩
        exact ⟨i, List.mem_filter.2 ⟨List.mem_range.2 hi, decide_eq_true hu⟩, rfl⟩
      · rintro ⟨i, hi, rfl⟩
        obtain ⟨h1, h2⟩ := List.mem_filter.1 hi
        exact ⟨i, rfl, List.mem_range.1 h1, of_decide_eq_true h2⟩
  rw [hp.length_eq, List.length_map]
end Go.Proofs.Ytmnlelpfbnagpaa
