/- Transactions that take nodes along a tree, each for itself: there is always one that comes first. -/
import Derived.Test.YtcefgabdffipgaaDoorAlongP
namespace Go.Proofs.YtcefgabdffipgaaDoor
open Go.RowKit

/-- What is asked of transactions that take nodes along a tree: a first node, the way up, and the order on the way. -/
structure Tree (S : Int → Int → Prop) (τ : Int → Int → Nat) (e : Int → Int) (up : Int → Int) : Prop where
  root : ∀ a n, S a n → e a ≤ n
  par : ∀ a n, S a n → n ≠ e a → S a (up n) ∧ up n < n
  ord : ∀ a b n, S a n → S b n → n ≠ e a → n ≠ e b → τ a n < τ b n → τ a (up n) < τ b (up n)
def Bef (S : Int → Int → Prop) (τ : Int → Int → Nat) (a b : Int) : Prop := ∃ n, S a n ∧ S b n ∧ τ a n < τ b n
section
variable {S : Int → Int → Prop} {τ : Int → Int → Nat} {e : Int → Int} {up : Int → Int}
theorem Bef.irr {a : Int} (h : Bef S τ a a) : False := let ⟨_, _, _, h⟩ := h; Nat.lt_irrefl _ h
theorem Tree.top (h : Tree S τ e up) {a b k : Int} (h1 : e a ≤ k) (h2 : e b ≤ k) (h3 : k = e a ∨ k = e b) : ∀ (d : Nat) (n : Int), (n - k).toNat ≤ d → S a n → S b n → τ a n < τ b n → S a k ∧ S b k ∧ τ a k < τ b k
  | d, n, hd, ha, hb, ht => by
    have r1 := h.root a n ha
    have r2 := h.root b n hb
    by_cases hk : n = k
    · subst hk; exact ⟨ha, hb, ht⟩
    · have hlt : k < n := by rcases h3 with e3 | e3 <;> omega
      have na : n ≠ e a := by omega
      have nb : n ≠ e b := by omega
      obtain ⟨pa, hp⟩ := h.par a n ha na
      obtain ⟨pb, _⟩ := h.par b n hb nb
      have r3 := h.root a _ pa
      have r4 := h.root b _ pb
      have hge : k ≤ up n := by rcases h3 with e3 | e3 <;> omega
      match d, hd with
      | 0, hd => omega
      | d + 1, hd => exact h.top h1 h2 h3 d (up n) (by omega) pa pb (h.ord a b n ha hb na nb ht)
theorem Tree.topB (h : Tree S τ e up) {a b k : Int} (h1 : e a ≤ k) (h2 : e b ≤ k) (h3 : k = e a ∨ k = e b) (hb : Bef S τ a b) : S a k ∧ S b k ∧ τ a k < τ b k := by
  obtain ⟨n, ha, hb, ht⟩ := hb
  exact h.top h1 h2 h3 _ n (Nat.le_refl _) ha hb ht
theorem ex_max (e : Int → Int) : ∀ L : List Int, L ≠ [] → ∃ T ∈ L, ∀ x ∈ L, e x ≤ e T
  | [], h => absurd rfl h
  | [x], _ => ⟨x, List.mem_cons_self .., fun y hy => by simp at hy; rw [hy]; exact Int.le_refl _⟩
  | x :: y :: r, _ => by
    obtain ⟨T, hT, hm⟩ := ex_max e (y :: r) (by simp)
    by_cases hc : e x ≤ e T
    · exact ⟨T, List.mem_cons_of_mem _ hT, fun z hz => (List.mem_cons.1 hz).elim (fun h => h ▸ hc) (hm z)⟩
    · exact ⟨x, List.mem_cons_self .., fun z hz => (List.mem_cons.1 hz).elim (fun h => h ▸ Int.le_refl _) (fun hz => by have := hm z hz; omega)⟩
theorem Tree.source (h : Tree S τ e up) : ∀ (m : Nat) (L : List Int), L.length ≤ m → L ≠ [] → ∃ s ∈ L, ∀ p ∈ L, ¬ Bef S τ p s
  | 0, L, hl, hn => absurd (List.eq_nil_of_length_eq_zero (by omega)) hn
  | m + 1, L, hl, hn => by
    obtain ⟨T, hT, hm⟩ := ex_max e L hn
    have hlen : (L.filter (fun x => decide (x ≠ T))).length < L.length := by
      rw [List.length_filter_lt_length_iff_exists]
      exact ⟨T, hT, by simp⟩
    by_cases hL : L.filter (fun x => decide (x ≠ T)) = []
    · refine ⟨T, hT, fun p hp hb => ?_⟩
      by_cases hpT : p = T
      · subst hpT; exact hb.irr
      · have : p ∈ L.filter (fun x => decide (x ≠ T)) := List.mem_filter.2 ⟨hp, decide_eq_true hpT⟩
        rw [hL] at this; cases this
    · obtain ⟨s, hs, hsrc⟩ := h.source m _ (by omega) hL
      have hsL := (List.mem_filter.1 hs).1
      by_cases hTs : Bef S τ T s
      · refine ⟨T, hT, fun p hp hb => ?_⟩
        by_cases hpT : p = T
        · subst hpT; exact hb.irr
        · obtain ⟨a1, _, a3⟩ := h.topB (k := e T) (hm p hp) (Int.le_refl _) (.inr rfl) hb
          obtain ⟨_, b2, b3⟩ := h.topB (k := e T) (Int.le_refl _) (hm s hsL) (.inl rfl) hTs
          exact hsrc p (List.mem_filter.2 ⟨hp, decide_eq_true hpT⟩) ⟨e T, a1, b2, Nat.lt_trans a3 b3⟩
      · refine ⟨s, hsL, fun p hp hb => ?_⟩
        by_cases hpT : p = T
        · subst hpT; exact hTs hb
        · exact hsrc p (List.mem_filter.2 ⟨hp, decide_eq_true hpT⟩) hb
end

/-- At a place of valid steps a transaction takes a node. -/
def TkAt (list : List St) (i : Nat) (a n : Int) : Prop := ∃ s : St, list[i]? = some s ∧ Takes s a ∧ s.node = n
/-- Behind some steps a transaction holds a node. -/
def HoldsAt (list : List St) (i : Nat) (a n : Int) : Prop := ∃ m, stepsF (list.take i) [] = some m ∧ heldF m a n ≠ 0
theorem TkAt.lt {list : List St} {i : Nat} {a n : Int} (h : TkAt list i a n) : i < list.length := let ⟨_, h, _⟩ := h; (List.getElem?_eq_some_iff.1 h).1
theorem TkAt.who {list : List St} {i : Nat} {a b n m : Int} (h : TkAt list i a n) (h' : TkAt list i b m) : a = b ∧ n = m := by
  obtain ⟨s, h1, h2, h3⟩ := h
  obtain ⟨s', h1', h2', h3'⟩ := h'
  rw [h1] at h1'; injection h1' with h1'; subst h1'
  exact ⟨h2.1.symm.trans h2'.1, h3.symm.trans h3'⟩
theorem HoldsAt.since {list : List St} (hv : VS list) {a n : Int} : ∀ i : Nat, i ≤ list.length → HoldsAt list i a n → ∃ j, j < i ∧ TkAt list j a n ∧ ∀ k, j < k → k ≤ i → HoldsAt list k a n
  | 0, _, ⟨m, h1, h2⟩ => by
    have : m = [] := by rw [List.take_zero] at h1; injection h1 with h1; exact h1.symm
    subst this
    exact absurd rfl h2
  | i + 1, hi, hh => by
    obtain ⟨m, h1, h2⟩ := id hh
    have hs : list[i]? = some list[i] := List.getElem?_eq_getElem (by omega)
    generalize list[i] = s at hs
    obtain ⟨l, hl, hvl⟩ := hv.tab i
    rw [stepsF_snoc hl hs] at h1
    rw [doF_held hvl h1] at h2
    by_cases hc : a = s.who ∧ n = s.node
    · rw [if_pos hc] at h2
      by_cases hf : s.free = true
      · rw [if_pos hf] at h2; exact absurd rfl h2
      · exact ⟨i, by omega, ⟨s, hs, ⟨hc.1.symm, by simpa using hf⟩, hc.2.symm⟩, fun k h3 h4 => by rw [show k = i + 1 by omega]; exact hh⟩
    · rw [if_neg hc] at h2
      obtain ⟨j, hj, ht, hk⟩ := HoldsAt.since hv i (by omega) ⟨l, hl, h2⟩
      exact ⟨j, by omega, ht, fun k h3 h4 => by
        by_cases e : k = i + 1
        · rw [e]; exact hh
        · exact hk k h3 (by omega)⟩
/-- What goes along the tree: each step that takes. -/
theorem GA.at {t : List Nd} {list : List St} (h : GA t list) {i : Nat} {a n : Int} (ht : TkAt list i a n) : ∃ (s : St) (m : List Lk), list[i]? = some s ∧ Takes s a ∧ s.node = n ∧ stepsF (list.take i) [] = some m ∧ VTb m ∧ s.mode = 5 ∧ Goes t m (hadF (list.take i) a) a n ∧ 0 ≤ a ∧ a ≤ 3 := by
  obtain ⟨s, hs, hta, hn⟩ := ht
  obtain ⟨m, hm, hvm⟩ := h.2.1.tab i
  have ho := h.2.1.at hs
  have h0 : 0 ≤ a := by have := ho.1.1; have := hta.1; omega
  have h3 : a ≤ 3 := by have := ho.1.2; have := hta.1; omega
  have hi := (List.getElem?_eq_some_iff.1 hs).1
  rcases alF_cases t list a with ⟨_, h2⟩ | ⟨k, h1, _⟩
  · have hnf : ¬ Flt t m (hadF (list.take i) a) a s := fun hf => by
      have := (fltB_at hs hm).2 hf
      rw [h2 i hi] at this; cases this
    have hg : s.mode = 5 ∧ Goes t m (hadF (list.take i) a) a s.node := Classical.byContradiction fun hc => hnf ⟨hta, hc⟩
    rw [hn] at hg
    exact ⟨s, m, hs, hta, hn, hm, hvm, hg.1, hg.2, h0, h3⟩
  · rw [h.2.2 a h0 h3] at h1; omega
theorem had_take_mem {list : List St} {i : Nat} {a n : Int} : n ∈ hadF (list.take i) a ↔ ∃ j, j < i ∧ TkAt list j a n := by
  rw [had_mem]
  constructor
  · rintro ⟨j, s, h1, h2, h3⟩
    rw [List.getElem?_take] at h1
    by_cases hj : j < i
    · rw [if_pos hj] at h1; exact ⟨j, hj, s, h1, h2, h3⟩
    · rw [if_neg hj] at h1; cases h1
  · rintro ⟨j, hj, s, h1, h2, h3⟩
    exact ⟨j, s, by rw [List.getElem?_take, if_pos hj]; exact h1, h2, h3⟩
/-- Each node is taken once. -/
theorem GA.once {t : List Nd} {list : List St} (h : GA t list) {i j : Nat} {a n : Int} (hi : TkAt list i a n) (hj : TkAt list j a n) : i = j := by
  rcases Nat.lt_trichotomy i j with e | e | e
  · obtain ⟨_, _, _, _, _, _, _, _, hg, _⟩ := h.at hj
    exact absurd (had_take_mem.2 ⟨i, e, hi⟩) hg.2.1
  · exact e
  · obtain ⟨_, _, _, _, _, _, _, _, hg, _⟩ := h.at hi
    exact absurd (had_take_mem.2 ⟨j, e, hj⟩) hg.2.1
/-- Who takes a node has it alone. -/
theorem GA.alone {t : List Nd} {list : List St} (h : GA t list) {i : Nat} {a b n : Int} (hi : TkAt list i a n) (hb0 : 0 ≤ b) (hb3 : b ≤ 3) (hab : b ≠ a) : ¬ HoldsAt list i b n := by
  rintro ⟨m', hm', hh⟩
  obtain ⟨s, m, hs, hta, hn, hm, hvm, h5, hg, _⟩ := h.at hi
  rw [hm] at hm'; injection hm' with hm'; subst hm'
  obtain ⟨l', hl'⟩ : ∃ l', doF m s = some l' := by
    obtain ⟨l', hl', _⟩ := h.2.1.tab (i + 1)
    rw [stepsF_snoc hm hs] at hl'
    exact ⟨l', hl'⟩
  rw [doF_take hta.2] at hl'
  obtain ⟨_, _, hb, _⟩ := takeF_some hl'
  have ht := blkF_nil hb hb0 hb3 (by rw [hta.1]; exact hab)
  rw [hn, h5, all6 (p := fun h => joinF h 5 = 5) (by decide) _ (heldF_isM hvm _ _)] at ht
  exact hh (all6 (p := fun h => togF h 5 = true → h = 0) (by decide) _ (heldF_isM hvm b n) ht)
/-- The node above. -/
def upN (t : List Nd) (n : Int) : Int := match t[n.toNat]? with
  | some x => x.par
  | none => -1
theorem Goes.up {t : List Nd} (hv : VT t) {m : List Lk} {had : List Int} {a n : Int} (hg : Goes t m had a n) (hne : had ≠ []) : heldF m a (upN t n) ≠ 0 ∧ upN t n < n := by
  rcases hg.2.2 with h | ⟨x, hx, hh⟩
  · exact absurd h hne
  · have e : upN t n = x.par := by unfold upN; rw [hx]
    rw [e]
    have := hv.parn hx
    have := hg.1
    exact ⟨hh, by omega⟩
/-- The first node of a transaction. -/
def rootF (list : List St) (a : Int) : Int := ((hadF list a).head?).getD 0
theorem root_first {list : List St} {i : Nat} {a n : Int} (hi : TkAt list i a n) (h0 : hadF (list.take i) a = []) : rootF list a = n := by
  obtain ⟨s, hs, hta, hn⟩ := hi
  have h1 := had_snoc hs a
  rw [h0, if_pos hta, hn, List.nil_append] at h1
  unfold rootF
  have h2 : hadF list a = hadF (list.take (i + 1)) a ++ pickL (fun _ s => decide (Takes s a)) St.node (list.drop (i + 1)) (0 + (list.take (i + 1)).length) := by
    unfold hadF
    conv => lhs; rw [← List.take_append_drop (i + 1) list]
    rw [pick_app]
  rw [h2, h1]
  rfl
/-- Of steps that go along a tree, and of what each transaction asks for behind them (a node directly below one that it holds, and that it has not had), the transactions can be set in order. -/
theorem GA.tree {t : List Nd} {list : List St} (h : GA t list) (q : Int → Int → Prop)
    (hq : ∀ a n, q a n → 0 ≤ a ∧ a ≤ 3 ∧ HoldsAt list list.length a (upN t n) ∧ upN t n < n ∧ ∀ i, ¬ TkAt list i a n) :
    ∃ τ : Int → Int → Nat, (∀ i a n, TkAt list i a n → τ a n = i) ∧ (∀ a n, q a n → τ a n = list.length) ∧
      Tree (fun a n => (∃ i, TkAt list i a n) ∨ q a n) τ (rootF list) (upN t) := by
  classical
  have hτ : ∃ τ : Int → Int → Nat, (∀ i a n, TkAt list i a n → τ a n = i) ∧ (∀ a n, q a n → τ a n = list.length) := by
    refine ⟨fun a n => if hx : ∃ i, TkAt list i a n then hx.choose else list.length, fun i a n hi => ?_, fun a n hqa => ?_⟩
    · have hx : ∃ i, TkAt list i a n := ⟨i, hi⟩
      show (if hx : ∃ i, TkAt list i a n then hx.choose else list.length) = i
      rw [dif_pos hx]
      exact h.once hx.choose_spec hi
    · have hx : ¬ ∃ i, TkAt list i a n := fun ⟨i, hi⟩ => (hq a n hqa).2.2.2.2 i hi
      show (if hx : ∃ i, TkAt list i a n then hx.choose else list.length) = list.length
      rw [dif_neg hx]
  obtain ⟨τ, t1, t2⟩ := hτ
  -- held where it is not the first one
  have hold : ∀ i a n, TkAt list i a n → n ≠ rootF list a → HoldsAt list i a (upN t n) ∧ upN t n < n := by
    intro i a n hi hne
    obtain ⟨s, m, hs, hta, hn, hm, hvm, h5, hg, _⟩ := h.at hi
    have hnil : hadF (list.take i) a ≠ [] := fun h0 => hne (root_first hi h0).symm
    obtain ⟨g1, g2⟩ := hg.up h.1 hnil
    exact ⟨⟨m, hm, g1⟩, g2⟩
  have rt : ∀ (i : Nat) a n, TkAt list i a n → rootF list a ≤ n := by
    intro i
    induction i using Nat.strongRecOn with
    | _ i ih =>
      intro a n hi
      by_cases hne : n = rootF list a
      · omega
      · obtain ⟨hh, hlt⟩ := hold i a n hi hne
        obtain ⟨j, hj, ht, _⟩ := HoldsAt.since h.2.1 i (Nat.le_of_lt hi.lt) hh
        have := ih j hj a _ ht
        omega
  refine ⟨τ, t1, t2, ⟨?_, ?_, ?_⟩⟩
  · rintro a n (⟨i, hi⟩ | hqa)
    · exact rt i a n hi
    · obtain ⟨_, _, hh, hlt, _⟩ := hq a n hqa
      obtain ⟨j, _, ht, _⟩ := HoldsAt.since h.2.1 _ (Nat.le_refl _) hh
      have := rt j a _ ht
      omega
  · rintro a n (⟨i, hi⟩ | hqa) hne
    · obtain ⟨hh, hlt⟩ := hold i a n hi hne
      obtain ⟨j, _, ht, _⟩ := HoldsAt.since h.2.1 i (Nat.le_of_lt hi.lt) hh
      exact ⟨.inl ⟨j, ht⟩, hlt⟩
    · obtain ⟨_, _, hh, hlt, _⟩ := hq a n hqa
      obtain ⟨j, _, ht, _⟩ := HoldsAt.since h.2.1 _ (Nat.le_refl _) hh
      exact ⟨.inl ⟨j, ht⟩, hlt⟩
  · intro a b n ha hb na nb hlt
    have hab : b ≠ a := fun e => by subst e; exact Nat.lt_irrefl _ hlt
    -- where b holds the node above
    have hb' : ∃ K, K = τ b n ∧ K ≤ list.length ∧ HoldsAt list K b (upN t n) ∧ 0 ≤ b ∧ b ≤ 3 := by
      rcases hb with ⟨k, hk⟩ | hqb
      · obtain ⟨_, _, _, _, _, _, _, _, _, h0, h3⟩ := h.at hk
        exact ⟨k, (t1 k b n hk).symm, Nat.le_of_lt hk.lt, (hold k b n hk nb).1, h0, h3⟩
      · obtain ⟨h0, h3, hh, _, _⟩ := hq b n hqb
        exact ⟨list.length, (t2 b n hqb).symm, Nat.le_refl _, hh, h0, h3⟩
    obtain ⟨K, hK, hKl, hHb, hb0, hb3⟩ := hb'
    have ha' : ∃ i, TkAt list i a n ∧ τ a n = i := by
      rcases ha with ⟨i, hi⟩ | hqa
      · exact ⟨i, hi, t1 i a n hi⟩
      · rw [t2 a n hqa] at hlt; omega
    obtain ⟨i, hi, hti⟩ := ha'
    obtain ⟨j, hj, htj, hja⟩ := HoldsAt.since h.2.1 i (Nat.le_of_lt hi.lt) (hold i a n hi na).1
    obtain ⟨j', hj', htj', hjb⟩ := HoldsAt.since h.2.1 K hKl hHb
    rw [t1 j a _ htj, t1 j' b _ htj']
    rcases Nat.lt_trichotomy j j' with e | e | e
    · exact e
    · subst e; exact absurd (htj'.who htj).1 hab
    · exact absurd (hjb j e (by omega)) (h.alone htj hb0 hb3 hab)
end Go.Proofs.YtcefgabdffipgaaDoor
