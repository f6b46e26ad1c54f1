/- The plain side of tables of locks. -/
import Derived.Test.YtmnlelpfbnagpaaModeP
import Derived.Test.YtmnlelpfbnagpaaMarkP
namespace Go.Proofs.Ytmnlelpfbnagpaa

def OkAsk (who node mode : Int) : Prop := (0 ≤ who ∧ who ≤ 3) ∧ (0 ≤ node ∧ node ≤ 11) ∧ 1 ≤ mode ∧ mode ≤ 5
instance (a b c : Int) : Decidable (OkAsk a b c) := inferInstanceAs (Decidable (_ ∧ _))
theorem OkAsk.isM {a b c : Int} (h : OkAsk a b c) : IsM c := ⟨by have := h.2.2.1; omega, h.2.2.2⟩
/-- Two locks that may not stand in one table. -/
def Clash (x y : Lk) : Prop := x.node = y.node ∧ (x.who = y.who ∨ togF x.mode y.mode = false)
instance (x y : Lk) : Decidable (Clash x y) := inferInstanceAs (Decidable (_ ∧ _))
theorem Clash.symm {x y : Lk} (h : Clash x y) : Clash y x := ⟨h.1.symm, h.2.imp Eq.symm (by rw [togF_comm]; exact id)⟩
def OkLk (l : List Lk) (i : Nat) (x : Lk) : Prop := OkAsk x.who x.node x.mode ∧ ∀ (j : Nat) (y : Lk), j < i → l[j]? = some y → ¬ Clash x y
def OkTab (l : List Lk) (k : Nat) : Prop := ∀ (i : Nat) (x : Lk), i < k → l[i]? = some x → OkLk l i x
def VTb (l : List Lk) : Prop := l.length ≤ 48 ∧ OkTab l l.length
open Classical in
noncomputable def vtb (l : List Lk) : Bool := decide (VTb l)
theorem vtb_true {l : List Lk} (h : VTb l) : vtb l = true := by simpa [vtb] using h
theorem vtb_false {l : List Lk} (h : ¬ VTb l) : vtb l = false := by simpa [vtb] using h
theorem VTb_of {l : List Lk} (h : vtb l = true) : VTb l := by simpa [vtb] using h
theorem nVTb_of {l : List Lk} (h : vtb l = false) : ¬ VTb l := by simpa [vtb] using h
theorem OkTab.zero {l : List Lk} : OkTab l 0 := fun _ _ h => absurd h (by omega)
theorem OkTab.succ {l : List Lk} {k : Nat} {x : Lk} (h : OkTab l k) (hx : l[k]? = some x) (ho : OkLk l k x) : OkTab l (k + 1) := by
  intro i y hi hy
  by_cases e : i = k
  · subst e; rw [hx] at hy; injection hy with hy; subst hy; exact ho
  · exact h i y (by omega) hy
theorem nVTb_at {l : List Lk} {k : Nat} {x : Lk} (hx : l[k]? = some x) (ho : ¬ OkLk l k x) : ¬ VTb l := fun h => ho (h.2 k x (List.getElem?_eq_some_iff.1 hx).1 hx)

theorem VTb.ask {l : List Lk} (h : VTb l) {x : Lk} (hx : x ∈ l) : OkAsk x.who x.node x.mode := by
  obtain ⟨i, hi⟩ := List.mem_iff_getElem?.1 hx
  exact (h.2 i x (List.getElem?_eq_some_iff.1 hi).1 hi).1
theorem VTb.pair {l : List Lk} (h : VTb l) {i j : Nat} {x y : Lk} (hx : l[i]? = some x) (hy : l[j]? = some y) (hij : i ≠ j) : ¬ Clash x y := by
  rcases Nat.lt_or_gt_of_ne hij with hlt | hlt
  · intro hc
    exact (h.2 j y (List.getElem?_eq_some_iff.1 hy).1 hy).2 i x hlt hx hc.symm
  · exact (h.2 i x (List.getElem?_eq_some_iff.1 hx).1 hx).2 j y hlt hy
theorem VTb.mk {l : List Lk} (hl : l.length ≤ 48) (ha : ∀ x ∈ l, OkAsk x.who x.node x.mode) (hp : ∀ (i j : Nat) (x y : Lk), l[i]? = some x → l[j]? = some y → j < i → ¬ Clash x y) : VTb l :=
  ⟨hl, fun i x _ hx => ⟨ha x (List.mem_of_getElem? hx), fun j y hj hy => hp i j x y hx hy hj⟩⟩
theorem VTb_pairwise {l : List Lk} : VTb l ↔ l.length ≤ 48 ∧ (∀ x ∈ l, OkAsk x.who x.node x.mode) ∧ l.Pairwise (fun x y => ¬ Clash x y) := by
  constructor
  · intro h
    refine ⟨h.1, fun x hx => h.ask hx, ?_⟩
    rw [List.pairwise_iff_getElem]
    intro i j hi hj hij
    exact h.pair (List.getElem?_eq_getElem hi) (List.getElem?_eq_getElem hj) (by omega)
  · rintro ⟨h1, h2, h3⟩
    refine VTb.mk h1 h2 fun i j x y hx hy hji hc => ?_
    obtain ⟨hi, rfl⟩ := List.getElem?_eq_some_iff.1 hx
    obtain ⟨hj, rfl⟩ := List.getElem?_eq_some_iff.1 hy
    exact List.pairwise_iff_getElem.1 h3 j i hj hi hji hc.symm
theorem VTb_nil : VTb [] := ⟨by simp, fun i x _ hx => by simp at hx⟩

/-- The mode of the first lock of a transaction on a node. -/
def heldF (l : List Lk) (who node : Int) : Int := match l with
  | [] => 0
  | x :: r => if x.who = who ∧ x.node = node then x.mode else heldF r who node
/-- Its place, counted from i; -1 for none. -/
def atF (l : List Lk) (who node : Int) (i : Nat) : Int := match l with
  | [] => -1
  | x :: r => if x.who = who ∧ x.node = node then i else atF r who node (i + 1)

theorem atF_spec (l : List Lk) (who node : Int) : ∀ i : Nat, (atF l who node i = -1 ∧ heldF l who node = 0 ∧ ∀ x ∈ l, ¬ (x.who = who ∧ x.node = node)) ∨
    ∃ (j : Nat) (x : Lk), atF l who node i = ((i + j : Nat) : Int) ∧ l[j]? = some x ∧ x.who = who ∧ x.node = node ∧ heldF l who node = x.mode ∧ ∀ k y, k < j → l[k]? = some y → ¬ (y.who = who ∧ y.node = node) := by
  induction l with
  | nil => intro i; left; exact ⟨rfl, rfl, by simp⟩
  | cons x r ih =>
    intro i
    rw [atF, heldF]
    by_cases h : x.who = who ∧ x.node = node
    · rw [if_pos h, if_pos h]
      right
      exact ⟨0, x, by simp, rfl, h.1, h.2, rfl, fun k y hk => by omega⟩
    · rw [if_neg h, if_neg h]
      rcases ih (i + 1) with ⟨h1, h2, h3⟩ | ⟨j, y, h1, h2, h3, h4, h5, h6⟩
      · left
        refine ⟨h1, h2, fun y hy => ?_⟩
        rcases List.mem_cons.1 hy with rfl | hy
        · exact h
        · exact h3 y hy
      · right
        refine ⟨j + 1, y, by rw [h1]; omega, by simpa using h2, h3, h4, h5, fun k z hk hz => ?_⟩
        cases k with
        | zero => simp only [List.getElem?_cons_zero, Option.some.injEq] at hz; subst hz; exact h
        | succ k => exact h6 k z (by omega) (by simpa using hz)

theorem heldF_isM {l : List Lk} (h : VTb l) (who node : Int) : IsM (heldF l who node) := by
  rcases atF_spec l who node 0 with ⟨_, h2, _⟩ | ⟨j, x, _, hx, _, _, h5, _⟩
  · rw [h2]; exact ⟨by omega, by omega⟩
  · rw [h5]; exact (h.ask (List.mem_of_getElem? hx)).isM
theorem heldF_pos {l : List Lk} (_ : VTb l) {who node : Int} (hp : heldF l who node ≠ 0) : ∃ x ∈ l, x.who = who ∧ x.node = node ∧ x.mode = heldF l who node := by
  rcases atF_spec l who node 0 with ⟨_, h2, _⟩ | ⟨j, x, _, hx, h3, h4, h5, _⟩
  · exact absurd h2 hp
  · exact ⟨x, List.mem_of_getElem? hx, h3, h4, h5.symm⟩
theorem heldF_mem {l : List Lk} (h : VTb l) {x : Lk} (hx : x ∈ l) : heldF l x.who x.node = x.mode := by
  rcases atF_spec l x.who x.node 0 with ⟨_, _, h3⟩ | ⟨j, y, _, hy, h3, h4, h5, _⟩
  · exact absurd ⟨rfl, rfl⟩ (h3 x hx)
  · obtain ⟨i, hi⟩ := List.mem_iff_getElem?.1 hx
    by_cases e : i = j
    · subst e; rw [hi] at hy; injection hy with hy; subst hy; exact h5
    · exact absurd ⟨h4.symm, Or.inl h3.symm⟩ (h.pair hi hy e)
theorem heldF_none {l : List Lk} {who node : Int} (h : ∀ x ∈ l, ¬ (x.who = who ∧ x.node = node)) : heldF l who node = 0 := by
  rcases atF_spec l who node 0 with ⟨_, h2, _⟩ | ⟨j, x, _, hx, h3, h4, _, _⟩
  · exact h2
  · exact absurd ⟨h3, h4⟩ (h x (List.mem_of_getElem? hx))
theorem heldF_tog {l : List Lk} (h : VTb l) {a b node : Int} (hab : a ≠ b) : togF (heldF l a node) (heldF l b node) = true := by
  by_cases ha : heldF l a node = 0
  · rw [ha]; exact togF_zero _ (heldF_isM h _ _)
  by_cases hb : heldF l b node = 0
  · rw [hb, togF_comm]; exact togF_zero _ (heldF_isM h _ _)
  obtain ⟨x, hx, x1, x2, x3⟩ := heldF_pos h ha
  obtain ⟨y, hy, y1, y2, y3⟩ := heldF_pos h hb
  obtain ⟨i, hi⟩ := List.mem_iff_getElem?.1 hx
  obtain ⟨j, hj⟩ := List.mem_iff_getElem?.1 hy
  have hij : i ≠ j := by
    rintro rfl
    rw [hi] at hj
    injection hj with hj
    subst hj
    exact hab (x1.symm.trans y1)
  have hn := h.pair hi hj hij
  rw [← x3, ← y3]
  cases ht : togF x.mode y.mode with
  | true => rfl
  | false => exact absurd ⟨x2.trans y2.symm, Or.inr ht⟩ hn

/-- Who stands in the way of a mode. -/
def blkF (l : List Lk) (who node mode : Int) : List Int := markL fun t => decide (t ≠ who) && !togF (heldF l t node) mode
def grantF (l : List Lk) (who node mode : Int) : List Lk := match l with
  | [] => [⟨who, node, mode⟩]
  | x :: r => if x.who = who ∧ x.node = node then ⟨who, node, joinF x.mode mode⟩ :: r else x :: grantF r who node mode
open Classical in
noncomputable def takeF (l : List Lk) (who node mode : Int) : Option (List Lk) :=
  if VTb l ∧ OkAsk who node mode ∧ blkF l who node (joinF (heldF l who node) mode) = [] then some (grantF l who node mode) else none

theorem blkF_nil {l : List Lk} {who node mode : Int} (h : blkF l who node mode = []) {t : Int} (h1 : 0 ≤ t) (h2 : t ≤ 3) (hne : t ≠ who) : togF (heldF l t node) mode = true := by
  unfold blkF markL at h
  rw [List.filter_eq_nil_iff] at h
  have hm : t ∈ ([0, 1, 2, 3] : List Int) := by simp only [List.mem_cons, List.not_mem_nil, or_false]; omega
  have := h t hm
  simpa [hne] using this
theorem blkF_mem {l : List Lk} {who node mode t : Int} (h : t ∈ blkF l who node mode) : 0 ≤ t ∧ t ≤ 3 ∧ t ≠ who ∧ togF (heldF l t node) mode = false := by
  unfold blkF markL at h
  rw [List.mem_filter] at h
  obtain ⟨h1, h2⟩ := h
  simp only [List.mem_cons, List.not_mem_nil, or_false] at h1
  simp only [Bool.and_eq_true, decide_eq_true_eq, Bool.not_eq_true'] at h2
  exact ⟨by omega, by omega, h2.1, h2.2⟩
theorem blkF_nil_of {l : List Lk} {who node mode : Int} (h : ∀ t, 0 ≤ t → t ≤ 3 → t ≠ who → togF (heldF l t node) mode = true) : blkF l who node mode = [] := by
  rw [List.eq_nil_iff_forall_not_mem]
  intro t ht
  obtain ⟨h1, h2, h3, h4⟩ := blkF_mem ht
  rw [h t h1 h2 h3] at h4
  cases h4

theorem grantF_held (l : List Lk) (who node mode : Int) (hm : IsM mode) (a b : Int) : heldF (grantF l who node mode) a b = if a = who ∧ b = node then joinF (heldF l who node) mode else heldF l a b := by
  induction l with
  | nil =>
    rw [grantF, heldF, heldF, heldF, heldF, joinF_zero hm]
    by_cases h : a = who ∧ b = node
    · rw [if_pos h, if_pos ⟨h.1.symm, h.2.symm⟩]
    · rw [if_neg h, if_neg (fun h' => h ⟨h'.1.symm, h'.2.symm⟩)]
  | cons x r ih =>
    rw [grantF]
    by_cases h : x.who = who ∧ x.node = node
    · rw [if_pos h]
      by_cases h' : a = who ∧ b = node
      · rw [if_pos h', heldF, if_pos ⟨h'.1.symm, h'.2.symm⟩, heldF, if_pos h]
      · rw [if_neg h', heldF, if_neg (fun h2 => h' ⟨h2.1.symm, h2.2.symm⟩), heldF, if_neg (fun h2 => h' ⟨h2.1.symm.trans h.1, h2.2.symm.trans h.2⟩)]
    · rw [if_neg h, heldF, ih]
      by_cases h' : a = who ∧ b = node
      · rw [if_pos h', if_pos h', if_neg (by rw [h'.1, h'.2]; exact h), heldF, if_neg h]
      · rw [if_neg h', if_neg h', heldF]

theorem grantF_mem {l : List Lk} {who node mode : Int} {y : Lk} (hy : y ∈ grantF l who node mode) : y ∈ l ∨ (y.who = who ∧ y.node = node ∧ (y.mode = mode ∨ ∃ x ∈ l, x.who = who ∧ x.node = node ∧ y.mode = joinF x.mode mode)) := by
  induction l with
  | nil =>
    simp only [grantF, List.mem_cons, List.not_mem_nil, or_false] at hy
    subst hy
    exact Or.inr ⟨rfl, rfl, Or.inl rfl⟩
  | cons x r ih =>
    rw [grantF] at hy
    split at hy
    · rename_i h
      rcases List.mem_cons.1 hy with rfl | hy
      · exact Or.inr ⟨rfl, rfl, Or.inr ⟨x, List.mem_cons_self, h.1, h.2, rfl⟩⟩
      · exact Or.inl (List.mem_cons_of_mem _ hy)
    · rcases List.mem_cons.1 hy with rfl | hy
      · exact Or.inl List.mem_cons_self
      · rcases ih hy with h | ⟨h1, h2, h3 | ⟨z, hz, h4⟩⟩
        · exact Or.inl (List.mem_cons_of_mem _ h)
        · exact Or.inr ⟨h1, h2, Or.inl h3⟩
        · exact Or.inr ⟨h1, h2, Or.inr ⟨z, List.mem_cons_of_mem _ hz, h4⟩⟩

/-- A table is as good as its keys and modes: distinct keys, and modes that go together. -/
theorem VTb_iff {l : List Lk} : VTb l ↔ l.length ≤ 48 ∧ (∀ x ∈ l, OkAsk x.who x.node x.mode) ∧ l.Pairwise (fun x y => ¬ (x.who = y.who ∧ x.node = y.node)) ∧ (∀ x ∈ l, ∀ y ∈ l, x.node = y.node → x.who ≠ y.who → togF x.mode y.mode = true) := by
  rw [VTb_pairwise]
  constructor
  · rintro ⟨h1, h2, h3⟩
    refine ⟨h1, h2, h3.imp fun h hc => h ⟨hc.2, Or.inl hc.1⟩, fun x hx y hy hn hw => ?_⟩
    obtain ⟨i, hi⟩ := List.mem_iff_getElem?.1 hx
    obtain ⟨j, hj⟩ := List.mem_iff_getElem?.1 hy
    have hij : i ≠ j := by
      rintro rfl
      rw [hi] at hj
      injection hj with hj
      subst hj
      exact hw rfl
    have hv : VTb l := VTb_pairwise.2 ⟨h1, h2, h3⟩
    cases ht : togF x.mode y.mode with
    | true => rfl
    | false => exact absurd ⟨hn, Or.inr ht⟩ (hv.pair hi hj hij)
  · rintro ⟨h1, h2, h3, h4⟩
    refine ⟨h1, h2, ?_⟩
    rw [List.pairwise_iff_getElem] at h3 ⊢
    intro i j hi hj hij hc
    by_cases hw : (l[i]).who = (l[j]).who
    · exact h3 i j hi hj hij ⟨hw, hc.1⟩
    · rcases hc.2 with h | h
      · exact hw h
      · rw [h4 _ (List.getElem_mem hi) _ (List.getElem_mem hj) hc.1 hw] at h
        cases h

theorem grantF_keep {r : List Lk} {who node mode : Int} {y : Lk} (hy : y ∈ r) (hk : ¬ (y.who = who ∧ y.node = node)) : y ∈ grantF r who node mode := by
  induction r with
  | nil => simp at hy
  | cons z r ih =>
    rw [grantF]
    split
    · rename_i hz
      rcases List.mem_cons.1 hy with rfl | hy
      · exact absurd hz hk
      · exact List.mem_cons_of_mem _ hy
    · rcases List.mem_cons.1 hy with rfl | hy
      · exact List.mem_cons_self
      · exact List.mem_cons_of_mem _ (ih hy)

theorem grantF_keys (l : List Lk) (who node mode : Int) : (grantF l who node mode).Pairwise (fun x y => ¬ (x.who = y.who ∧ x.node = y.node)) ↔ l.Pairwise (fun x y => ¬ (x.who = y.who ∧ x.node = y.node)) := by
  induction l with
  | nil => simp [grantF]
  | cons x r ih =>
    rw [grantF]
    split
    · rename_i h
      rw [List.pairwise_cons, List.pairwise_cons]
      simp only [h.1, h.2]
    · rename_i h
      rw [List.pairwise_cons, List.pairwise_cons, ih]
      refine and_congr_left fun _ => ?_
      constructor
      · intro h1 y hy
        by_cases hk : y.who = who ∧ y.node = node
        · rintro ⟨e1, e2⟩
          exact h ⟨e1.trans hk.1, e2.trans hk.2⟩
        · exact h1 y (grantF_keep hy hk)
      · intro h1 y hy
        rcases grantF_mem hy with hy | ⟨e1, e2, _⟩
        · exact h1 y hy
        · rintro ⟨k1, k2⟩
          exact h ⟨k1.trans e1, k2.trans e2⟩

theorem grantF_len (l : List Lk) (who node mode : Int) : (grantF l who node mode).length ≤ l.length + 1 := by
  induction l with
  | nil => simp [grantF]
  | cons x r ih =>
    rw [grantF]
    split
    · simp
    · simp only [List.length_cons]; omega

/-- A table has at most one lock for each transaction and node. -/
theorem keys_len {l : List Lk} (ha : ∀ x ∈ l, OkAsk x.who x.node x.mode) (hp : l.Pairwise (fun x y => ¬ (x.who = y.who ∧ x.node = y.node))) : l.length ≤ 48 := by
  have hn : (l.map fun x => (x.who * 12 + x.node).toNat).Nodup := by
    rw [List.Nodup, List.pairwise_map]
    refine List.Pairwise.imp_of_mem ?_ hp
    intro x y hx hy hxy he
    have h1 := ha x hx
    have h2 := ha y hy
    unfold OkAsk at h1 h2
    exact hxy ⟨by omega, by omega⟩
  have hs : (l.map fun x => (x.who * 12 + x.node).toNat) ⊆ List.range 48 := by
    intro a hm
    obtain ⟨x, hx, rfl⟩ := List.mem_map.1 hm
    have h1 := ha x hx
    unfold OkAsk at h1
    rw [List.mem_range]
    omega
  have h3 : (l.map fun x => (x.who * 12 + x.node).toNat).length ≤ (List.range 48).length := hn.length_le_of_subset hs
  simpa using h3

theorem grantF_VTb {l : List Lk} (h : VTb l) {who node mode : Int} (ha : OkAsk who node mode) (hb : blkF l who node (joinF (heldF l who node) mode) = []) : VTb (grantF l who node mode) := by
  have hl := VTb_iff.1 h
  have hkeys := (grantF_keys l who node mode).2 hl.2.2.1
  have hasks : ∀ x ∈ grantF l who node mode, OkAsk x.who x.node x.mode := by
    intro y hy
    rcases grantF_mem hy with hy | ⟨e1, e2, e3 | ⟨x, hx, _, _, e4⟩⟩
    · exact h.ask hy
    · rw [e1, e2, e3]; exact ha
    · rw [e1, e2, e4]
      have hx' := (h.ask hx).isM
      exact ⟨ha.1, ha.2.1, joinF_pos hx' ha.isM ha.2.2.1, (joinF_isM hx' ha.isM).2⟩
  refine VTb_iff.2 ⟨keys_len hasks hkeys, hasks, hkeys, ?_⟩
  have hmode : ∀ y ∈ grantF l who node mode, y.who = who → y.node = node → y.mode = joinF (heldF l who node) mode := by
    intro y hy e1 e2
    -- the keys are distinct: the first one that fits is y
    have hh := grantF_held l who node mode ha.isM who node
    rw [if_pos ⟨rfl, rfl⟩] at hh
    rw [← hh]
    obtain ⟨i, hi⟩ := List.mem_iff_getElem?.1 hy
    rcases atF_spec (grantF l who node mode) who node 0 with ⟨_, _, h3⟩ | ⟨j, z, _, hz, z1, z2, z3, _⟩
    · exact absurd ⟨e1, e2⟩ (h3 y hy)
    · rw [z3]
      by_cases hij : i = j
      · subst hij; rw [hi] at hz; injection hz with hz; rw [hz]
      · rw [List.pairwise_iff_getElem] at hkeys
        obtain ⟨hi', rfl⟩ := List.getElem?_eq_some_iff.1 hi
        obtain ⟨hj', rfl⟩ := List.getElem?_eq_some_iff.1 hz
        rcases Nat.lt_or_gt_of_ne hij with hlt | hlt
        · exact absurd ⟨e1.trans z1.symm, e2.trans z2.symm⟩ (hkeys i j hi' hj' hlt)
        · exact absurd ⟨z1.trans e1.symm, z2.trans e2.symm⟩ (hkeys j i hj' hi' hlt)
  have hother : ∀ y ∈ grantF l who node mode, y.node = node → y.who ≠ who → togF y.mode (joinF (heldF l who node) mode) = true := by
    intro y hy e2 e1
    rcases grantF_mem hy with hy | ⟨k1, _, _⟩
    · have hask := h.ask hy
      have := blkF_nil hb hask.1.1 hask.1.2 e1
      rw [← e2, heldF_mem h hy] at this
      rw [← e2]; exact this
    · exact absurd k1 e1
  intro x hx y hy hn hw
  by_cases x1 : x.who = who ∧ x.node = node
  · rw [hmode x hx x1.1 x1.2, togF_comm]
    exact hother y hy (hn.symm.trans x1.2) (fun h' => hw (x1.1.trans h'.symm))
  · by_cases y1 : y.who = who ∧ y.node = node
    · rw [hmode y hy y1.1 y1.2]
      exact hother x hx (hn.trans y1.2) (fun h' => hw (h'.trans y1.1.symm))
    · have hx' : x ∈ l := (grantF_mem hx).resolve_right (fun k => x1 ⟨k.1, k.2.1⟩)
      have hy' : y ∈ l := (grantF_mem hy).resolve_right (fun k => y1 ⟨k.1, k.2.1⟩)
      exact hl.2.2.2 x hx' y hy' hn hw

theorem takeF_some {l l' : List Lk} {who node mode : Int} (h : takeF l who node mode = some l') : VTb l ∧ OkAsk who node mode ∧ blkF l who node (joinF (heldF l who node) mode) = [] ∧ l' = grantF l who node mode := by
  unfold takeF at h
  split at h
  · rename_i h1
    injection h with h
    exact ⟨h1.1, h1.2.1, h1.2.2, h.symm⟩
  · cases h
theorem takeF_VTb {l l' : List Lk} {who node mode : Int} (h : takeF l who node mode = some l') : VTb l' := by
  obtain ⟨h1, h2, h3, rfl⟩ := takeF_some h
  exact grantF_VTb h1 h2 h3
theorem takeF_yes {l : List Lk} {who node mode : Int} (h1 : VTb l) (h2 : OkAsk who node mode) (h3 : blkF l who node (joinF (heldF l who node) mode) = []) : takeF l who node mode = some (grantF l who node mode) := by
  unfold takeF; rw [if_pos ⟨h1, h2, h3⟩]
theorem takeF_no {l : List Lk} {who node mode : Int} (h : ¬ (VTb l ∧ OkAsk who node mode ∧ blkF l who node (joinF (heldF l who node) mode) = [])) : takeF l who node mode = none := by
  unfold takeF; rw [if_neg h]

open Classical in
/-- What LockBlockers gives. -/
noncomputable def lbF (l : List Lk) (who node mode : Int) : List Int := if VTb l ∧ OkAsk who node mode then blkF l who node (joinF (heldF l who node) mode) else []
theorem lbF_yes {l : List Lk} {who node mode : Int} (h1 : VTb l) (h2 : OkAsk who node mode) : lbF l who node mode = blkF l who node (joinF (heldF l who node) mode) := by unfold lbF; rw [if_pos ⟨h1, h2⟩]
theorem lbF_no {l : List Lk} {who node mode : Int} (h : ¬ (VTb l ∧ OkAsk who node mode)) : lbF l who node mode = [] := by unfold lbF; rw [if_neg h]
theorem blkF_len (l : List Lk) (who node mode : Int) : (blkF l who node mode).length ≤ 4 := markL_len _
theorem lbF_len (l : List Lk) (who node mode : Int) : (lbF l who node mode).length ≤ 4 := by
  unfold lbF
  split
  · exact blkF_len _ _ _ _
  · simp
theorem grantF_app {l : List Lk} {who node mode : Int} (h : ∀ x ∈ l, ¬ (x.who = who ∧ x.node = node)) : grantF l who node mode = l ++ [⟨who, node, mode⟩] := by
  induction l with
  | nil => rfl
  | cons x r ih => rw [grantF, if_neg (h x List.mem_cons_self), ih (fun y hy => h y (List.mem_cons_of_mem _ hy))]; rfl
theorem grantF_set {l : List Lk} {who node mode : Int} : ∀ {j : Nat} {x : Lk}, l[j]? = some x → x.who = who → x.node = node → (∀ k y, k < j → l[k]? = some y → ¬ (y.who = who ∧ y.node = node)) → grantF l who node mode = l.set j ⟨who, node, joinF x.mode mode⟩ := by
  induction l with
  | nil => intro j x hx; simp at hx
  | cons y r ih =>
    intro j x hx h1 h2 h3
    cases j with
    | zero =>
      simp only [List.getElem?_cons_zero, Option.some.injEq] at hx
      subst hx
      rw [grantF, if_pos ⟨h1, h2⟩]; rfl
    | succ j =>
      rw [grantF, if_neg (h3 0 y (by omega) rfl), ih (by simpa using hx) h1 h2 (fun k z hk hz => h3 (k + 1) z (by omega) (by simpa using hz))]; rfl
def freeF (l : List Lk) (who : Int) : List Lk := l.filter fun x => decide (x.who ≠ who)
theorem VTb.sub {l l' : List Lk} (h : VTb l) (hs : l'.Sublist l) : VTb l' := by
  obtain ⟨h1, h2, h3⟩ := VTb_pairwise.1 h
  exact VTb_pairwise.2 ⟨Nat.le_trans hs.length_le h1, fun x hx => h2 x (hs.subset hx), h3.sublist hs⟩
theorem freeF_VTb {l : List Lk} (h : VTb l) (who : Int) : VTb (freeF l who) := h.sub List.filter_sublist
theorem freeF_held {l : List Lk} (_ : VTb l) (who a b : Int) : heldF (freeF l who) a b = if a = who then 0 else heldF l a b := by
  by_cases e : a = who
  · rw [if_pos e]
    refine heldF_none fun x hx hc => ?_
    have := (List.mem_filter.1 hx).2
    simp only [decide_eq_true_eq] at this
    exact this (hc.1.trans e)
  · rw [if_neg e]
    rename_i h0
    clear h0
    unfold freeF
    induction l with
    | nil => rfl
    | cons x r ih =>
      rw [List.filter_cons]
      split
      · rw [heldF, heldF, ih]
      · rename_i h
        rw [heldF, ih, if_neg]
        rintro ⟨k1, _⟩
        simp only [decide_eq_true_eq, Decidable.not_not] at h
        exact e (k1.symm.trans h)

/-- All of a list, one behind the other. -/
noncomputable def takeL (l : List Lk) (list : List Lk) : Option (List Lk) := match list with
  | [] => some l
  | x :: r => match takeF l x.who x.node x.mode with
    | some l' => takeL l' r
    | none => none
noncomputable def takeAllF (l : List Lk) (list : List Lk) : Option (List Lk) := if vtb l = true then takeL l list else none
theorem takeL_VTb : ∀ (list l l' : List Lk), VTb l → takeL l list = some l' → VTb l' := by
  intro list
  induction list with
  | nil => intro l l' h e; simp only [takeL, Option.some.injEq] at e; subst e; exact h
  | cons x r ih =>
    intro l l' h e
    rw [takeL] at e
    split at e
    · rename_i l2 h2
      exact ih _ _ (takeF_VTb h2) e
    · cases e
end Go.Proofs.Ytmnlelpfbnagpaa
