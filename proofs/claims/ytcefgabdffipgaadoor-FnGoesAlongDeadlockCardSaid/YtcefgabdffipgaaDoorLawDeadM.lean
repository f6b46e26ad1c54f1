/- The order of last locks, in plain words. Conflicts of accesses, sets of transactions as bits, in plain words. Waits, in plain words: who waits for whom, also by way of others. Waits of what is asked for behind steps that go along a tree, in plain words. The walk over marked. The walks over ValidWaits, WaitsFor, DeadlockOf. The walk over DeadlockOf. The walk over AsksOf. The walk of the law FnGoesAlongDeadlock. DRAFT, not built. -/
import Derived.Test.YtcefgabdffipgaaDoorStepL
import Derived.Test.YtcefgabdffipgaaDoorPlaceP
import Derived.Test.YtcefgabdffipgaaDoorSerialP
import Derived.Test.YtcefgabdffipgaaDoorTabP
import Derived.Test.YtcefgabdffipgaaDoorAlongL
import Derived.Test.YtcefgabdffipgaaDoorElems
import Derived.Test.YtcefgabdffipgaaDoorWords4
import Derived.Test.YtcefgabdffipgaaDoorInts
import Derived.Test.YtcefgabdffipgaaDoorPlaceW
import Derived.Test.YtcefgabdffipgaaDoorTreeW
import Derived.Test.YtcefgabdffipgaaDoorWords6
import Derived.Test.YtcefgabdffipgaaDoorWords3
import Derived.Test.YtcefgabdffipgaaDoorTabW2
import Derived.Test.YtcefgabdffipgaaDoorAlongW
import Derived.Test.YtcefgabdffipgaaDoorDrawAlong2
namespace Go.Proofs.YtcefgabdffipgaaDoor
open Go.RowKit

theorem pick_pair {α β : Type} {p : Nat → α → Bool} {f : α → β} {g : β → Int} (h : ∀ i x, p i x = true → g (f x) = i) : ∀ (l : List α) (k : Nat), (pickL p f l k).Pairwise (fun a b => g a < g b) ∧ ∀ y ∈ pickL p f l k, (k : Int) ≤ g y
  | [], k => ⟨List.Pairwise.nil, fun y hy => by cases hy⟩
  | x :: r, k => by
    obtain ⟨h1, h2⟩ := pick_pair h r (k + 1)
    rw [pickL]
    by_cases hp : p k x = true
    · rw [if_pos hp]
      have hg := h k x hp
      refine ⟨List.pairwise_cons.2 ⟨fun y hy => ?_, h1⟩, fun y hy => ?_⟩
      · have := h2 y hy; omega
      · rcases List.mem_cons.1 hy with e | hy
        · rw [e, hg]; exact Int.le_refl _
        · have := h2 y hy; omega
    · rw [if_neg hp]
      exact ⟨h1, fun y hy => by have := h2 y hy; omega⟩
theorem pick_filter {α β : Type} {p p' : Nat → α → Bool} {f : α → β} {q : β → Bool} : ∀ (l : List α) (k : Nat), (∀ i x, l[i]? = some x → p' (k + i) x = (p (k + i) x && q (f x))) → pickL p' f l k = (pickL p f l k).filter q
  | [], _, _ => rfl
  | x :: r, k, h => by
    have h0 := h 0 x rfl
    rw [Nat.add_zero] at h0
    have ih := pick_filter (p := p) (p' := p') (f := f) (q := q) r (k + 1) fun i y hy => by rw [show k + 1 + i = k + (i + 1) by omega]; exact h (i + 1) y hy
    rw [pickL, pickL, h0, ih]
    cases hp : p k x <;> cases hq : q (f x) <;> simp [hq]
theorem lpo_p {list : List St} : ∀ (i : Nat) (s : St), (!s.free && decide (lpF list s.who = (i : Int))) = true → lpF list s.who = i := by
  intro i s h
  simp only [Bool.and_eq_true, decide_eq_true_eq] at h
  exact h.2
theorem lpo_pair (list : List St) : (lpoF list).Pairwise (fun a b => lpF list a < lpF list b) := (pick_pair (g := lpF list) (fun i s h => lpo_p i s h) list 0).1
theorem lpo_mem {list : List St} {t : Int} : t ∈ lpoF list ↔ 0 ≤ lpF list t := by
  unfold lpoF
  rw [pick_mem]
  constructor
  · rintro ⟨i, s, _, hp, rfl⟩
    rw [lpo_p (0 + i) s hp]; omega
  · intro h
    rcases lpF_cases list t with ⟨e, _⟩ | ⟨i, s, e, hs, ht, _⟩
    · omega
    · refine ⟨i, s, hs, ?_, ht.1⟩
      simp only [Bool.and_eq_true, decide_eq_true_eq, ht.2]
      exact ⟨rfl, by rw [ht.1, e]; simp⟩
theorem lpo_snoc (init : List St) (s : St) : lpoF (init ++ [s]) = if s.free = true then lpoF init else (lpoF init).filter (fun t => decide (t ≠ s.who)) ++ [s.who] := by
  have hsn : ∀ who, lpF (init ++ [s]) who = if Takes s who then (init.length : Int) else lpF init who := fun who => by
    have := lpF_snoc (list := init ++ [s]) (k := init.length) (s := s) (by simp) who
    rw [show (init ++ [s]).take (init.length + 1) = init ++ [s] by rw [List.take_of_length_le (by simp)], List.take_left] at this
    exact this
  have hlt : ∀ who, lpF init who < init.length := fun who => (lpF_ge init who).2
  unfold lpoF
  rw [pick_app]
  cases hf : s.free with
  | true =>
    rw [if_pos rfl]
    have h2 : pickL (fun i (s_1 : St) => !s_1.free && decide (lpF (init ++ [s]) s_1.who = (i : Int))) St.who [s] (0 + init.length) = [] := by
      rw [pickL, if_neg (by simp [hf])]; rfl
    rw [h2, List.append_nil]
    refine pick_congr init 0 fun i x _ => ?_
    rw [hsn, if_neg (fun h => by have := h.2; rw [hf] at this; cases this)]
  | false =>
    rw [if_neg (by simp)]
    congr 1
    · refine pick_filter (q := fun t => decide (t ≠ s.who)) init 0 fun i x hx => ?_
      rw [hsn]
      by_cases e : s.who = x.who
      · rw [if_pos ⟨e, hf⟩, e]
        have hi := (List.getElem?_eq_some_iff.1 hx).1
        simp
        omega
      · rw [if_neg (fun h => e h.1)]
        have : x.who ≠ s.who := fun h => e h.symm
        simp [this]
    · rw [pickL, if_pos]
      · rfl
      · rw [hsn, if_pos ⟨rfl, hf⟩]; simp [hf]

/-- A transaction must come behind another one, by the accesses before the j-th one and those before the i-th one with the j-th one. -/
def CfTo (h : List Ac) (j i : Nat) (a b : Int) : Prop := ∃ (i' j' : Nat) (x y : Ac), i' < j' ∧ (j' < j ∨ (j' = j ∧ i' < i)) ∧ h[i']? = some x ∧ h[j']? = some y ∧ x.who = a ∧ y.who = b ∧ a ≠ b ∧ x.node = y.node ∧ (x.write = true ∨ y.write = true)
/-- A transaction must come behind another one. -/
def Cf (h : List Ac) (a b : Int) : Prop := ∃ (i j : Nat) (x y : Ac), i < j ∧ h[i]? = some x ∧ h[j]? = some y ∧ x.who = a ∧ y.who = b ∧ a ≠ b ∧ x.node = y.node ∧ (x.write = true ∨ y.write = true)
/-- Two accesses are in conflict. -/
def CfAt (x y : Ac) : Prop := x.who ≠ y.who ∧ x.node = y.node ∧ (x.write = true ∨ y.write = true)
theorem CfTo_zero {h : List Ac} {a b : Int} : ¬ CfTo h 0 0 a b := fun ⟨_, _, _, _, _, hc, _⟩ => by omega
theorem CfTo_all {h : List Ac} {a b : Int} {n : Nat} (hn : h.length = n) : CfTo h n 0 a b ↔ Cf h a b := by
  constructor
  · rintro ⟨i, j, x, y, h1, _, h2⟩; exact ⟨i, j, x, y, h1, h2⟩
  · rintro ⟨i, j, x, y, h1, h2, h3, h4⟩
    have := (List.getElem?_eq_some_iff.1 h3).1
    exact ⟨i, j, x, y, h1, .inl (by omega), h2, h3, h4⟩
theorem CfTo_next {h : List Ac} {a b : Int} {j : Nat} : CfTo h j j a b ↔ CfTo h (j + 1) 0 a b := by
  constructor
  · rintro ⟨i', j', x, y, h1, h2, h3⟩; exact ⟨i', j', x, y, h1, .inl (by omega), h3⟩
  · rintro ⟨i', j', x, y, h1, h2, h3⟩; exact ⟨i', j', x, y, h1, by omega, h3⟩
theorem CfTo_t {h : List Ac} {a b : Int} {j i : Nat} {x y : Ac} (hij : i < j) (hx : h[i]? = some x) (hy : h[j]? = some y) (hc : CfAt x y) : CfTo h j (i + 1) a b ↔ CfTo h j i a b ∨ (a = x.who ∧ b = y.who) := by
  constructor
  · rintro ⟨i', j', x', y', h1, h2, h3, h4, h5, h6, h7⟩
    by_cases e : j' = j ∧ i' = i
    · obtain ⟨rfl, rfl⟩ := e
      rw [hx] at h3; injection h3 with h3; subst h3
      rw [hy] at h4; injection h4 with h4; subst h4
      exact .inr ⟨h5.symm, h6.symm⟩
    · exact .inl ⟨i', j', x', y', h1, by omega, h3, h4, h5, h6, h7⟩
  · rintro (⟨i', j', x', y', h1, h2, h3⟩ | ⟨rfl, rfl⟩)
    · exact ⟨i', j', x', y', h1, by omega, h3⟩
    · exact ⟨i, j, x, y, hij, .inr ⟨rfl, by omega⟩, hx, hy, rfl, rfl, hc.1, hc.2.1, hc.2.2⟩
theorem CfTo_f {h : List Ac} {a b : Int} {j i : Nat} {x y : Ac} (hx : h[i]? = some x) (hy : h[j]? = some y) (hc : ¬ CfAt x y) : CfTo h j (i + 1) a b ↔ CfTo h j i a b := by
  constructor
  · rintro ⟨i', j', x', y', h1, h2, h3, h4, h5, h6, h7⟩
    by_cases e : j' = j ∧ i' = i
    · obtain ⟨rfl, rfl⟩ := e
      rw [hx] at h3; injection h3 with h3; subst h3
      rw [hy] at h4; injection h4 with h4; subst h4
      exact absurd ⟨by rw [h5, h6]; exact h7.1, h7.2.1, h7.2.2⟩ hc
    · exact ⟨i', j', x', y', h1, by omega, h3, h4, h5, h6, h7⟩
  · rintro ⟨i', j', x', y', h1, h2, h3⟩; exact ⟨i', j', x', y', h1, by omega, h3⟩

/-- A set of numbers 0 to 3 as bits. -/
def Row (P : Int → Prop) (m : Nat) : Prop := m < 16 ∧ ∀ b : Nat, b < 4 → (m.testBit b = true ↔ P b)
theorem Row.zero {P : Int → Prop} (h : ∀ b, ¬ P b) : Row P 0 := ⟨by omega, fun b _ => by simp; exact h b⟩
theorem Row.congr {P Q : Int → Prop} {m : Nat} (h : Row P m) (e : ∀ b, Q b ↔ P b) : Row Q m := ⟨h.1, fun b hb => (h.2 b hb).trans (e b).symm⟩
theorem Row.or {P Q : Int → Prop} {m k : Nat} (h : Row P m) (hk : k < 4) (e : ∀ b, Q b ↔ P b ∨ b = (k : Int)) : Row Q (m ||| 2 ^ k) := by
  refine ⟨Nat.or_lt_two_pow (n := 4) h.1 (by rw [Nat.pow_lt_pow_iff_right (by omega)]; exact hk), fun b hb => ?_⟩
  rw [Nat.testBit_or, Bool.or_eq_true, h.2 b hb, Nat.testBit_two_pow, decide_eq_true_iff, e b]
  constructor
  · rintro (h | h)
    · exact .inl h
    · exact .inr (by rw [h])
  · rintro (h | h)
    · exact .inl h
    · exact .inr (by omega)
theorem bit_or : ∀ m : Fin 16, ∀ k : Fin 4, bits .or .i64 (m.val : Int) (IntKind.i64.wrap (1 * 2 ^ k.val)) = ((m.val ||| 2 ^ k.val : Nat) : Int) := by decide
theorem bit_and : ∀ m : Fin 16, ∀ k : Fin 4, bits .and .i64 (m.val : Int) (IntKind.i64.wrap (1 * 2 ^ k.val)) = if m.val.testBit k.val then ((2 ^ k.val : Nat) : Int) else 0 := by decide
theorem bit_not : ∀ m : Fin 16, ∀ k : Fin 4, bits .andNot .i64 (m.val : Int) (IntKind.i64.wrap (1 * 2 ^ k.val)) = ((m.val - (if m.val.testBit k.val then 2 ^ k.val else 0) : Nat) : Int) := by decide
theorem bit_clear : ∀ m : Fin 16, ∀ k : Fin 4, m.val.testBit k.val = true → m.val - 2 ^ k.val < m.val ∧ ∀ b : Fin 4, (m.val - 2 ^ k.val).testBit b.val = (m.val.testBit b.val && decide (b ≠ k)) := by decide
theorem bit_some : ∀ m : Fin 16, m.val ≠ 0 → ∃ k : Fin 4, m.val.testBit k.val = true := by decide

theorem acF_at {list : List St} {i : Nat} {x : Ac} (h : (acF list)[i]? = some x) : ∃ (k : Nat) (s : St), list[k]? = some s ∧ s.free = false ∧ x = ⟨s.who, s.node, decide (s.mode = 5)⟩ ∧ (acF (list.take k)).length = i := by
  have : ∀ (l : List St) (m i : Nat), (pickL (fun _ s => !s.free) (fun s => (⟨s.who, s.node, decide (s.mode = 5)⟩ : Ac)) l m)[i]? = some x → ∃ (k : Nat) (s : St), l[k]? = some s ∧ s.free = false ∧ x = ⟨s.who, s.node, decide (s.mode = 5)⟩ ∧ (pickL (fun _ s => !s.free) (fun s => (⟨s.who, s.node, decide (s.mode = 5)⟩ : Ac)) (l.take k) m).length = i := by
    intro l
    induction l with
    | nil => intro m i h; simp [pickL] at h
    | cons s r ih =>
      intro m i h
      rw [pickL] at h
      by_cases hp : (!s.free) = true
      · rw [if_pos hp] at h
        cases i with
        | zero =>
          simp at h
          exact ⟨0, s, rfl, by simpa using hp, h.symm, rfl⟩
        | succ i =>
          simp at h
          obtain ⟨k, s', h1, h2, h3, h4⟩ := ih _ _ h
          exact ⟨k + 1, s', h1, h2, h3, by rw [List.take_succ_cons, pickL, if_pos hp, List.length_cons, h4]⟩
      · rw [if_neg hp] at h
        obtain ⟨k, s', h1, h2, h3, h4⟩ := ih _ _ h
        exact ⟨k + 1, s', h1, h2, h3, by rw [List.take_succ_cons, pickL, if_neg hp, h4]⟩
  exact this list 0 i h
theorem acF_mono (list : List St) {k l : Nat} (h : k ≤ l) : (acF (list.take k)).length ≤ (acF (list.take l)).length := by
  have e : list.take l = list.take k ++ (list.take l).drop k := by
    conv => lhs; rw [← List.take_append_drop k (list.take l)]
    rw [List.take_take, Nat.min_eq_left h]
  unfold acF
  rw [e, pick_app, List.length_append]
  omega
/-- A conflict of the accesses of steps: two steps that take a lock on one node. -/
theorem acF_cf {list : List St} {a b : Int} (h : Cf (acF list) a b) : ∃ (i j : Nat) (x y : St), i < j ∧ list[i]? = some x ∧ list[j]? = some y ∧ Takes x a ∧ Takes y b ∧ a ≠ b ∧ x.node = y.node := by
  obtain ⟨i, j, x, y, hij, hx, hy, ha, hb, hab, hn, _⟩ := h
  obtain ⟨k, s, h1, h2, rfl, h4⟩ := acF_at hx
  obtain ⟨k', s', h1', h2', rfl, h4'⟩ := acF_at hy
  refine ⟨k, k', s, s', Nat.lt_of_not_le fun hle => ?_, h1, h1', ⟨ha, h2⟩, ⟨hb, h2'⟩, hab, hn⟩
  have := acF_mono list hle
  omega
/-- What must be so that there is an order. -/
def Src (P : Int → Int → Prop) : Prop := ∀ L : List Int, L ≠ [] → (∀ x ∈ L, 0 ≤ x ∧ x ≤ 3) → ∃ s ∈ L, ∀ p ∈ L, ¬ P p s
theorem ex_min (e : Int → Int) : ∀ L : List Int, L ≠ [] → ∃ T ∈ L, ∀ x ∈ L, e T ≤ e x
  | [], h => absurd rfl h
  | [x], _ => ⟨x, List.mem_cons_self .., fun y hy => by simp at hy; rw [hy]; exact Int.le_refl _⟩
  | x :: y :: r, _ => by
    obtain ⟨T, hT, hm⟩ := ex_min e (y :: r) (by simp)
    by_cases hc : e T ≤ e x
    · exact ⟨T, List.mem_cons_of_mem _ hT, fun z hz => (List.mem_cons.1 hz).elim (fun h => h ▸ hc) (hm z)⟩
    · exact ⟨x, List.mem_cons_self .., fun z hz => (List.mem_cons.1 hz).elim (fun h => h ▸ Int.le_refl _) (fun hz => by have := hm z hz; omega)⟩
theorem Src_of {P : Int → Int → Prop} {e : Int → Int} (h : ∀ a b, P a b → e a < e b) : Src P := fun L hL _ => by
  obtain ⟨s, hs, hm⟩ := ex_min e L hL
  exact ⟨s, hs, fun p hp hc => by have := hm p hp; have := h p s hc; omega⟩
/-- A row of bits has a least one. -/
theorem Src.bits {P : Int → Int → Prop} (h : Src P) {m : Nat} (hm : m < 16) (h0 : m ≠ 0) : ∃ s : Nat, s < 4 ∧ m.testBit s = true ∧ ∀ p : Nat, p < 4 → m.testBit p = true → ¬ P p s := by
  obtain ⟨k, hk⟩ := bit_some ⟨m, hm⟩ h0
  obtain ⟨s, hs, hp⟩ := h (([0, 1, 2, 3] : List Int).filter fun x => m.testBit x.toNat) (fun e => by
    have : (k.val : Int) ∈ ([0, 1, 2, 3] : List Int).filter fun x => m.testBit x.toNat := List.mem_filter.2 ⟨by have := k.2; simp; omega, by simpa using hk⟩
    rw [e] at this; cases this) (fun x hx => by have := (List.mem_filter.1 hx).1; simp at this; omega)
  obtain ⟨h1, h2⟩ := List.mem_filter.1 hs
  have h3 : 0 ≤ s ∧ s ≤ 3 := by simp at h1; omega
  refine ⟨s.toNat, by omega, h2, fun p hp4 hpb hc => hp p (List.mem_filter.2 ⟨by simp; omega, by simpa using hpb⟩) ?_⟩
  rw [show ((s.toNat : Nat) : Int) = s by omega] at hc
  exact hc
/-- By two phases and locks for writing, what is in conflict has its last locks in that order. -/
theorem lpF_take_ge {list : List St} {j : Nat} {y : St} {b : Int} (hy : list[j]? = some y) (ht : Takes y b) : (j : Int) ≤ lpF list b := by
  rcases lpF_cases list b with ⟨_, h2⟩ | ⟨i, s, h1, h2, h3, h4⟩
  · exact absurd ht (h2 j y hy)
  · rw [h1]
    by_cases e : i < j
    · exact absurd ht (h4 j y e hy)
    · omega
theorem lp_cf {list : List St} (hv : VS list) (htp : ∀ who, TP list who) (hm : ∀ s ∈ list, s.free = false → s.mode = 5) {a b : Int} (h : Cf (acF list) a b) : lpF list a < lpF list b := by
  obtain ⟨i, j, x, y, hij, hx, hy, ta, tb, hab, hn⟩ := acF_cf h
  have hjb := lpF_take_ge hy tb
  -- a does not hold the node ahead of j
  obtain ⟨m, hmj, hvm⟩ := hv.tab j
  obtain ⟨l', hl', _⟩ := hv.tab (j + 1)
  rw [stepsF_snoc hmj hy, doF_take tb.2] at hl'
  obtain ⟨_, _, hb, _⟩ := takeF_some hl'
  have ha03 := (hv.at hx).1
  rw [ta.1] at ha03
  have htg := blkF_nil hb ha03.1 ha03.2 (by rw [tb.1]; exact hab)
  rw [hm y (List.mem_of_getElem? hy) tb.2, all6 (p := fun h => joinF h 5 = 5) (by decide) _ (heldF_isM hvm _ _)] at htg
  have h0 : heldF m a y.node = 0 := all6 (p := fun h => togF h 5 = true → h = 0) (by decide) _ (heldF_isM hvm _ _) htg
  -- so it has freed it between
  have hfree : ∃ (f : Nat) (z : St), i < f ∧ f < j ∧ list[f]? = some z ∧ z.who = a ∧ z.free = true := by
    have key : ∀ d k, k + d = j → i < k → (∃ mk, stepsF (list.take k) [] = some mk ∧ heldF mk a y.node ≠ 0) → ∃ (f : Nat) (z : St), i < f ∧ f < j ∧ list[f]? = some z ∧ z.who = a ∧ z.free = true := by
      intro d
      induction d with
      | zero =>
        rintro k hk hik ⟨mk, h1, h2⟩
        have : k = j := by omega
        subst this
        rw [hmj] at h1; injection h1 with h1; subst h1
        exact absurd h0 h2
      | succ d ih =>
        rintro k hk hik ⟨mk, h1, h2⟩
        have hjl := (List.getElem?_eq_some_iff.1 hy).1
        have hz : list[k]? = some list[k] := List.getElem?_eq_getElem (by omega)
        generalize list[k] = z at hz
        obtain ⟨mk', h1', _⟩ := hv.tab (k + 1)
        have h1'' := h1'
        rw [stepsF_snoc h1 hz] at h1'
        obtain ⟨mk2, e2, hvk⟩ := hv.tab k
        rw [h1] at e2; injection e2 with e2; subst e2
        have hh := doF_held hvk h1' a y.node
        by_cases hc : a = z.who ∧ y.node = z.node
        · by_cases hf : z.free = true
          · exact ⟨k, z, hik, by omega, hz, hc.1.symm, hf⟩
          · rw [if_pos hc, if_neg hf] at hh
            have hmz := doF_mode h1' hf
            have := joinF_pos (heldF_isM hvk z.who z.node) (show IsM z.mode from ⟨by omega, hmz.2⟩) hmz.1
            exact ih (k + 1) (by omega) (by omega) ⟨mk', h1'', by rw [hh]; omega⟩
        · rw [if_neg hc] at hh
          exact ih (k + 1) (by omega) (by omega) ⟨mk', h1'', by rw [hh]; exact h2⟩
    refine key (j - (i + 1)) (i + 1) (by omega) (by omega) ?_
    obtain ⟨mi, hmi, hvi⟩ := hv.tab i
    obtain ⟨mi', hmi', _⟩ := hv.tab (i + 1)
    have hmi'' := hmi'
    rw [stepsF_snoc hmi hx] at hmi'
    have hh := doF_held hvi hmi' a y.node
    rw [if_pos ⟨ta.1.symm, hn.symm⟩, if_neg (by rw [ta.2]; simp)] at hh
    have hmz := doF_mode hmi' (by rw [ta.2]; simp)
    have := joinF_pos (heldF_isM hvi x.who x.node) (show IsM x.mode from ⟨by omega, hmz.2⟩) hmz.1
    exact ⟨mi', hmi'', by rw [hh]; omega⟩
  obtain ⟨f, z, hif, hfj, hz, hzw, hzf⟩ := hfree
  have hlt : lpF list a < f := by
    rcases lpF_cases list a with ⟨h1, _⟩ | ⟨p, s, h1, h2, h3, _⟩
    · rw [h1]; omega
    · rw [h1]
      have : ¬ f ≤ p := fun hle => by
        rcases Nat.lt_or_ge f p with e | e
        · exact htp a f p z s e hz h2 hzw hzf h3
        · have : f = p := by omega
          subst this
          rw [hz] at h2; injection h2 with h2; subst h2
          rw [h3.2] at hzf; cases hzf
      omega
  omega
theorem pl_lt {list : List St} {a b : Int} (ha : 0 ≤ lpF list a) (h : lpF list a < lpF list b) : plF (lpoF list) a ≤ plF (lpoF list) b := by
  unfold plF
  rcases plL_spec a (lpoF list) 0 with ⟨_, h2⟩ | ⟨i, h1, h2⟩
  · exact absurd (lpo_mem.2 ha) h2
  · rcases plL_spec b (lpoF list) 0 with ⟨_, h4⟩ | ⟨j, h3, h4⟩
    · exact absurd (lpo_mem.2 (by omega)) h4
    · rw [h1, h3]
      by_cases e : j < i
      · obtain ⟨hi, ei⟩ := List.getElem?_eq_some_iff.1 h2
        obtain ⟨hj, ej⟩ := List.getElem?_eq_some_iff.1 h4
        have := List.pairwise_iff_getElem.1 (lpo_pair list) j i hj hi e
        rw [ei, ej] at this
        omega
      · omega
theorem cf_pos {list : List St} {a b : Int} (h : Cf (acF list) a b) : 0 ≤ lpF list a := by
  obtain ⟨i, _, x, _, _, hx, _, ta, _⟩ := acF_cf h
  have := lpF_take_ge hx ta
  omega

/-- A transaction waits for another one, also by way of others. -/
inductive Rch (l : List Wt) : Int → Int → Prop
  | one (x : Wt) : x ∈ l → Rch l x.who x.tgt
  | more (x : Wt) (a : Int) : x ∈ l → Rch l a x.who → Rch l a x.tgt
theorem Rch.first {l : List Wt} {a b : Int} (h : Rch l a b) : ∃ x ∈ l, x.who = a ∧ (x.tgt = b ∨ Rch l x.tgt b) := by
  induction h with
  | one x hx => exact ⟨x, hx, rfl, .inl rfl⟩
  | more x a hx _ ih =>
    obtain ⟨y, hy, h1, h2⟩ := ih
    refine ⟨y, hy, h1, .inr ?_⟩
    rcases h2 with h2 | h2
    · rw [h2]; exact .one x hx
    · exact .more x _ hx h2
theorem Rch.trans {l : List Wt} {a b c : Int} (h : Rch l a b) (h' : Rch l b c) : Rch l a c := by
  induction h' with
  | one x hx => exact .more x a hx h
  | more x _ hx _ ih => exact .more x a hx (ih h)
theorem ex_sink {R : Int → Int → Prop} (ht : ∀ a b c, R a b → R b c → R a c) (hi : ∀ a, ¬ R a a) : ∀ L : List Int, L ≠ [] → ∃ s ∈ L, ∀ p ∈ L, ¬ R s p
  | [], h => absurd rfl h
  | [x], _ => ⟨x, List.mem_cons_self .., fun p hp => by simp at hp; rw [hp]; exact hi x⟩
  | x :: y :: r, _ => by
    classical
    obtain ⟨s, hs, hm⟩ := ex_sink ht hi (y :: r) (by simp)
    by_cases hc : R s x
    · refine ⟨x, List.mem_cons_self .., fun p hp hxp => ?_⟩
      rcases List.mem_cons.1 hp with rfl | hp
      · exact hi _ hxp
      · exact hm p hp (ht _ _ _ hc hxp)
    · exact ⟨s, List.mem_cons_of_mem _ hs, fun p hp => (List.mem_cons.1 hp).elim (fun e => e ▸ hc) (hm p)⟩
/-- Waits that are valid. -/
def VW (l : List Wt) : Prop := l.length ≤ 12 ∧ ∀ x ∈ l, (0 ≤ x.who ∧ x.who ≤ 3) ∧ (0 ≤ x.tgt ∧ x.tgt ≤ 3) ∧ x.who ≠ x.tgt
theorem mark_len3 {f : Int → Bool} {k : Int} (h0 : 0 ≤ k) (h3 : k ≤ 3) (h : f k = false) : (markL f).length ≤ 3 := by
  unfold markL
  have h1 : (([0, 1, 2, 3] : List Int).filter f).length < ([0, 1, 2, 3] : List Int).length := by
    rw [List.length_filter_lt_length_iff_exists]
    exact ⟨k, by simp; omega, by rw [h]; simp⟩
  simp only [List.length_cons, List.length_nil] at h1
  omega
theorem lbF_len3 {l : List Lk} {who node mode : Int} (h : 0 ≤ who ∧ who ≤ 3) : (lbF l who node mode).length ≤ 3 := by
  unfold lbF
  split
  · exact mark_len3 h.1 h.2 (by simp)
  · simp
theorem lbF_mem {l : List Lk} {who node mode t : Int} (h : t ∈ lbF l who node mode) : (0 ≤ t ∧ t ≤ 3) ∧ who ≠ t := by
  unfold lbF at h
  split at h
  · have := blkF_mem h
    exact ⟨⟨this.1, this.2.1⟩, fun e => this.2.2.1 e.symm⟩
  · cases h

theorem Rch.acyclic {l : List Wt} {P : Int → Int → Prop} (hs : Src P) (hv : ∀ x ∈ l, 0 ≤ x.who ∧ x.who ≤ 3) (hp : ∀ x ∈ l, P x.tgt x.who) (a : Int) : ¬ Rch l a a := by
  classical
  intro h
  have ha : 0 ≤ a ∧ a ≤ 3 := by
    obtain ⟨x, hx, rfl, _⟩ := h.first
    exact hv x hx
  obtain ⟨s, hsL, hsrc⟩ := hs (([0, 1, 2, 3] : List Int).filter fun x => decide (Rch l a x ∧ Rch l x a)) (fun e => by
    have : a ∈ ([0, 1, 2, 3] : List Int).filter fun x => decide (Rch l a x ∧ Rch l x a) := List.mem_filter.2 ⟨by simp; omega, decide_eq_true ⟨h, h⟩⟩
    rw [e] at this; cases this) (fun x hx => by have := (List.mem_filter.1 hx).1; simp at this; omega)
  obtain ⟨h1, h2⟩ := of_decide_eq_true (List.mem_filter.1 hsL).2
  obtain ⟨x, hx, rfl, h3⟩ := h2.first
  have h4 : Rch l a x.tgt := .more x a hx h1
  have h5 : Rch l x.tgt a := by
    rcases h3 with h3 | h3
    · rw [h3]; exact h
    · exact h3
  have h6 : 0 ≤ x.tgt ∧ x.tgt ≤ 3 := by
    obtain ⟨y, hy, h7, _⟩ := h5.first
    rw [← h7]; exact hv y hy
  exact hsrc x.tgt (List.mem_filter.2 ⟨by simp; omega, decide_eq_true ⟨h4, h5⟩⟩) (hp x hx)

/-- A lock that is asked for behind steps that go along a tree: on a node directly below one that is held. -/
def AskOk (t : List Nd) (list : List St) (m : List Lk) (x : Lk) : Prop := (0 ≤ x.who ∧ x.who ≤ 3) ∧ (1 ≤ x.node ∧ x.node < t.length) ∧ x.mode = 5 ∧ (∀ s ∈ list, ¬ (s.who = x.who ∧ s.node = x.node)) ∧ heldF m x.who (upN t x.node) = 5
theorem AskOk.ask {t : List Nd} {list : List St} {m : List Lk} {x : Lk} (hv : VT t) (h : AskOk t list m x) : OkAsk x.who x.node x.mode := ⟨h.1, ⟨by have := h.2.1.1; omega, by have := h.2.1.2; have := hv.2.1; omega⟩, by rw [h.2.2.1]; omega, by rw [h.2.2.1]; omega⟩
/-- Waits of what is asked for have an order. -/
theorem GA.asks {t : List Nd} {list : List St} {m : List Lk} {asks : List Lk} (h : GA t list) (hm : tabF list = some m) (ha : ∀ x ∈ asks, AskOk t list m x) :
    ∃ P : Int → Int → Prop, Src P ∧ ∀ x ∈ asks, ∀ o ∈ lbF m x.who x.node x.mode, P o x.who := by
  have hvm := tabF_VTb hm
  obtain ⟨_, hm'⟩ := tabF_some hm
  obtain ⟨τ, t1, t2, ht⟩ := h.tree (fun a n => ∃ x ∈ asks, x.who = a ∧ x.node = n) (by
    rintro a n ⟨x, hx, rfl, rfl⟩
    obtain ⟨h1, h2, _, h4, h5⟩ := ha x hx
    refine ⟨h1.1, h1.2, ⟨m, by rw [List.take_length]; exact hm', by rw [h5]; decide⟩, ?_, ?_⟩
    · obtain ⟨k, hk⟩ := Int.eq_ofNat_of_zero_le (a := x.node) (by omega)
      have hx2 : t[x.node.toNat]? = some t[x.node.toNat] := List.getElem?_eq_getElem (by omega)
      have := h.1.parn hx2
      unfold upN
      rw [hx2]
      simp only
      omega
    · rintro i ⟨s, hs, hta, hn⟩
      exact h4 s (List.mem_of_getElem? hs) ⟨hta.1, hn⟩)
  refine ⟨Bef _ τ, fun L hL _ => ht.source _ L (Nat.le_refl _) hL, fun x hx o ho => ?_⟩
  have hok := (ha x hx).ask h.1
  rw [lbF_yes hvm hok] at ho
  have hh : heldF m o x.node ≠ 0 := fun e => by
    have h4 := (blkF_mem ho).2.2.2
    rw [e, togF_zero _ (joinF_isM (heldF_isM hvm _ _) hok.isM)] at h4
    cases h4
  obtain ⟨i, hi, hti, _⟩ := HoldsAt.since h.2.1 list.length (Nat.le_refl _) ⟨m, by rw [List.take_length]; exact hm', hh⟩
  exact ⟨x.node, .inl ⟨i, hti⟩, .inr ⟨x, hx, rfl, rfl⟩, by rw [t1 i o _ hti, t2 x.who x.node ⟨x, hx, rfl, rfl⟩]; exact hi⟩

set_option maxHeartbeats 1000000 in
theorem marked_any (f : Int → Bool) (w : World) :
    Calls Tryd.prog 25 #[.agg #[.bool (f 0), .bool (f 1), .bool (f 2), .bool (f 3)]] w (IntsP w (markL f)) := by
  generalize h0 : f 0 = b0
  generalize h1 : f 1 = b1
  generalize h2 : f 2 = b2
  generalize h3 : f 3 = b3
  have hF : ∀ k : Nat, k < 4 → f k = (match k with | 0 => b0 | 1 => b1 | 2 => b2 | _ => b3) := by
    intro k hk
    match k, hk with
    | 0, _ => exact h0
    | 1, _ => exact h1
    | 2, _ => exact h2
    | 3, _ => exact h3
  have HF := Lib.hid hF
  have HM : Hid ((([0, 1, 2, 3] : List Int).take 4).filter f = markL f) := (rfl : _ = _)
  clear h0 h1 h2 h3 hF
  have i0 : ∀ w, (Instr.index 51 (.agg #[.bool b0, .bool b1, .bool b2, .bool b3]) (.int .i64 0)).run Tryd.prog w = .ok (.bool b0) w := fun _ => by kernel_rfl
  have i1 : ∀ w, (Instr.index 51 (.agg #[.bool b0, .bool b1, .bool b2, .bool b3]) (.int .i64 1)).run Tryd.prog w = .ok (.bool b1) w := fun _ => by kernel_rfl
  have i2 : ∀ w, (Instr.index 51 (.agg #[.bool b0, .bool b1, .bool b2, .bool b3]) (.int .i64 2)).run Tryd.prog w = .ok (.bool b2) w := fun _ => by kernel_rfl
  have i3 : ∀ w, (Instr.index 51 (.agg #[.bool b0, .bool b1, .bool b2, .bool b3]) (.int .i64 3)).run Tryd.prog w = .ok (.bool b3) w := fun _ => by kernel_rfl
  go_enter Tryd.func25, Tryd.ntmps25
  go_wp2_with fail
  go_loopw [3, 7] (fun v i wr => ∃ k : Nat, k ≤ 4 ∧ i = .int .i64 k ∧ Own cI 1 3 wr w.heap.size v ((([0, 1, 2, 3] : List Int).take k).filter f) ∧ Below w.heap.size w wr) (fun _ i _ => 4 - (intOf i).toNat)
  case atStart => exact ⟨0, Nat.zero_le _, rfl, Own.nil _ _, (Below.refl _ _).alloc (Nat.le_refl _) _⟩
  case round =>
    obtain ⟨k, hk, rfl, ho, hbl⟩ := hrel
    have hs := hbl.size
    by_cases hlt : k < 4
    case neg =>
      obtain rfl : k = 4 := by omega
      rw [HM.out] at ho
      go_wp2_with fail
      go_ret
      exact ⟨_, rfl, ho, hbl⟩
    have hml := mark_len f k
    have hf := HF.out k hlt
    obtain rfl | rfl | rfl | rfl : k = 0 ∨ k = 1 ∨ k = 2 ∨ k = 3 := by omega
    all_goals simp only at hf
    · cases b0
      · have HS := Lib.hid (mark_f hlt hf)
        clear hf
        go_wp2_with fail
        go_roundw
        case rel => exact ⟨1, by omega, by go_num, by rw [HS.out]; exact ho, hbl⟩
        case measure => simp [intOf]
      · have HS := Lib.hid (mark_t hlt hf)
        clear hf
        go_wp2_with (at_builtin; refine wpList_append_rd elI _ rfl (.tmp 12) (.tmp 14) rfl rfl (ho.alloc _) rfl (Rd_one _ #[.int .i64 0] 3 0 rfl) (by omega) (by simp; omega) ?_; intro v3 w3 ho3 hg3 _)
        have hb3 := below_own (hbl.alloc hs _) (ho.alloc (.cells #[.int .i64 0] 3)) hg3 (Nat.le_refl _) (by simp; omega)
        go_roundw
        case rel => exact ⟨1, by omega, by go_num, by rw [HS.out]; exact ho3, hb3⟩
        case measure => simp [intOf]
    · cases b1
      · have HS := Lib.hid (mark_f hlt hf)
        clear hf
        go_wp2_with fail
        go_roundw
        case rel => exact ⟨2, by omega, by go_num, by rw [HS.out]; exact ho, hbl⟩
        case measure => simp [intOf]
      · have HS := Lib.hid (mark_t hlt hf)
        clear hf
        go_wp2_with (at_builtin; refine wpList_append_rd elI _ rfl (.tmp 12) (.tmp 14) rfl rfl (ho.alloc _) rfl (Rd_one _ #[.int .i64 1] 3 1 rfl) (by omega) (by simp; omega) ?_; intro v3 w3 ho3 hg3 _)
        have hb3 := below_own (hbl.alloc hs _) (ho.alloc (.cells #[.int .i64 1] 3)) hg3 (Nat.le_refl _) (by simp; omega)
        go_roundw
        case rel => exact ⟨2, by omega, by go_num, by rw [HS.out]; exact ho3, hb3⟩
        case measure => simp [intOf]
    · cases b2
      · have HS := Lib.hid (mark_f hlt hf)
        clear hf
        go_wp2_with fail
        go_roundw
        case rel => exact ⟨3, by omega, by go_num, by rw [HS.out]; exact ho, hbl⟩
        case measure => simp [intOf]
      · have HS := Lib.hid (mark_t hlt hf)
        clear hf
        go_wp2_with (at_builtin; refine wpList_append_rd elI _ rfl (.tmp 12) (.tmp 14) rfl rfl (ho.alloc _) rfl (Rd_one _ #[.int .i64 2] 3 2 rfl) (by omega) (by simp; omega) ?_; intro v3 w3 ho3 hg3 _)
        have hb3 := below_own (hbl.alloc hs _) (ho.alloc (.cells #[.int .i64 2] 3)) hg3 (Nat.le_refl _) (by simp; omega)
        go_roundw
        case rel => exact ⟨3, by omega, by go_num, by rw [HS.out]; exact ho3, hb3⟩
        case measure => simp [intOf]
    · cases b3
      · have HS := Lib.hid (mark_f hlt hf)
        clear hf
        go_wp2_with fail
        go_roundw
        case rel => exact ⟨4, by omega, by go_num, by rw [HS.out]; exact ho, hbl⟩
        case measure => simp [intOf]
      · have HS := Lib.hid (mark_t hlt hf)
        clear hf
        go_wp2_with (at_builtin; refine wpList_append_rd elI _ rfl (.tmp 12) (.tmp 14) rfl rfl (ho.alloc _) rfl (Rd_one _ #[.int .i64 3] 3 3 rfl) (by omega) (by simp; omega) ?_; intro v3 w3 ho3 hg3 _)
        have hb3 := below_own (hbl.alloc hs _) (ho.alloc (.cells #[.int .i64 3] 3)) hg3 (Nat.le_refl _) (by simp; omega)
        go_roundw
        case rel => exact ⟨4, by omega, by go_num, by rw [HS.out]; exact ho3, hb3⟩
        case measure => simp [intOf]

theorem Own.pop {w : World} {e : TypeId} {base m : Nat} {v : Value} {l : List Int} {x : Int} (h : Own cI 1 e w base v (l ++ [x])) (hv : ∃ g cap, v = .slice (some ⟨g, 0, none⟩) m cap) : ∃ g cap, v = .slice (some ⟨g, 0, none⟩) m cap ∧ m = l.length + 1 ∧ m ≤ cap ∧ Own cI 1 e w base (.slice (some ⟨g, 0, none⟩) (m - 1) cap) l := by
  obtain ⟨g, cap, rfl⟩ := hv
  rcases h.2 with ⟨h1, _⟩ | ⟨g2, cap2, cur, h1, h2, h3, h4, h5, h6, h7⟩
  · simp at h1
  · simp only [Value.slice.injEq, Option.some.injEq, Addr.mk.injEq, and_true] at h1
    obtain ⟨rfl, hm, rfl⟩ := h1
    simp only [List.length_append, List.length_cons, List.length_nil] at hm h4 h7
    refine ⟨_, _, rfl, by omega, by omega, by simp [flat_len (cs := cI) (sz := 1) (fun _ => rfl)], .inr ⟨g, cap, cur, ?_, h2, h3, by omega, h5, h6, ?_⟩⟩
    · rw [show m - 1 = l.length by omega]
    · have : cur.toList.take (l.length * 1) = (cur.toList.take ((l.length + 1) * 1)).take (l.length * 1) := by rw [List.take_take]; congr 1; omega
      rw [this, h7, List.flatMap_append]
      rw [List.take_append_of_le_length (by rw [flat_len (cs := cI) (sz := 1) (fun _ => rfl)]; exact Nat.le_refl _), List.take_of_length_le (by rw [flat_len (cs := cI) (sz := 1) (fun _ => rfl)]; exact Nat.le_refl _)]
theorem Own.pop' {w : World} {e : TypeId} {base m g cap : Nat} {l : List Int} {x : Int} (h : Own cI 1 e w base (.slice (some ⟨g, 0, none⟩) m cap) (l ++ [x])) : m = l.length + 1 ∧ m ≤ cap ∧ Own cI 1 e w base (.slice (some ⟨g, 0, none⟩) (m - 1) cap) l := by
  obtain ⟨g', cap', h1, h2, h3, h4⟩ := h.pop ⟨_, _, rfl⟩
  simp only [Value.slice.injEq, Option.some.injEq, Addr.mk.injEq, and_true, true_and] at h1
  obtain ⟨rfl, rfl⟩ := h1
  exact ⟨h2, h3, h4⟩
/-- What holds of the search: what is seen and what is still to be looked at. -/
structure Srch (l : List Wt) (who : Int) (g : Int → Bool) (S : List Int) : Prop where
  snd : ∀ x, g x = true → Rch l who x
  stk : ∀ x ∈ S, x = who ∨ g x = true
  cls : ∀ e ∈ l, (e.who = who ∨ g e.who = true) → e.who ∉ S → g e.tgt = true
structure Srch1 (l : List Wt) (who : Int) (a : Int) (k : Nat) (g : Int → Bool) (S : List Int) : Prop where
  snd : ∀ x, g x = true → Rch l who x
  top : a = who ∨ g a = true
  stk : ∀ x ∈ S, x = who ∨ g x = true
  cls : ∀ (i : Nat) (e : Wt), l[i]? = some e → (e.who = who ∨ g e.who = true) → e.who ∉ S → (e.who ≠ a ∨ i < k) → g e.tgt = true
theorem Srch.start {l : List Wt} {who : Int} : Srch l who (fun _ => false) [who] := ⟨fun _ h => (by cases h), fun x hx => (by simp at hx; exact .inl hx), fun e _ h hn => (by
  rcases h with h | h
  · exact absurd (by rw [h]; exact List.mem_cons_self ..) hn
  · cases h)⟩
theorem Srch.pop {l : List Wt} {who a : Int} {g : Int → Bool} {S : List Int} (h : Srch l who g (S ++ [a])) : Srch1 l who a 0 g S :=
  ⟨h.snd, h.stk a (by simp), fun x hx => h.stk x (by simp [hx]), fun i e he h1 h2 h3 => h.cls e (List.mem_of_getElem? he) h1 (by
    rcases h3 with h3 | h3
    · simp [h2, h3]
    · omega)⟩
theorem Srch1.done {l : List Wt} {who a : Int} {g : Int → Bool} {S : List Int} {n : Nat} (hn : l.length = n) (h : Srch1 l who a n g S) : Srch l who g S :=
  ⟨h.snd, h.stk, fun e he h1 h2 => by
    obtain ⟨i, hi⟩ := List.mem_iff_getElem?.1 he
    exact h.cls i e hi h1 h2 (.inr (by have := (List.getElem?_eq_some_iff.1 hi).1; omega))⟩
theorem Srch1.skip {l : List Wt} {who a : Int} {g : Int → Bool} {S : List Int} {k : Nat} {e : Wt} (h : Srch1 l who a k g S) (he : l[k]? = some e) (hs : e.who ≠ a ∨ g e.tgt = true) : Srch1 l who a (k + 1) g S :=
  ⟨h.snd, h.top, h.stk, fun i x hx h1 h2 h3 => by
    by_cases e1 : i = k
    · subst e1; rw [he] at hx; injection hx with hx; subst hx
      rcases hs with hs | hs
      · exact h.cls i _ he h1 h2 (.inl hs)
      · exact hs
    · exact h.cls i x hx h1 h2 (h3.imp id fun h => by omega)⟩
theorem Srch1.push {l : List Wt} {who a : Int} {g : Int → Bool} {S : List Int} {k : Nat} {e : Wt} (h : Srch1 l who a k g S) (he : l[k]? = some e) (ha : e.who = a) : Srch1 l who a (k + 1) (fun x => decide (e.tgt = x) || g x) (S ++ [e.tgt]) :=
  ⟨fun x hx => by
    simp only [Bool.or_eq_true, decide_eq_true_eq] at hx
    rcases hx with rfl | hx
    · rcases h.top with h1 | h1
      · have := Rch.one e (List.mem_of_getElem? he)
        rw [ha, h1] at this; exact this
      · exact Rch.more e who (List.mem_of_getElem? he) (by rw [ha]; exact h.snd a h1)
    · exact h.snd x hx, h.top.imp id fun h => by simp [h], fun x hx => by
      rcases List.mem_append.1 hx with hx | hx
      · exact (h.stk x hx).imp id fun h => by simp [h]
      · simp at hx; exact .inr (by simp [hx]), fun i x hx h1 h2 h3 => by
      simp only [List.mem_append, List.mem_singleton, not_or] at h2
      have h1' : x.who = who ∨ g x.who = true := h1.imp id fun h => by
        simp only [Bool.or_eq_true, decide_eq_true_eq] at h
        exact h.resolve_left fun e => h2.2 e.symm
      by_cases e1 : i = k
      · subst e1; rw [he] at hx; injection hx with hx; subst hx; simp
      · have := h.cls i x hx h1' h2.1 (h3.imp id fun h => by omega)
        simp [this]⟩
theorem Srch.all {l : List Wt} {who : Int} {g : Int → Bool} (h : Srch l who g []) (x : Int) : g x = true ↔ Rch l who x := by
  refine ⟨h.snd x, fun hr => ?_⟩
  have hg : ∀ a b, Rch l a b → a = who → g b = true := by
    intro a b hr
    induction hr with
    | one e he => exact fun ha => h.cls e he (.inl ha) (by simp)
    | more e a he _ ih => exact fun ha => h.cls e he (.inr (ih ha)) (by simp)
  exact hg _ _ hr rfl
def unF (g : Int → Bool) : Nat := (if g 0 then 0 else 1) + (if g 1 then 0 else 1) + (if g 2 then 0 else 1) + (if g 3 then 0 else 1)
theorem unF_push {g : Int → Bool} {k : Int} (h0 : 0 ≤ k) (h3 : k ≤ 3) (h : g k = false) : unF (fun x => decide (k = x) || g x) + 1 = unF g := by
  obtain rfl | rfl | rfl | rfl : k = 0 ∨ k = 1 ∨ k = 2 ∨ k = 3 := by omega
  all_goals (unfold unF; simp [h] <;> omega)
theorem marks_at (g : Int → Bool) {k : Nat} (hlt : k < 4) : (#[.bool (g 0), .bool (g 1), .bool (g 2), .bool (g 3)] : Array Value)[k]? = some (.bool (g k)) := by
  match k, hlt with
  | 0, _ => rfl
  | 1, _ => rfl
  | 2, _ => rfl
  | 3, _ => rfl
theorem marks_set (g : Int → Bool) {k : Nat} (hlt : k < 4) : (#[.bool (g 0), .bool (g 1), .bool (g 2), .bool (g 3)] : Array Value).setIfInBounds k (.bool true) =
    #[.bool (decide ((k : Int) = 0) || g 0), .bool (decide ((k : Int) = 1) || g 1), .bool (decide ((k : Int) = 2) || g 2), .bool (decide ((k : Int) = 3) || g 3)] := by
  match k, hlt with
  | 0, _ => rfl
  | 1, _ => rfl
  | 2, _ => rfl
  | 3, _ => rfl
theorem ValidWaits_t (lo : Nat) (A : Option Addr) (n c : Nat) (l : List Wt) (w : World) (hr : Rd cW 2 w lo A n l) (hv : VW l) :
    Calls Tryd.prog 48 #[.slice A n c] w fun e w' => e = .returned (.bool true) ∧ Below w.heap.size w w' := by
  have HL := Lib.hid hr.len
  have HV := Lib.hid hv.2
  have hn12 : n ≤ 12 := by have := hv.1; have := HL.out; omega
  have h12 : ¬ (12 : Int) < (n : Int) := by omega
  clear hv
  go_enter Tryd.func48, Tryd.ntmps48
  go_wp2_with fail
  go_loopw [10] (fun i wr => ∃ k : Nat, k ≤ n ∧ i = .int .i64 k ∧ Below w.heap.size w wr) (fun i _ => n - (intOf i).toNat)
  case atStart => exact ⟨0, Nat.zero_le _, rfl, Below.refl _ _⟩
  case round =>
    rename World => W1
    obtain ⟨k, hk, rfl, hbl⟩ := hrel
    have hs := hbl.size
    by_cases hlt : k < n
    case neg =>
      go_wp2_with fail
      go_ret
      exact ⟨rfl, hbl⟩
    obtain ⟨b, o, x, rfl, _, hb, hx, g0, g1⟩ := (hr.below hbl).atW hlt
    obtain ⟨⟨a1, a2⟩, ⟨b1, b2⟩, hne⟩ := HV.out x (List.mem_of_getElem? hx)
    have hne' : (x.who == x.tgt) = false := by simpa using hne
    clear hx hr hne
    go_wp2_with (go_at_call 31; refine (within_t _ _ _ _ (by assumption) (by assumption)).mono ?_; rintro e w3 ⟨rfl, rfl⟩)
    go_roundw
    case rel => exact ⟨k + 1, by omega, by go_num, hbl.alloc hs _⟩
    case measure => simp [intOf]; omega
/-- The unseen of a block of marks. -/
def unW (b : Nat) (w : World) : Nat := match w.heap[b]? with
  | some (.cells cs _ _) => cs.toList.countP fun v => match v with | .bool false => true | _ => false
  | _ => 0
theorem unW_eq {b : Nat} {w : World} {g : Int → Bool} {t : TypeId} (h : w.heap[b]? = some (.cells #[.bool (g 0), .bool (g 1), .bool (g 2), .bool (g 3)] t (0, 0))) : unW b w = unF g := by
  unfold unW unF
  rw [h]
  simp only
  cases g 0 <;> cases g 1 <;> cases g 2 <;> cases g 3 <;> rfl
theorem Rch.ends {l : List Wt} (hv : VW l) {a b : Int} (h : Rch l a b) : 0 ≤ b ∧ b ≤ 3 := by
  cases h with
  | one x hx => exact (hv.2 x hx).2.1
  | more x _ hx _ => exact (hv.2 x hx).2.1
set_option maxHeartbeats 3200000 in
set_option maxRecDepth 100000 in
theorem WaitsFor_t (lo : Nat) (A : Option Addr) (n c : Nat) (l : List Wt) (who : Int) (w : World) (hr : Rd cW 2 w lo A n l) (hv : VW l) (_ : 0 ≤ who ∧ who ≤ 3) :
    Calls Tryd.prog 24 #[.slice A n c, .int .i64 who] w fun e w' => ∃ f : Int → Bool, (∀ x, f x = true ↔ Rch l who x) ∧ IntsP w (markL f) e w' := by
  have HL := Lib.hid hr.len
  have HV := Lib.hid hv
  have hn12 : n ≤ 12 := by have := hv.1; have := HL.out; omega
  have HC := Lib.hid (ValidWaits_t lo A n c l w hr hv)
  clear hv
  go_enter Tryd.func24, Tryd.ntmps24
  go_wp2_with fail
  refine HC.out.mono ?_
  rintro e w1 ⟨rfl, hb1⟩
  have hr1 := hr.below hb1
  have hs1 := hb1.size
  clear hr
  have hS0 := heap_alloc_new w1 (.cells #[.bool false, .bool false, .bool false, .bool false] 51)
  have hS1 := blk_alloc hS0 (.cells #[.int .i64 who] 3)
  have ho0 : Own cI 1 3 ((w1.alloc (.cells #[.bool false, .bool false, .bool false, .bool false] 51)).alloc (.cells #[.int .i64 who] 3)) (w1.heap.size + 1) (.slice (some ⟨w1.heap.size + 1, 0, none⟩) 1 1) [who] := by
    have := Own.lit (cs := cI) (sz := 1) (e := 3) (w1.alloc (.cells #[.bool false, .bool false, .bool false, .bool false] 51)) #[.int .i64 who] [who] (by simp) (fun _ => rfl) rfl
    rw [World.size_alloc] at this; exact this
  have hbA := ((Below.refl w1.heap.size w1).alloc (Nat.le_refl _) (.cells #[.bool false, .bool false, .bool false, .bool false] 51)).alloc (by simp) (.cells #[.int .i64 who] 3)
  clear hS0
  go_wp2_with fail
  go_loopw [6] (fun v wr => ∃ (g : Int → Bool) (S : List Int) (q m cap : Nat), v = .slice (some ⟨q, 0, none⟩) m cap ∧ Own cI 1 3 wr (w1.heap.size + 1) v S ∧ S.length + unF g ≤ 5 ∧ Below w1.heap.size w1 wr ∧
      wr.heap[w1.heap.size]? = some (.cells #[.bool (g 0), .bool (g 1), .bool (g 2), .bool (g 3)] 51 (0, 0)) ∧ Srch l who g S) (fun v wr => 2 * unW w1.heap.size wr + lenV v)
  case atStart => exact ⟨fun _ => false, [who], _, _, _, rfl, ho0, by simp [unF], hbA, hS1, Srch.start⟩
  case round =>
    rename World => W1
    obtain ⟨g, S, q, m, cap, rfl, ho, hlen, hbl, hG, hsr⟩ := hrel
    have hs := hbl.size
    have hm := ho.lenV
    simp only [Go.Proofs.YtcefgabdffipgaaDoor.lenV] at hm
    rcases S.eq_nil_or_concat with hS | ⟨S', a, hS⟩
    · subst hS
      simp only [List.length_nil] at hm
      subst hm
      have HA := Lib.hid hsr.all
      have e0 := blk_cell (i := 0) hG rfl
      have e1 := blk_cell (i := 1) hG rfl
      have e2 := blk_cell (i := 2) hG rfl
      have e3 := blk_cell (i := 3) hG rfl
      clear hsr hG ho
      go_wp2_with fail
      refine (marked_any g _).mono ?_
      rintro e w2 ⟨v, rfl, ho2, hb2⟩
      have hB := hb1.trans ((hbl.trans (hb2.mono hs)).mono hs1)
      go_wp2_with fail
      go_ret
      exact ⟨g, HA.out, _, rfl, ho2.low (Nat.le_trans hs1 hs), hB⟩
    rw [List.concat_eq_append] at hS
    subst hS
    obtain ⟨hm1, hmc, hpop⟩ := ho.pop'
    obtain ⟨_, hrd⟩ := ho.rds (fun _ => rfl) (by omega)
    obtain ⟨k, hk⟩ : ∃ k, k = S'.length := ⟨_, rfl⟩
    rw [← hk] at hm1
    subst hm1
    obtain ⟨b', o', x, hA', _, _, hx, g0⟩ := hrd.atI (k := k) (by omega)
    simp only [Option.some.injEq, Addr.mk.injEq, and_true] at hA'
    obtain ⟨rfl, rfl⟩ := hA'
    have hxa : x = a := by
      rw [hk] at hx
      simpa using hx.symm
    subst hxa
    simp only [Nat.zero_add] at g0
    have HS1 := Lib.hid hsr.pop
    have HG := Lib.hid hG
    have HK := Lib.hid hk
    have hk4 : k ≤ 4 := by simp only [List.length_append, List.length_cons, List.length_nil] at hlen; omega
    have HLN : Hid (S'.length + unF g ≤ 4) := by simp only [List.length_append, List.length_cons, List.length_nil] at hlen; unfold Hid; omega
    clear hsr hG hk hx hrd hlen hm ho
    have HPOP := Lib.hid hpop
    clear hpop
    go_wp2_with fail
    go_loopw [6, 31] (fun v i wr => ∃ (j : Nat) (g' : Int → Bool) (S : List Int) (q m cap : Nat), j ≤ n ∧ i = .int .i64 j ∧ v = .slice (some ⟨q, 0, none⟩) m cap ∧ Own cI 1 3 wr (w1.heap.size + 1) v S ∧ S.length + unF g' ≤ 4 ∧ 2 * unF g' + S.length ≤ 2 * unF g + k ∧ Below w1.heap.size w1 wr ∧
      wr.heap[w1.heap.size]? = some (.cells #[.bool (g' 0), .bool (g' 1), .bool (g' 2), .bool (g' 3)] 51 (0, 0)) ∧ Srch1 l who x j g' S) (fun _ i _ => n - (intOf i).toNat)
    case atStart => exact ⟨0, g, S', q, k, cap, Nat.zero_le _, rfl, rfl, HPOP.out, HLN.out, by rw [HK.out]; exact Nat.le_refl _, hbl, HG.out, HS1.out⟩
    case round =>
      rename World => W2
      obtain ⟨j, g', S, q', m', cap', hj, rfl, rfl, ho, hl4, hms, hbl2, hG2, hsr⟩ := hrel
      have hs2 := hbl2.size
      by_cases hlt : j < n
      case neg =>
        obtain rfl : j = n := by omega
        have HD := Lib.hid (hsr.done HL.out)
        have HM := Lib.hid ho.lenV
        have HG2 := Lib.hid hG2
        clear hsr hG2
        go_wp2_with fail
        go_roundw
        case rel => exact ⟨g', S, q', m', cap', rfl, ho, by omega, hbl2, HG2.out, HD.out⟩
        case measure =>
          have h1 := HM.out
          rw [unW_eq HG2.out, unW_eq HG.out, h1]
          simp only [Go.Proofs.YtcefgabdffipgaaDoor.lenV]
          omega
      obtain ⟨b, o, e, rfl, _, hb, hx, c0, c1⟩ := (hr1.below hbl2).atW hlt
      obtain ⟨_, ⟨t0, t3⟩, _⟩ := HV.out.2 e (List.mem_of_getElem? hx)
      obtain ⟨ew, et⟩ := e
      simp only at t0 t3 c0 c1
      obtain ⟨kt, rfl⟩ := Int.eq_ofNat_of_zero_le t0
      have hkt : kt < 4 := by omega
      have hkt' : (kt : Int) < 4 := by omega
      have HX := Lib.hid hx
      have HSR := Lib.hid hsr
      have HB3 := Lib.hid (hbl2.alloc hs2 (.cells #[.int .i64 ew, .int .i64 kt] 55))
      have hG3 := blk_alloc hG2 (.cells #[.int .i64 ew, .int .i64 kt] 55)
      have HO3 := Lib.hid (ho.alloc (.cells #[.int .i64 ew, .int .i64 kt] 55))
      have HQ : Hid (w1.heap.size + 1 ≤ q' ∧ q' < W2.heap.size) := ho.blk _ rfl
      have z0 := blk_free hG3 kt
      have z1 := blk_cell hG3 (marks_at g' hkt)
      have HG3 := Lib.hid hG3
      clear hx hsr hG2 hG3 ho
      by_cases e1 : ew = x
      case neg =>
        have e1' : (ew == x) = false := by simpa using e1
        have HN := Lib.hid (HSR.out.skip HX.out (.inl e1))
        clear e1
        go_wp2_with fail
        go_roundw
        case rel => exact ⟨j + 1, g', S, q', m', cap', by omega, by go_num, rfl, HO3.out, hl4, hms, HB3.out, HG3.out, HN.out⟩
        case measure => simp [intOf]; omega
      subst e1
      cases hgt : g' kt with
      | true =>
        rw [hgt] at z1
        have HN := Lib.hid (HSR.out.skip HX.out (.inr hgt))
        clear hgt
        go_wp2_with fail
        go_roundw
        case rel => exact ⟨j + 1, g', S, q', m', cap', by omega, by go_num, rfl, HO3.out, hl4, hms, HB3.out, HG3.out, HN.out⟩
        case measure => simp [intOf]; omega
      | false =>
        rw [hgt] at z1
        have HN := Lib.hid (HSR.out.push HX.out rfl)
        have HU := Lib.hid (unF_push t0 t3 hgt)
        have HS := Lib.hid (marks_set g' hkt)
        have ho4 := HO3.out.keep (w' := (W2.alloc (.cells #[.int .i64 ew, .int .i64 kt] 55)).setCell ⟨w1.heap.size, kt, none⟩ (.bool true)) fun b h1 h2 h3 => Below.heap_setCell _ _ _ _ (by show b ≠ w1.heap.size; omega)
        have HB4 := Lib.hid ((HB3.out.setCell (p := ⟨w1.heap.size, kt, none⟩) (Nat.le_refl _) (.bool true)).alloc (by simp; omega) (.cells #[.int .i64 kt] 3))
        have HG4 := Lib.hid (blk_alloc (blk_set HG3.out kt (.bool true)) (.cells #[.int .i64 kt] 3))
        have d1 : ((W2.alloc (.cells #[.int .i64 ew, .int .i64 kt] 55)).setCell ⟨w1.heap.size, kt, none⟩ (.bool true)).cell? ⟨W2.heap.size, 1, none⟩ = some (.int .i64 kt) :=
          (World.cell?_of_block (Below.heap_setCell _ _ _ _ (by show W2.heap.size ≠ w1.heap.size; have := HQ.out; omega))).trans (by simp [World.cell?_alloc_new])
        clear hgt
        go_wp2_with (at_builtin; refine wpList_append_rd elI _ rfl (.tmp 49) (.tmp 52) rfl rfl (ho4.alloc _) rfl (Rd_oneg _ #[.int .i64 kt] 3 (kt : Int) rfl (W2.heap.size + 1) (by simp)) (by omega) (by simp; omega) ?_; intro v5 w5 ho5 hg5 _)
        have HB5 := Lib.hid (below_own HB4.out (ho4.alloc (.cells #[.int .i64 kt] 3)) hg5 (by omega) (by simp; omega))
        have HG5 := Lib.hid ((hg5.block w1.heap.size (by simp; omega) (fun h => (by have h2 : w1.heap.size = q' := Option.some.inj h; have := HQ.out.1; omega))).trans HG4.out)
        obtain ⟨q5, m5, cap5, rfl, _⟩ := ho5.form (by simp)
        go_roundw
        case rel =>
          have hu := HU.out
          exact ⟨j + 1, _, _, q5, m5, cap5, by omega, by go_num, rfl, ho5, by simp only [List.length_append, List.length_cons, List.length_nil]; omega, by simp only [List.length_append, List.length_cons, List.length_nil]; omega, HB5.out, by rw [HG5.out, HS.out], HN.out⟩
        case measure => simp [intOf]; omega

theorem mark_has {f : Int → Bool} {k : Nat} (hk : k < 4) : decide ((k : Int) ∈ markL f) = f k := by
  have h4 : (k : Int) ∈ ([0, 1, 2, 3] : List Int) := by simp; omega
  unfold markL
  cases h : f k with
  | true => exact decide_eq_true (List.mem_filter.2 ⟨h4, h⟩)
  | false => exact decide_eq_false fun hm => by have := (List.mem_filter.1 hm).2; rw [h] at this; cases this
theorem marks_setb (g : Int → Bool) {k : Nat} (hlt : k < 4) (b : Bool) : (#[.bool (g 0), .bool (g 1), .bool (g 2), .bool (g 3)] : Array Value).setIfInBounds k (.bool b) =
    #[.bool ((fun a : Int => if a = k then b else g a) 0), .bool ((fun a : Int => if a = k then b else g a) 1), .bool ((fun a : Int => if a = k then b else g a) 2), .bool ((fun a : Int => if a = k then b else g a) 3)] := by
  match k, hlt with
  | 0, _ => rfl
  | 1, _ => rfl
  | 2, _ => rfl
  | 3, _ => rfl
set_option maxHeartbeats 1600000 in
theorem DeadlockOf_t (lo : Nat) (A : Option Addr) (n c : Nat) (l : List Wt) (w : World) (hr : Rd cW 2 w lo A n l) (hv : VW l) :
    Calls Tryd.prog 10 #[.slice A n c] w fun e w' => ∃ f : Int → Bool, (∀ j : Nat, j < 4 → (f j = true ↔ Rch l j j)) ∧ IntsP w (markL f) e w' := by
  have HV := Lib.hid hv
  have hB0 := heap_alloc_new w (.cells #[.bool false, .bool false, .bool false, .bool false] 51)
  have hbA := (Below.refl w.heap.size w).alloc (Nat.le_refl _) (.cells #[.bool false, .bool false, .bool false, .bool false] 51)
  clear hv
  go_enter Tryd.func10, Tryd.ntmps10
  go_wp2_with fail
  go_loopw [5] (fun i wr => ∃ (k : Nat) (g : Int → Bool), k ≤ 4 ∧ i = .int .i64 k ∧ Below w.heap.size w wr ∧ wr.heap[w.heap.size]? = some (.cells #[.bool (g 0), .bool (g 1), .bool (g 2), .bool (g 3)] 51 (0, 0)) ∧ (∀ j : Nat, j < k → (g j = true ↔ Rch l j j))) (fun i _ => 4 - (intOf i).toNat)
  case atStart => exact ⟨0, fun _ => false, Nat.zero_le _, rfl, hbA, hB0, fun j h => absurd h (by omega)⟩
  case round =>
    rename World => W1
    obtain ⟨k, g, hk, rfl, hbl, hG, hK⟩ := hrel
    have hs := hbl.size
    by_cases hlt : k < 4
    case neg =>
      have HA : Hid (∀ j : Nat, j < 4 → (g j = true ↔ Rch l j j)) := fun j h => hK j (by omega)
      have e0 := blk_cell (i := 0) hG rfl
      have e1 := blk_cell (i := 1) hG rfl
      have e2 := blk_cell (i := 2) hG rfl
      have e3 := blk_cell (i := 3) hG rfl
      clear hK hG
      go_wp2_with fail
      refine (marked_any g _).mono ?_
      rintro e w2 ⟨v, rfl, ho2, hb2⟩
      have hB := hbl.trans (hb2.mono hs)
      go_wp2_with fail
      go_ret
      exact ⟨g, HA.out, _, rfl, ho2.low hs, hB⟩
    have hr1 := hr.below hbl
    have HK := Lib.hid hK
    have hlt' : (k : Int) < 4 := by omega
    clear hK
    go_wp2_with fail
    refine (WaitsFor_t lo A n c l k _ hr1 HV.out ⟨by omega, by omega⟩).mono ?_
    rintro e w2 ⟨f, hf, v, rfl, ho2, hb2⟩
    have HF := Lib.hid (hf k)
    have HB2 := Lib.hid (hbl.trans (hb2.mono hs))
    have hG2 := blk_below hG hb2
    obtain ⟨A2, m2, c2, rfl, _, hrd⟩ := ho2.rdn elI.len (by have := markL_len f; omega)
    have HG2 := Lib.hid hG2
    have z0 := blk_free hG2 k
    have z1 := blk_cell hG2 (marks_at g hlt)
    clear hf hG hG2 ho2 hb2
    go_wp2_with fail
    refine (ContainsI_any _ A2 m2 c2 (markL f) k _ hrd).mono ?_
    rintro e w3 ⟨rfl, rfl⟩
    rw [mark_has hlt]
    generalize hfk : f k = b
    have HN : Hid (∀ j : Nat, j < k + 1 → ((fun a : Int => if a = k then b else g a) j = true ↔ Rch l j j)) := fun j hj => by
      by_cases e : j = k
      · subst e; simp only [if_true]; rw [← hfk]; exact HF.out
      · simp only; rw [if_neg (by omega)]; exact HK.out j (by omega)
    have HS := Lib.hid (marks_setb g hlt b)
    clear hfk hrd
    go_wp2_with fail
    go_roundw
    case rel => exact ⟨k + 1, (fun a : Int => if a = k then b else g a), by omega, by go_num, HB2.out.setCell (p := ⟨w.heap.size, k, none⟩) (Nat.le_refl _) _, (blk_set HG2.out k _).trans (by rw [HS.out]), HN.out⟩
    case measure => simp [intOf]; omega

theorem elW : ElemT Tryd.prog cW 2 38 55 16 := mkElem (z := .agg #[.int .i64 0, .int .i64 0]) Tryd.underlying38 (by kernel_rfl) rfl (by omega) (by omega) (fun _ => rfl) one_W
theorem Own.apart_blk {α : Type} {cs : α → List Value} {sz : Nat} {e t : TypeId} {w : World} {base g : Nat} {v : Value} {l : List α} {cur : Array Value} (h : Own cs sz e w base v l) (hb : w.heap[g]? = some (.cells cur t (0, 0))) (hne : e ≠ t) : some g ≠ v.ownBlock := by
  rcases h.2 with ⟨rfl, _⟩ | ⟨g2, cap, cur2, rfl, _, hg, _⟩
  · simp [Value.ownBlock]
  · intro hc
    simp only [Value.ownBlock, Option.some.injEq] at hc
    subst hc
    rw [hg] at hb
    injection hb with hb
    injection hb with _ hb _
    exact hne hb
theorem blk_grown {w w' : World} {o o2 : Obj} {row : Option Nat} {g : Nat} (hg : (w.alloc o2).grownBy w' row) (h : w.heap[g]? = some o) (hne : some g ≠ row) : w'.heap[g]? = some o :=
  (hg.block g (by have := blk_lt h; simp; omega) hne).trans (blk_alloc h o2)
/-- The waits of what is asked for. -/
noncomputable def asksW (m : List Lk) (asks : List Lk) : List Wt := asks.flatMap fun x => (lbF m x.who x.node x.mode).map (Wt.mk x.who)
theorem asksW_step {m asks : List Lk} {k : Nat} {x : Lk} (h : asks[k]? = some x) : asksW m (asks.take (k + 1)) = asksW m (asks.take k) ++ (lbF m x.who x.node x.mode).map (Wt.mk x.who) := by
  unfold asksW
  rw [take_snoc h, List.flatMap_append]
  simp
theorem asksW_len {m : List Lk} : ∀ {asks : List Lk}, (∀ x ∈ asks, 0 ≤ x.who ∧ x.who ≤ 3) → (asksW m asks).length ≤ 3 * asks.length
  | [], _ => by simp [asksW]
  | x :: r, h => by
    have h1 := asksW_len (m := m) (asks := r) fun y hy => h y (List.mem_cons_of_mem _ hy)
    have h2 := lbF_len3 (l := m) (node := x.node) (mode := x.mode) (h x (List.mem_cons_self ..))
    unfold asksW at h1 ⊢
    rw [List.flatMap_cons, List.length_append, List.length_map, List.length_cons]
    omega
theorem asksW_VW {m asks : List Lk} (h : ∀ x ∈ asks, 0 ≤ x.who ∧ x.who ≤ 3) (h4 : asks.length ≤ 4) : VW (asksW m asks) := by
  refine ⟨by have := asksW_len (m := m) h; omega, fun y hy => ?_⟩
  obtain ⟨x, hx, hy⟩ := List.mem_flatMap.1 hy
  obtain ⟨t, ht, rfl⟩ := List.mem_map.1 hy
  have := lbF_mem ht
  exact ⟨h x hx, this.1, this.2⟩
set_option maxHeartbeats 3200000 in
set_option maxRecDepth 100000 in
theorem AsksOf_t (lo lo2 : Nat) (A A2 : Option Addr) (n c n2 c2 : Nat) (m asks : List Lk) (w : World) (hr : Rd cL 3 w lo A n m) (hc : n ≤ c) (hr2 : Rd cL 3 w lo2 A2 n2 asks) (hT : Tb w) (hv : VTb m)
    (hq : ∀ x ∈ asks, OkAsk x.who x.node x.mode) (hd : (asks.map (·.who)).Nodup) (h4 : asks.length ≤ 4) :
    Calls Tryd.prog 9 #[.slice A n c, .slice A2 n2 c2] w fun e w' => ∃ v, e = .returned (.tuple #[v, .bool true]) ∧ Own cW 2 55 w' w.heap.size v (asksW m asks) ∧ Below w.heap.size w w' := by
  have HL2 := Lib.hid hr2.len
  have hn4 : n2 ≤ 4 := by have := HL2.out; omega
  have HV := Lib.hid hv
  have HQ := Lib.hid hq
  have HD := Lib.hid hd
  have HLEN : Hid ((asksW m asks).length ≤ 12) := (asksW_VW (m := m) (fun x hx => (hq x hx).1) h4).1
  have HLK : ∀ k, Hid ((asksW m (asks.take k)).length ≤ 12) := fun k => (asksW_VW (m := m) (asks := asks.take k) (fun x hx => (hq x (List.mem_of_mem_take hx)).1) (by rw [List.length_take]; omega)).1
  have HC := Lib.hid (ValidTable_t lo A n c m w hr hc hT hv)
  clear hv hq hd
  go_enter Tryd.func9, Tryd.ntmps9
  go_wp2_with fail
  refine HC.out.mono ?_
  rintro e w1 ⟨rfl, hb1⟩
  have hr1 := hr.below hb1
  have hr3 := hr2.below hb1
  have hT1 := hT.below hb1
  have hs1 := hb1.size
  clear hr hr2 hT
  have hS0 := heap_alloc_new w1 (.cells #[.bool false, .bool false, .bool false, .bool false] 51)
  have hbA := (Below.refl w1.heap.size w1).alloc (Nat.le_refl _) (.cells #[.bool false, .bool false, .bool false, .bool false] 51)
  go_wp2_with fail
  go_loopw [7, 17] (fun v i wr => ∃ (k : Nat) (g : Int → Bool), k ≤ n2 ∧ i = .int .i64 k ∧ Own cW 2 55 wr w1.heap.size v (asksW m (asks.take k)) ∧ Below w1.heap.size w1 wr ∧
      wr.heap[w1.heap.size]? = some (.cells #[.bool (g 0), .bool (g 1), .bool (g 2), .bool (g 3)] 51 (0, 0)) ∧ ∀ x, g x = true → ∃ e ∈ asks.take k, e.who = x) (fun _ i _ => n2 - (intOf i).toNat)
  case atStart => exact ⟨0, fun _ => false, Nat.zero_le _, rfl, Own.nil _ _, hbA, hS0, fun x h => by cases h⟩
  case round =>
    rename World => W1
    obtain ⟨k, g, hk, rfl, ho, hbl, hG, hK⟩ := hrel
    have hs := hbl.size
    by_cases hlt : k < n2
    case neg =>
      obtain rfl : k = n2 := by omega
      rw [List.take_of_length_le (by rw [HL2.out]; exact Nat.le_refl _)] at ho
      obtain ⟨A5, m5, c5, rfl, _, hrd⟩ := ho.rdn elW.len (by have := HLEN.out; omega)
      have hm5 : m5 ≤ 12 := by have := HLEN.out; rw [hrd.len] at this; exact this
      have h12 : ¬ (12 : Int) < (m5 : Int) := by omega
      have HO := Lib.hid (ho.low hs1)
      have HB := Lib.hid (hb1.trans (hbl.mono hs1))
      clear hK hG hrd ho
      go_wp2_with fail
      refine bodyPost_ret (v := .tuple #[.slice A5 m5 c5, .bool true]) (by simp [results, Tryd.results9, go_sem]) rfl ?_
      exact ⟨_, rfl, HO.out, HB.out⟩
    obtain ⟨b, o, x, rfl, _, hb, hx, c0, c1, cc2⟩ := (hr3.below hbl).atL hlt
    have hok := HQ.out x (List.mem_of_getElem? hx)
    have HSW := Lib.hid (asksW_step (m := m) hx)
    have hgx : g x.who = false := by
      cases h : g x.who with
      | false => rfl
      | true =>
        exfalso
        obtain ⟨e, he, hw⟩ := hK _ h
        obtain ⟨i, hi⟩ := List.mem_iff_getElem?.1 he
        have hik : i < k := by have := (List.getElem?_eq_some_iff.1 hi).1; rw [List.length_take] at this; omega
        rw [List.getElem?_take_of_lt hik] at hi
        have e1 : (asks.map (·.who))[i]? = some x.who := by rw [List.getElem?_map, hi]; simp [hw]
        have e2 : (asks.map (·.who))[k]? = some x.who := by rw [List.getElem?_map, hx]; rfl
        obtain ⟨q1, q2⟩ := List.getElem?_eq_some_iff.1 e1
        obtain ⟨q3, q4⟩ := List.getElem?_eq_some_iff.1 e2
        exact (List.pairwise_iff_getElem.1 HD.out) i k q1 q3 hik (q2.trans q4.symm)
    have HKN : Hid (∀ y, (decide (x.who = y) || g y) = true → ∃ e ∈ asks.take (k + 1), e.who = y) := fun y hy => by
      simp only [Bool.or_eq_true, decide_eq_true_eq] at hy
      rw [take_snoc hx]
      rcases hy with hy | hy
      · exact ⟨x, by simp, hy⟩
      · obtain ⟨e, he, h⟩ := hK _ hy
        exact ⟨e, by simp [he], h⟩
    have HLB := Lib.hid (lbF_len3 (l := m) (node := x.node) (mode := x.mode) hok.1)
    obtain ⟨xw, xn, xm⟩ := x
    simp only at c0 c1 cc2 hok hgx
    have ht0 := hok.1.1
    have ht3 := hok.1.2
    obtain ⟨kt, rfl⟩ := Int.eq_ofNat_of_zero_le ht0
    have HLB' : Hid ((lbF m kt xn xm).length ≤ 3) := HLB.out
    have hkt : kt < 4 := by omega
    have hkt' : (kt : Int) < 4 := by omega
    have HOK := Lib.hid hok
    have HA := fun w' => isAsk_t kt xn xm w' HOK.out
    have hG3 := blk_alloc hG (.cells #[.int .i64 kt, .int .i64 xn, .int .i64 xm] 37)
    have hX3 := heap_alloc_new W1 (.cells #[.int .i64 kt, .int .i64 xn, .int .i64 xm] 37)
    have HO3 := Lib.hid (ho.alloc (.cells #[.int .i64 kt, .int .i64 xn, .int .i64 xm] 37))
    have HB3 := Lib.hid (hbl.alloc hs (.cells #[.int .i64 kt, .int .i64 xn, .int .i64 xm] 37))
    have z0 := blk_free hG3 kt
    have z1 := blk_cell hG3 (marks_at g hkt)
    rw [hgx] at z1
    have HS := Lib.hid (marks_set g hkt)
    have hGne : w1.heap.size ≠ W1.heap.size := by have := blk_lt hG; omega
    have HG3 := Lib.hid hG3
    have HX3 := Lib.hid hX3
    clear hx hK hG hG3 hX3 hgx ho hok
    go_wp2_with (go_at_call 21; refine (HA _).mono ?_; rintro e w3 ⟨rfl, rfl⟩)
    have HB4 := Lib.hid (HB3.out.setCell (p := ⟨w1.heap.size, kt, none⟩) (Nat.le_refl _) (.bool true))
    refine (LockBlockers_any lo A n c m kt xn xm _ (hr1.below HB4.out) hc (hT1.below HB4.out)).mono ?_
    rintro e w4 ⟨v4, rfl, ho4, hb4⟩
    have hG4 := blk_below (blk_set HG3.out kt (.bool true)) hb4
    rw [HS.out] at hG4
    have hX4 := blk_below ((Below.heap_setCell (W1.alloc (.cells #[.int .i64 kt, .int .i64 xn, .int .i64 xm] 37)) ⟨w1.heap.size, kt, none⟩ (.bool true) W1.heap.size (fun h => hGne h.symm)).trans HX3.out) hb4
    have hO4 := (HO3.out.keep (w' := (W1.alloc (.cells #[.int .i64 kt, .int .i64 xn, .int .i64 xm] 37)).setCell ⟨w1.heap.size, kt, none⟩ (.bool true)) fun b h1 h2 h3 => Below.heap_setCell _ _ _ _ (by
      show b ≠ w1.heap.size
      intro h
      exact HO3.out.apart_blk HG3.out (by decide) (by rw [h3, h]))).below hb4
    have hB5 := HB4.out.trans (hb4.mono (by simp; omega))
    obtain ⟨A5, m5, c5, rfl, _, hrd5⟩ := ho4.rdn elI.len (by have := HLB'.out; omega)
    have hm5 : m5 ≤ 3 := by have := HLB'.out; rw [hrd5.len] at this; exact this
    have HL5 := Lib.hid hrd5.len
    rw [← List.append_nil (asksW m (asks.take k))] at hO4
    clear hrd5
    go_wp2_with fail
    go_loopw [7, 47] (fun v i wr => ∃ j : Nat, j ≤ m5 ∧ i = .int .i64 j ∧ Own cW 2 55 wr w1.heap.size v (asksW m (asks.take k) ++ (((lbF m kt xn xm).take j).map (Wt.mk kt))) ∧ Own cI 1 3 wr (W1.heap.size + 1) (.slice A5 m5 c5) (lbF m kt xn xm) ∧ Below w1.heap.size w1 wr ∧
        wr.heap[w1.heap.size]? = some (.cells #[.bool (decide ((kt : Int) = 0) || g 0), .bool (decide ((kt : Int) = 1) || g 1), .bool (decide ((kt : Int) = 2) || g 2), .bool (decide ((kt : Int) = 3) || g 3)] 51 (0, 0)) ∧
        wr.heap[W1.heap.size]? = some (.cells #[.int .i64 kt, .int .i64 xn, .int .i64 xm] 37 (0, 0))) (fun _ i _ => m5 - (intOf i).toNat)
    case atStart => exact ⟨0, Nat.zero_le _, rfl, hO4, by simpa using ho4, hB5, hG4, hX4⟩
    case round =>
      rename World => W3
      obtain ⟨j, hj, rfl, how, hoi, hbl3, hG, hX⟩ := hrel
      have hs3 := hbl3.size
      by_cases hlt3 : j < m5
      case neg =>
        obtain rfl : j = m5 := by omega
        rw [List.take_of_length_le (l := lbF m kt xn xm) (by rw [HL5.out]; exact Nat.le_refl _)] at how
        have HW : asksW m (asks.take (k + 1)) = asksW m (asks.take k) ++ (lbF m kt xn xm).map (Wt.mk kt) := HSW.out
        rw [← HW] at how
        have HG := Lib.hid hG
        clear hG hX HW
        go_wp2_with fail
        go_roundw
        case rel => exact ⟨k + 1, (fun y => decide ((kt : Int) = y) || g y), by omega, by go_num, how, hbl3, HG.out, HKN.out⟩
        case measure => simp [intOf]; omega
      obtain ⟨_, hrd⟩ := hoi.rds elI.len (by have := HLB'.out; omega)
      obtain ⟨b5, o5, t5, hA5, _, hb5, hx5, q0⟩ := hrd.atI hlt3
      subst hA5
      have d0 := blk_cell (i := 0) hX rfl
      have HTS : Hid ((lbF m kt xn xm).take (j + 1) = (lbF m kt xn xm).take j ++ [t5]) := take_snoc hx5
      have HG := Lib.hid hG
      have HX := Lib.hid hX
      have HI := Lib.hid hoi
      have HBL3 := Lib.hid hbl3
      have HLW : Hid ((asksW m (asks.take k) ++ (((lbF m kt xn xm).take j).map (Wt.mk kt))).length ≤ 15) := by
        have h1 := (HLK k).out
        have h2 := HLB'.out
        show _ ≤ _
        rw [List.length_append, List.length_map, List.length_take]
        omega
      clear hG hX hoi hrd hx5
      go_wp2_with (at_builtin; refine wpList_append_rd elW _ rfl (.tmp 51) (.tmp 56) rfl rfl (how.alloc _) rfl (Rd_one W3 #[.int .i64 kt, .int .i64 t5] 55 (⟨(kt : Int), t5⟩ : Wt) rfl) (by have := HLW.out; omega) (by simp; omega) ?_; intro v7 w7 ho7 hg7 _)
      have hB7 := below_own (HBL3.out.alloc hs3 _) (how.alloc (.cells #[.int .i64 kt, .int .i64 t5] 55)) hg7 (Nat.le_refl _) (by simp; omega)
      have hI7 := (HI.out.alloc (.cells #[.int .i64 kt, .int .i64 t5] 55)).grown' hg7 (Own.apart (HI.out.alloc (.cells #[.int .i64 kt, .int .i64 t5] 55)) (how.alloc (.cells #[.int .i64 kt, .int .i64 t5] 55)) (by decide))
      have hG7 := blk_grown hg7 HG.out (how.apart_blk HG.out (by decide))
      have hX7 := blk_grown hg7 HX.out (how.apart_blk HX.out (by decide))
      go_roundw
      case rel => exact ⟨j + 1, by omega, by go_num, by rw [HTS.out, List.map_append, ← List.append_assoc]; exact ho7, hI7, hB7, hG7, hX7⟩
      case measure => simp [intOf]; omega

/-- No step of a transaction on a node. -/
def frB (list : List St) (who node : Int) : Bool := list.all fun s => !(s.who == who && s.node == node)
theorem frB_step {list : List St} {who node : Int} {j : Nat} {s : St} (h : list[j]? = some s) : frB (list.take (j + 1)) who node = (frB (list.take j) who node && !(s.who == who && s.node == node)) := by
  unfold frB
  rw [take_snoc h, List.all_append]
  simp
theorem frB_all {list : List St} {who node : Int} (h : frB list who node = true) : ∀ s ∈ list, ¬ (s.who = who ∧ s.node = node) := fun s hs hc => by
  have := List.all_eq_true.1 h s hs
  simp [hc.1, hc.2] at this
set_option maxRecDepth 100000 in
set_option maxHeartbeats 3200000 in
theorem lawGoesAlongDeadlock (A : Option Addr) (n c : Nat) (zs : List Int) (w : World) (hn : n ≤ 1048576) (hr : Rd cB 1 w 0 A n zs) (hc : n ≤ c) (hz : ∀ (k : Nat) (z : Int), zs[k]? = some z → 0 ≤ z ∧ z ≤ 255) (hT : Tb w) :
    Calls Tryd.prog 3 #[.slice A n c] w fun e w' => e = .returned (.bool true) ∧ Below w.heap.size w w' := by
  have hn' : (n : Int) ≤ 1048576 := by omega
  go_enter Tryd.func3, Tryd.ntmps3
  go_wp2_with fail
  refine (DrawGoesAlong_any A n c zs _ hr hc hz).mono ?_
  rintro e w1 ⟨A1, n1, c1, t, A2, m, c2, list, rfl, hc1, hrt, hn1, hzt, hc2, hrl, hm, hb1⟩
  have hT1 := hT.below hb1
  have HL := Lib.hid hrl.len
  have HGA : Hid (∀ (k : Nat) w', k ≤ m → Below w1.heap.size w1 w' → Calls Tryd.prog 5 #[.slice A1 n1 c1, .slice A2 k c2] w' fun e w'' => e = .returned (.bool (gaB t (list.take k))) ∧ Below w'.heap.size w' w'') := fun k w' hk hb' =>
    GoesAlong_any _ _ A1 A2 n1 c1 k c2 t (list.take k) w' (hrt.below hb') hc1 ((hrl.take hk).below hb') (by omega) (hT1.below hb')
  have HGS : Hid (∀ w', Below w1.heap.size w1 w' → Calls Tryd.prog 6 #[.slice A1 n1 c1, .slice A2 m c2] w' fun e w'' => e = .returned (.bool (gaB t list)) ∧ Below w'.heap.size w' w'') := fun w' hb' =>
    GoesAlongS_any _ _ A1 A2 n1 c1 m c2 t list w' (hrt.below hb') hc1 hzt (hrl.below hb') (by omega)
  have HALL := Lib.hid (List.take_of_length_le (by have := HL.out; omega) : list.take m = list)
  have HG1 := Lib.hid (HGA.out m w1 (Nat.le_refl _) (Below.refl _ _))
  rw [HALL.out] at HG1
  have hs1 := hb1.size
  by_cases hg : GA t list
  case neg =>
    have HF := Lib.hid (gaB_f hg)
    rw [HF.out] at HG1 HGS
    clear hg
    go_wp2_with fail
    refine HG1.out.mono ?_
    rintro e w2 ⟨rfl, hb2⟩
    have HG2 := Lib.hid (HGS.out w2 hb2)
    go_wp2_with fail
    refine HG2.out.mono ?_
    rintro e w3 ⟨rfl, hb3⟩
    have hB3 := hb2.trans (hb3.mono hb2.size)
    have HG3 := Lib.hid (HGS.out w3 hB3)
    go_wp2_with fail
    refine HG3.out.mono ?_
    rintro e w4 ⟨rfl, hb4⟩
    go_wp2_with fail
    go_ret
    exact ⟨rfl, hb1.trans ((hB3.trans (hb4.mono hB3.size)).mono hs1)⟩
  have HF := Lib.hid (gaB_t hg)
  rw [HF.out] at HG1 HGS
  have HGG := Lib.hid hg
  clear hg
  have hm16 : m ≤ 16 := by have := HGG.out.2.1.len; have := HL.out; omega
  obtain ⟨mm, hmm⟩ := HGG.out.2.1.ex
  have HMM := Lib.hid hmm
  have HVM := Lib.hid (tabF_VTb hmm)
  have HLT := Lib.hid hrt.len
  clear hmm
  go_wp2_with fail
  refine HG1.out.mono ?_
  rintro e w2 ⟨rfl, hb2⟩
  have HG2 := Lib.hid (HGS.out w2 hb2)
  go_wp2_with fail
  refine HG2.out.mono ?_
  rintro e w3 ⟨rfl, hb3⟩
  have hB3 := hb2.trans (hb3.mono hb2.size)
  have HTA := Lib.hid (TableAfter_any _ A2 m c2 list w3 (hrl.below hB3) (by omega) (hT1.below hB3))
  rw [HMM.out] at HTA
  go_wp2_with fail
  refine HTA.out.mono ?_
  rintro e w4 ⟨v4, rfl, ho4, hb4⟩
  have hB4 := hB3.trans (hb4.mono hB3.size)
  have hs4 := hB4.size
  obtain ⟨A4, m4, c4, rfl, hc4, hr4⟩ := ho4.rdn elL.len (by have := HVM.out.1; omega)
  have hT4 := hT1.below hB4
  have hrt4 := hrt.below hB4
  have hrl4 := hrl.below hB4
  have hE0 := Own.empty (cs := cL) (sz := 3) (e := 37) w4 elL.len
  have hbA := (Below.refl w4.heap.size w4).alloc (Nat.le_refl _) (.cells #[] 37)
  clear hr hrt hrl ho4 hT hT1
  go_wp2_with fail
  go_loopw [8, 9] (fun v i wr => ∃ (k : Nat) (asks : List Lk), k ≤ 4 ∧ i = .int .i64 k ∧ Own cL 3 37 wr w4.heap.size v asks ∧ Below w4.heap.size w4 wr ∧ asks.length ≤ k ∧ (asks.map (·.who)).Nodup ∧ ∀ x ∈ asks, x.who < k ∧ AskOk t list mm x) (fun _ i _ => 4 - (intOf i).toNat)
  case atStart => exact ⟨0, [], Nat.zero_le _, rfl, hE0, hbA, Nat.zero_le _, List.Pairwise.nil, fun x h => by cases h⟩
  case round =>
    rename World => W1
    obtain ⟨k, asks, hk, rfl, ho, hbl, hlen, hnd, hall⟩ := hrel
    have hs := hbl.size
    have HND := Lib.hid hnd
    have HALLA := Lib.hid hall
    by_cases hlt : k < 4
    case neg =>
      obtain ⟨A5, m5, c5, rfl, _, hr5⟩ := ho.rdn elL.len (by omega)
      have HAS := Lib.hid (AsksOf_t _ _ A4 A5 m4 c4 m5 c5 mm asks W1 (hr4.below hbl) hc4 hr5 (hT4.below hbl) HVM.out (fun x hx => (HALLA.out x hx).2.ask HGG.out.1) HND.out (by omega))
      obtain ⟨P, hsrc, hP⟩ := HGG.out.asks HMM.out (fun x hx => (HALLA.out x hx).2)
      have hvw := asksW_VW (m := mm) (asks := asks) (fun x hx => (HALLA.out x hx).2.1) (by omega)
      have HACY : Hid (∀ a, ¬ Rch (asksW mm asks) a a) := fun a => Rch.acyclic hsrc (fun y hy => (hvw.2 y hy).1) (fun y hy => by
        obtain ⟨x, hx, hy⟩ := List.mem_flatMap.1 hy
        obtain ⟨t', ht, rfl⟩ := List.mem_map.1 hy
        exact hP x hx t' ht) a
      have HVW := Lib.hid hvw
      clear hnd hall hr5 ho hvw hsrc hP
      go_wp2_with fail
      refine HAS.out.mono ?_
      rintro e w6 ⟨v6, rfl, ho6, hb6⟩
      obtain ⟨A6, m6, c6, rfl, _, hr6⟩ := ho6.rdn elW.len (by have := HVW.out.1; omega)
      have HDE := Lib.hid (DeadlockOf_t _ A6 m6 c6 (asksW mm asks) w6 hr6 HVW.out)
      clear hr6 ho6
      go_wp2_with fail
      refine HDE.out.mono ?_
      rintro e w7 ⟨f, hf, v7, rfl, ho7, hb7⟩
      have hnil : markL f = [] := by
        unfold markL
        rw [List.filter_eq_nil_iff]
        intro a ha
        have h4 : 0 ≤ a ∧ a ≤ 3 := by simp at ha; omega
        obtain ⟨j, rfl⟩ := Int.eq_ofNat_of_zero_le h4.1
        exact fun h => HACY.out j ((hf j (by omega)).1 h)
      rw [hnil] at ho7
      obtain ⟨A7, m7, c7, rfl, _, hr7⟩ := ho7.rdn elI.len (by simp)
      obtain rfl : m7 = 0 := hr7.len.symm
      have HB := Lib.hid (hb1.trans ((hB4.trans ((hbl.trans ((hb6.trans (hb7.mono hb6.size)).mono hs)).mono hs4)).mono hs1))
      clear hf hnil ho7 hr7
      go_wp2_with fail
      go_ret
      exact ⟨rfl, HB.out⟩
    have HLEN := Lib.hid hlen
    have hlt' : (k : Int) < 4 := by omega
    clear hnd hall
    go_wp2_with fail
    go_loopw [8, 10] (fun v i wr => ∃ z : Int, i = .int .i64 z ∧ -1 ≤ z ∧ z < n1 ∧ Own cL 3 37 wr w4.heap.size v asks ∧ Below w4.heap.size w4 wr) (fun _ i _ => (intOf i).toNat)
    case atStart => exact ⟨(n1 : Int) - 1, rfl, by omega, by omega, ho, hbl⟩
    case round =>
      rename World => W2
      obtain ⟨z, rfl, hz0, hz1, ho2, hbl2⟩ := hrel
      have hs2 := hbl2.size
      by_cases hz2 : 0 < z
      case neg =>
        go_wp2_with fail
        go_roundw
        case rel => exact ⟨k + 1, asks, by omega, by go_num, ho2, hbl2, by have := HLEN.out; omega, HND.out, fun x hx => ⟨by have := (HALLA.out x hx).1; omega, (HALLA.out x hx).2⟩⟩
        case measure => simp [intOf]; omega
      obtain ⟨zn, rfl⟩ := Int.eq_ofNat_of_zero_le (a := z) (by omega)
      have hz3 : 0 < zn := by omega
      obtain ⟨b', o', y, rfl, _, hb', hy, p0, p1, p2⟩ := (hrt4.below hbl2).atN (k := zn) (by omega)
      have HY := Lib.hid hy
      have HH := Lib.hid (HeldMode_t _ A4 m4 c4 mm k y.par W2 (hr4.below hbl2) hc4 (hT4.below hbl2) HVM.out)
      clear hy
      go_wp2_with fail
      go_loopw [11, 12] (fun q i wr => ∃ j : Nat, j ≤ m ∧ i = .int .i64 j ∧ q = .bool (frB (list.take j) k zn) ∧ wr = W2) (fun _ i _ => m - (intOf i).toNat)
      case atStart => exact ⟨0, Nat.zero_le _, rfl, rfl, rfl⟩
      case round =>
        obtain ⟨j, hj, rfl, rfl, rfl⟩ := hrel
        by_cases hltj : j < m
        case neg =>
          obtain rfl : j = m := by omega
          rw [HALL.out]
          cases hB : frB list k zn with
          | false =>
            clear hB
            go_wp2_with fail
            go_roundw
            case rel => exact ⟨(zn : Int) - 1, by go_num, by omega, by omega, ho2, hbl2⟩
            case measure => simp [intOf]; omega
          | true =>
            have HFR := Lib.hid (frB_all hB)
            clear hB
            by_cases h5 : heldF mm k y.par = 5
            case neg =>
              obtain ⟨hm5, hm5e⟩ : ∃ q, q = heldF mm k y.par := ⟨_, rfl⟩
              rw [← hm5e] at HH h5
              have h5' : (hm5 == 5) = false := by simpa using h5
              clear h5 hm5e
              go_wp2_with fail
              refine HH.out.mono ?_
              rintro e w7 ⟨rfl, hb7⟩
              have HO7 := Lib.hid (ho2.below hb7)
              go_wp2_with fail
              go_roundw
              case rel => exact ⟨(zn : Int) - 1, by go_num, by omega, by omega, HO7.out, hbl2.trans (hb7.mono hs2)⟩
              case measure => simp [intOf]; omega
            have H5 := Lib.hid h5
            rw [h5] at HH
            clear h5
            go_wp2_with fail
            refine HH.out.mono ?_
            rintro e w7 ⟨rfl, hb7⟩
            have ho7 := ho2.below hb7
            have hB7 := hbl2.trans (hb7.mono hs2)
            have hs7 := hB7.size
            go_wp2_with (at_builtin; refine wpList_append_rd elL _ rfl (.tmp 94) (.tmp 98) rfl rfl (ho7.alloc _) rfl (Rd_one w7 #[.int .i64 k, .int .i64 zn, .int .i64 5] 37 (⟨(k : Int), (zn : Int), 5⟩ : Lk) rfl) (by have := HLEN.out; omega) (by simp; omega) ?_; intro v8 w8 ho8 hg8 _)
            have hB8 := below_own (hB7.alloc hs7 _) (ho7.alloc (.cells #[.int .i64 k, .int .i64 zn, .int .i64 5] 37)) hg8 (Nat.le_refl _) (by simp; omega)
            have HUP : Hid (heldF mm k (upN t zn) = 5) := by
              unfold upN
              rw [Int.toNat_natCast, HY.out]
              exact H5.out
            have HN1 : Hid ((asks ++ [(⟨(k : Int), (zn : Int), 5⟩ : Lk)]).map (·.who)).Nodup := by
              rw [List.map_append]
              refine List.nodup_append.2 ⟨HND.out, by simp, fun a ha b hb => ?_⟩
              obtain ⟨x, hx, rfl⟩ := List.mem_map.1 ha
              simp only [List.map_cons, List.map_nil, List.mem_singleton] at hb
              subst hb
              have := (HALLA.out x hx).1
              omega
            have HN2 : Hid (∀ x ∈ asks ++ [(⟨(k : Int), (zn : Int), 5⟩ : Lk)], x.who < ((k + 1 : Nat) : Int) ∧ AskOk t list mm x) := fun x hx => by
              rcases List.mem_append.1 hx with hx | hx
              · exact ⟨by have := (HALLA.out x hx).1; omega, (HALLA.out x hx).2⟩
              · simp only [List.mem_singleton] at hx
                subst hx
                refine ⟨by show (k : Int) < _; omega, ⟨by show (0 : Int) ≤ k; omega, by show (k : Int) ≤ 3; omega⟩, ⟨by show (1 : Int) ≤ zn; omega, by show (zn : Int) < _; have := HLT.out; omega⟩, rfl, HFR.out, HUP.out⟩
            go_roundw
            case rel => exact ⟨k + 1, asks ++ [(⟨(k : Int), (zn : Int), 5⟩ : Lk)], by omega, by go_num, ho8, hB8, by have := HLEN.out; simp; omega, HN1.out, HN2.out⟩
            case measure => simp [intOf]; omega
        obtain ⟨b3, o3, s, rfl, _, hb3', hx, q0, _, q2, _⟩ := (hrl4.below hbl2).atS hltj
        have HN := Lib.hid (frB_step (who := k) (node := zn) hx)
        clear hx
        cases hB : frB (list.take j) k zn with
        | false =>
          rw [hB] at HN
          clear hB
          go_wp2_with fail
          go_roundw
          case rel => exact ⟨j + 1, by omega, by go_num, by rw [HN.out]; rfl, trivial⟩
          case measure => simp [intOf]; omega
        | true =>
          rw [hB] at HN
          clear hB
          by_cases e1 : s.who = k
          case neg =>
            have HE := Lib.hid e1
            have e1' : (s.who == (k : Int)) = false := by simpa using e1
            clear e1
            go_wp2_with fail
            go_roundw
            case rel => exact ⟨j + 1, by omega, by go_num, by rw [HN.out]; simp [HE.out], trivial⟩
            case measure => simp [intOf]; omega
          have HE := Lib.hid e1
          have e1' : (s.who == (k : Int)) = true := by simpa using e1
          clear e1
          by_cases e2 : s.node = zn
          case neg =>
            have HE2 := Lib.hid e2
            have e2' : (s.node == (zn : Int)) = false := by simpa using e2
            clear e2
            go_wp2_with fail
            go_roundw
            case rel => exact ⟨j + 1, by omega, by go_num, by rw [HN.out]; first | (simp [HE.out, HE2.out]; done) | (simp [HE.out]; rfl), trivial⟩
            case measure => simp [intOf]; omega
          have HE2 := Lib.hid e2
          have e2' : (s.node == (zn : Int)) = true := by simpa using e2
          clear e2
          go_wp2_with fail
          go_roundw
          case rel => exact ⟨j + 1, by omega, by go_num, by rw [HN.out]; first | (simp [HE.out, HE2.out]; done) | (simp [HE.out]; rfl), trivial⟩
          case measure => simp [intOf]; omega
end Go.Proofs.YtcefgabdffipgaaDoor
