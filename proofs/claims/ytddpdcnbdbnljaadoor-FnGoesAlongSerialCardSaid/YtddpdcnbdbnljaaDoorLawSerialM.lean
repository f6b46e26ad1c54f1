/- The order of last locks, in plain words. Conflicts of accesses, sets of transactions as bits, in plain words. The walks over isBehind, behindOf, SerialOrder. The walk of the law FnGoesAlongSerial. -/
import Derived.Test.YtddpdcnbdbnljaaDoorStepL
import Derived.Test.YtddpdcnbdbnljaaDoorPlaceP
import Derived.Test.YtddpdcnbdbnljaaDoorSerialP
import Derived.Test.YtddpdcnbdbnljaaDoorLockW2
import Derived.Test.YtddpdcnbdbnljaaDoorDrawAlong2
namespace Go.Proofs.YtddpdcnbdbnljaaDoor
open Go.RowKit

theorem pick_pair {α β : Type} {p : Nat → α → Bool} {f : α → β} {g : β → Int} (h : ∀ i x, p i x = true → g (f x) = i) : ∀ (l : List α) (k : Nat), (pickL p f l k).Pairwise (fun a b => g a < g b) ∧ ∀ y ∈ pickL p f l k, (k : Int) ≤ g y
  | [], k => ⟨List.Pairwise.nil, fun y hy => by cases hy⟩
  | x :: r, k => by
    obtain ⟨h1, h2⟩ := pick_pair h r (k + 1)
    rw [pickL]
    by_cases hp : p k x = true
    · rw [if_pos hp]
      have hg := h k x hp
      refine ⟨List.pairwise_cons.2 ⟨fun y hy => ?_, h1⟩, fun y hy => ?_⟩
      · have := h2 y hy; omega
      · rcases List.mem_cons.1 hy with e | hy
        · rw [e, hg]; exact Int.le_refl _
        · have := h2 y hy; omega
    · rw [if_neg hp]
      exact ⟨h1, fun y hy => by have := h2 y hy; omega⟩
theorem pick_filter {α β : Type} {p p' : Nat → α → Bool} {f : α → β} {q : β → Bool} : ∀ (l : List α) (k : Nat), (∀ i x, l[i]? = some x → p' (k + i) x = (p (k + i) x && q (f x))) → pickL p' f l k = (pickL p f l k).filter q
  | [], _, _ => rfl
  | x :: r, k, h => by
    have h0 := h 0 x rfl
    rw [Nat.add_zero] at h0
    have ih := pick_filter (p := p) (p' := p') (f := f) (q := q) r (k + 1) fun i y hy => by rw [show k + 1 + i = k + (i + 1) by omega]; exact h (i + 1) y hy
    rw [pickL, pickL, h0, ih]
    cases hp : p k x <;> cases hq : q (f x) <;> simp [hq]
theorem lpo_p {list : List St} : ∀ (i : Nat) (s : St), (!s.free && decide (lpF list s.who = (i : Int))) = true → lpF list s.who = i := by
  intro i s h
  simp only [Bool.and_eq_true, decide_eq_true_eq] at h
  exact h.2
theorem lpo_pair (list : List St) : (lpoF list).Pairwise (fun a b => lpF list a < lpF list b) := (pick_pair (g := lpF list) (fun i s h => lpo_p i s h) list 0).1
theorem lpo_mem {list : List St} {t : Int} : t ∈ lpoF list ↔ 0 ≤ lpF list t := by
  unfold lpoF
  rw [pick_mem]
  constructor
  · rintro ⟨i, s, _, hp, rfl⟩
    rw [lpo_p (0 + i) s hp]; omega
  · intro h
    rcases lpF_cases list t with ⟨e, _⟩ | ⟨i, s, e, hs, ht, _⟩
    · omega
    · refine ⟨i, s, hs, ?_, ht.1⟩
      simp only [Bool.and_eq_true, decide_eq_true_eq, ht.2]
      exact ⟨rfl, by rw [ht.1, e]; simp⟩
theorem lpo_snoc (init : List St) (s : St) : lpoF (init ++ [s]) = if s.free = true then lpoF init else (lpoF init).filter (fun t => decide (t ≠ s.who)) ++ [s.who] := by
  have hsn : ∀ who, lpF (init ++ [s]) who = if Takes s who then (init.length : Int) else lpF init who := fun who => by
    have := lpF_snoc (list := init ++ [s]) (k := init.length) (s := s) (by simp) who
    rw [show (init ++ [s]).take (init.length + 1) = init ++ [s] by rw [List.take_of_length_le (by simp)], List.take_left] at this
    exact this
  have hlt : ∀ who, lpF init who < init.length := fun who => (lpF_ge init who).2
  unfold lpoF
  rw [pick_app]
  cases hf : s.free with
  | true =>
    rw [if_pos rfl]
    have h2 : pickL (fun i (s_1 : St) => !s_1.free && decide (lpF (init ++ [s]) s_1.who = (i : Int))) St.who [s] (0 + init.length) = [] := by
      rw [pickL, if_neg (by simp [hf])]; rfl
    rw [h2, List.append_nil]
    refine pick_congr init 0 fun i x _ => ?_
    rw [hsn, if_neg (fun h => by have := h.2; rw [hf] at this; cases this)]
  | false =>
    rw [if_neg (by simp)]
    congr 1
    · refine pick_filter (q := fun t => decide (t ≠ s.who)) init 0 fun i x hx => ?_
      rw [hsn]
      by_cases e : s.who = x.who
      · rw [if_pos ⟨e, hf⟩, e]
        have hi := (List.getElem?_eq_some_iff.1 hx).1
        simp
        omega
      · rw [if_neg (fun h => e h.1)]
        have : x.who ≠ s.who := fun h => e h.symm
        simp [this]
    · rw [pickL, if_pos]
      · rfl
      · rw [hsn, if_pos ⟨rfl, hf⟩]; simp [hf]

/-- A transaction must come behind another one, by the accesses before the j-th one and those before the i-th one with the j-th one. -/
def CfTo (h : List Ac) (j i : Nat) (a b : Int) : Prop := ∃ (i' j' : Nat) (x y : Ac), i' < j' ∧ (j' < j ∨ (j' = j ∧ i' < i)) ∧ h[i']? = some x ∧ h[j']? = some y ∧ x.who = a ∧ y.who = b ∧ a ≠ b ∧ x.node = y.node ∧ (x.write = true ∨ y.write = true)
/-- A transaction must come behind another one. -/
def Cf (h : List Ac) (a b : Int) : Prop := ∃ (i j : Nat) (x y : Ac), i < j ∧ h[i]? = some x ∧ h[j]? = some y ∧ x.who = a ∧ y.who = b ∧ a ≠ b ∧ x.node = y.node ∧ (x.write = true ∨ y.write = true)
/-- Two accesses are in conflict. -/
def CfAt (x y : Ac) : Prop := x.who ≠ y.who ∧ x.node = y.node ∧ (x.write = true ∨ y.write = true)
theorem CfTo_zero {h : List Ac} {a b : Int} : ¬ CfTo h 0 0 a b := fun ⟨_, _, _, _, _, hc, _⟩ => by omega
theorem CfTo_all {h : List Ac} {a b : Int} {n : Nat} (hn : h.length = n) : CfTo h n 0 a b ↔ Cf h a b := by
  constructor
  · rintro ⟨i, j, x, y, h1, _, h2⟩; exact ⟨i, j, x, y, h1, h2⟩
  · rintro ⟨i, j, x, y, h1, h2, h3, h4⟩
    have := (List.getElem?_eq_some_iff.1 h3).1
    exact ⟨i, j, x, y, h1, .inl (by omega), h2, h3, h4⟩
theorem CfTo_next {h : List Ac} {a b : Int} {j : Nat} : CfTo h j j a b ↔ CfTo h (j + 1) 0 a b := by
  constructor
  · rintro ⟨i', j', x, y, h1, h2, h3⟩; exact ⟨i', j', x, y, h1, .inl (by omega), h3⟩
  · rintro ⟨i', j', x, y, h1, h2, h3⟩; exact ⟨i', j', x, y, h1, by omega, h3⟩
theorem CfTo_t {h : List Ac} {a b : Int} {j i : Nat} {x y : Ac} (hij : i < j) (hx : h[i]? = some x) (hy : h[j]? = some y) (hc : CfAt x y) : CfTo h j (i + 1) a b ↔ CfTo h j i a b ∨ (a = x.who ∧ b = y.who) := by
  constructor
  · rintro ⟨i', j', x', y', h1, h2, h3, h4, h5, h6, h7⟩
    by_cases e : j' = j ∧ i' = i
    · obtain ⟨rfl, rfl⟩ := e
      rw [hx] at h3; injection h3 with h3; subst h3
      rw [hy] at h4; injection h4 with h4; subst h4
      exact .inr ⟨h5.symm, h6.symm⟩
    · exact .inl ⟨i', j', x', y', h1, by omega, h3, h4, h5, h6, h7⟩
  · rintro (⟨i', j', x', y', h1, h2, h3⟩ | ⟨rfl, rfl⟩)
    · exact ⟨i', j', x', y', h1, by omega, h3⟩
    · exact ⟨i, j, x, y, hij, .inr ⟨rfl, by omega⟩, hx, hy, rfl, rfl, hc.1, hc.2.1, hc.2.2⟩
theorem CfTo_f {h : List Ac} {a b : Int} {j i : Nat} {x y : Ac} (hx : h[i]? = some x) (hy : h[j]? = some y) (hc : ¬ CfAt x y) : CfTo h j (i + 1) a b ↔ CfTo h j i a b := by
  constructor
  · rintro ⟨i', j', x', y', h1, h2, h3, h4, h5, h6, h7⟩
    by_cases e : j' = j ∧ i' = i
    · obtain ⟨rfl, rfl⟩ := e
      rw [hx] at h3; injection h3 with h3; subst h3
      rw [hy] at h4; injection h4 with h4; subst h4
      exact absurd ⟨by rw [h5, h6]; exact h7.1, h7.2.1, h7.2.2⟩ hc
    · exact ⟨i', j', x', y', h1, by omega, h3, h4, h5, h6, h7⟩
  · rintro ⟨i', j', x', y', h1, h2, h3⟩; exact ⟨i', j', x', y', h1, by omega, h3⟩

/-- A set of numbers 0 to 3 as bits. -/
def Row (P : Int → Prop) (m : Nat) : Prop := m < 16 ∧ ∀ b : Nat, b < 4 → (m.testBit b = true ↔ P b)
theorem Row.zero {P : Int → Prop} (h : ∀ b, ¬ P b) : Row P 0 := ⟨by omega, fun b _ => by simp; exact h b⟩
theorem Row.congr {P Q : Int → Prop} {m : Nat} (h : Row P m) (e : ∀ b, Q b ↔ P b) : Row Q m := ⟨h.1, fun b hb => (h.2 b hb).trans (e b).symm⟩
theorem Row.or {P Q : Int → Prop} {m k : Nat} (h : Row P m) (hk : k < 4) (e : ∀ b, Q b ↔ P b ∨ b = (k : Int)) : Row Q (m ||| 2 ^ k) := by
  refine ⟨Nat.or_lt_two_pow (n := 4) h.1 (by rw [Nat.pow_lt_pow_iff_right (by omega)]; exact hk), fun b hb => ?_⟩
  rw [Nat.testBit_or, Bool.or_eq_true, h.2 b hb, Nat.testBit_two_pow, decide_eq_true_iff, e b]
  constructor
  · rintro (h | h)
    · exact .inl h
    · exact .inr (by rw [h])
  · rintro (h | h)
    · exact .inl h
    · exact .inr (by omega)
theorem bit_or : ∀ m : Fin 16, ∀ k : Fin 4, bits .or .i64 (m.val : Int) (IntKind.i64.wrap (1 * 2 ^ k.val)) = ((m.val ||| 2 ^ k.val : Nat) : Int) := by decide
theorem bit_and : ∀ m : Fin 16, ∀ k : Fin 4, bits .and .i64 (m.val : Int) (IntKind.i64.wrap (1 * 2 ^ k.val)) = if m.val.testBit k.val then ((2 ^ k.val : Nat) : Int) else 0 := by decide
theorem bit_not : ∀ m : Fin 16, ∀ k : Fin 4, bits .andNot .i64 (m.val : Int) (IntKind.i64.wrap (1 * 2 ^ k.val)) = ((m.val - (if m.val.testBit k.val then 2 ^ k.val else 0) : Nat) : Int) := by decide
theorem bit_clear : ∀ m : Fin 16, ∀ k : Fin 4, m.val.testBit k.val = true → m.val - 2 ^ k.val < m.val ∧ ∀ b : Fin 4, (m.val - 2 ^ k.val).testBit b.val = (m.val.testBit b.val && decide (b ≠ k)) := by decide
theorem bit_some : ∀ m : Fin 16, m.val ≠ 0 → ∃ k : Fin 4, m.val.testBit k.val = true := by decide

theorem acF_at {list : List St} {i : Nat} {x : Ac} (h : (acF list)[i]? = some x) : ∃ (k : Nat) (s : St), list[k]? = some s ∧ s.free = false ∧ x = ⟨s.who, s.node, decide (s.mode = 5)⟩ ∧ (acF (list.take k)).length = i := by
  have : ∀ (l : List St) (m i : Nat), (pickL (fun _ s => !s.free) (fun s => (⟨s.who, s.node, decide (s.mode = 5)⟩ : Ac)) l m)[i]? = some x → ∃ (k : Nat) (s : St), l[k]? = some s ∧ s.free = false ∧ x = ⟨s.who, s.node, decide (s.mode = 5)⟩ ∧ (pickL (fun _ s => !s.free) (fun s => (⟨s.who, s.node, decide (s.mode = 5)⟩ : Ac)) (l.take k) m).length = i := by
    intro l
    induction l with
    | nil => intro m i h; simp [pickL] at h
    | cons s r ih =>
      intro m i h
      rw [pickL] at h
      by_cases hp : (!s.free) = true
      · rw [if_pos hp] at h
        cases i with
        | zero =>
          simp at h
          exact ⟨0, s, rfl, by simpa using hp, h.symm, rfl⟩
        | succ i =>
          simp at h
          obtain ⟨k, s', h1, h2, h3, h4⟩ := ih _ _ h
          exact ⟨k + 1, s', h1, h2, h3, by rw [List.take_succ_cons, pickL, if_pos hp, List.length_cons, h4]⟩
      · rw [if_neg hp] at h
        obtain ⟨k, s', h1, h2, h3, h4⟩ := ih _ _ h
        exact ⟨k + 1, s', h1, h2, h3, by rw [List.take_succ_cons, pickL, if_neg hp, h4]⟩
  exact this list 0 i h
theorem acF_mono (list : List St) {k l : Nat} (h : k ≤ l) : (acF (list.take k)).length ≤ (acF (list.take l)).length := by
  have e : list.take l = list.take k ++ (list.take l).drop k := by
    conv => lhs; rw [← List.take_append_drop k (list.take l)]
    rw [List.take_take, Nat.min_eq_left h]
  unfold acF
  rw [e, pick_app, List.length_append]
  omega
/-- A conflict of the accesses of steps: two steps that take a lock on one node. -/
theorem acF_cf {list : List St} {a b : Int} (h : Cf (acF list) a b) : ∃ (i j : Nat) (x y : St), i < j ∧ list[i]? = some x ∧ list[j]? = some y ∧ Takes x a ∧ Takes y b ∧ a ≠ b ∧ x.node = y.node := by
  obtain ⟨i, j, x, y, hij, hx, hy, ha, hb, hab, hn, _⟩ := h
  obtain ⟨k, s, h1, h2, rfl, h4⟩ := acF_at hx
  obtain ⟨k', s', h1', h2', rfl, h4'⟩ := acF_at hy
  refine ⟨k, k', s, s', Nat.lt_of_not_le fun hle => ?_, h1, h1', ⟨ha, h2⟩, ⟨hb, h2'⟩, hab, hn⟩
  have := acF_mono list hle
  omega
/-- What must be so that there is an order. -/
def Src (P : Int → Int → Prop) : Prop := ∀ L : List Int, L ≠ [] → (∀ x ∈ L, 0 ≤ x ∧ x ≤ 3) → ∃ s ∈ L, ∀ p ∈ L, ¬ P p s
theorem ex_min (e : Int → Int) : ∀ L : List Int, L ≠ [] → ∃ T ∈ L, ∀ x ∈ L, e T ≤ e x
  | [], h => absurd rfl h
  | [x], _ => ⟨x, List.mem_cons_self .., fun y hy => by simp at hy; rw [hy]; exact Int.le_refl _⟩
  | x :: y :: r, _ => by
    obtain ⟨T, hT, hm⟩ := ex_min e (y :: r) (by simp)
    by_cases hc : e T ≤ e x
    · exact ⟨T, List.mem_cons_of_mem _ hT, fun z hz => (List.mem_cons.1 hz).elim (fun h => h ▸ hc) (hm z)⟩
    · exact ⟨x, List.mem_cons_self .., fun z hz => (List.mem_cons.1 hz).elim (fun h => h ▸ Int.le_refl _) (fun hz => by have := hm z hz; omega)⟩
theorem Src_of {P : Int → Int → Prop} {e : Int → Int} (h : ∀ a b, P a b → e a < e b) : Src P := fun L hL _ => by
  obtain ⟨s, hs, hm⟩ := ex_min e L hL
  exact ⟨s, hs, fun p hp hc => by have := hm p hp; have := h p s hc; omega⟩
/-- A row of bits has a least one. -/
theorem Src.bits {P : Int → Int → Prop} (h : Src P) {m : Nat} (hm : m < 16) (h0 : m ≠ 0) : ∃ s : Nat, s < 4 ∧ m.testBit s = true ∧ ∀ p : Nat, p < 4 → m.testBit p = true → ¬ P p s := by
  obtain ⟨k, hk⟩ := bit_some ⟨m, hm⟩ h0
  obtain ⟨s, hs, hp⟩ := h (([0, 1, 2, 3] : List Int).filter fun x => m.testBit x.toNat) (fun e => by
    have : (k.val : Int) ∈ ([0, 1, 2, 3] : List Int).filter fun x => m.testBit x.toNat := List.mem_filter.2 ⟨by have := k.2; simp; omega, by simpa using hk⟩
    rw [e] at this; cases this) (fun x hx => by have := (List.mem_filter.1 hx).1; simp at this; omega)
  obtain ⟨h1, h2⟩ := List.mem_filter.1 hs
  have h3 : 0 ≤ s ∧ s ≤ 3 := by simp at h1; omega
  refine ⟨s.toNat, by omega, h2, fun p hp4 hpb hc => hp p (List.mem_filter.2 ⟨by simp; omega, by simpa using hpb⟩) ?_⟩
  rw [show ((s.toNat : Nat) : Int) = s by omega] at hc
  exact hc
/-- By two phases and locks for writing, what is in conflict has its last locks in that order. -/
theorem lpF_take_ge {list : List St} {j : Nat} {y : St} {b : Int} (hy : list[j]? = some y) (ht : Takes y b) : (j : Int) ≤ lpF list b := by
  rcases lpF_cases list b with ⟨_, h2⟩ | ⟨i, s, h1, h2, h3, h4⟩
  · exact absurd ht (h2 j y hy)
  · rw [h1]
    by_cases e : i < j
    · exact absurd ht (h4 j y e hy)
    · omega
theorem lp_cf {list : List St} (hv : VS list) (htp : ∀ who, TP list who) (hm : ∀ s ∈ list, s.free = false → s.mode = 5) {a b : Int} (h : Cf (acF list) a b) : lpF list a < lpF list b := by
  obtain ⟨i, j, x, y, hij, hx, hy, ta, tb, hab, hn⟩ := acF_cf h
  have hjb := lpF_take_ge hy tb
  -- a does not hold the node ahead of j
  obtain ⟨m, hmj, hvm⟩ := hv.tab j
  obtain ⟨l', hl', _⟩ := hv.tab (j + 1)
  rw [stepsF_snoc hmj hy, doF_take tb.2] at hl'
  obtain ⟨_, _, hb, _⟩ := takeF_some hl'
  have ha03 := (hv.at hx).1
  rw [ta.1] at ha03
  have htg := blkF_nil hb ha03.1 ha03.2 (by rw [tb.1]; exact hab)
  rw [hm y (List.mem_of_getElem? hy) tb.2, all6 (p := fun h => joinF h 5 = 5) (by decide) _ (heldF_isM hvm _ _)] at htg
  have h0 : heldF m a y.node = 0 := all6 (p := fun h => togF h 5 = true → h = 0) (by decide) _ (heldF_isM hvm _ _) htg
  -- so it has freed it between
  have hfree : ∃ (f : Nat) (z : St), i < f ∧ f < j ∧ list[f]? = some z ∧ z.who = a ∧ z.free = true := by
    have key : ∀ d k, k + d = j → i < k → (∃ mk, stepsF (list.take k) [] = some mk ∧ heldF mk a y.node ≠ 0) → ∃ (f : Nat) (z : St), i < f ∧ f < j ∧ list[f]? = some z ∧ z.who = a ∧ z.free = true := by
      intro d
      induction d with
      | zero =>
        rintro k hk hik ⟨mk, h1, h2⟩
        have : k = j := by omega
        subst this
        rw [hmj] at h1; injection h1 with h1; subst h1
        exact absurd h0 h2
      | succ d ih =>
        rintro k hk hik ⟨mk, h1, h2⟩
        have hjl := (List.getElem?_eq_some_iff.1 hy).1
        have hz : list[k]? = some list[k] := List.getElem?_eq_getElem (by omega)
        generalize list[k] = z at hz
        obtain ⟨mk', h1', _⟩ := hv.tab (k + 1)
        have h1'' := h1'
        rw [stepsF_snoc h1 hz] at h1'
        obtain ⟨mk2, e2, hvk⟩ := hv.tab k
        rw [h1] at e2; injection e2 with e2; subst e2
        have hh := doF_held hvk h1' a y.node
        by_cases hc : a = z.who ∧ y.node = z.node
        · by_cases hf : z.free = true
          · exact ⟨k, z, hik, by omega, hz, hc.1.symm, hf⟩
          · rw [if_pos hc, if_neg hf] at hh
            have hmz := doF_mode h1' hf
            have := joinF_pos (heldF_isM hvk z.who z.node) (show IsM z.mode from ⟨by omega, hmz.2⟩) hmz.1
            exact ih (k + 1) (by omega) (by omega) ⟨mk', h1'', by rw [hh]; omega⟩
        · rw [if_neg hc] at hh
          exact ih (k + 1) (by omega) (by omega) ⟨mk', h1'', by rw [hh]; exact h2⟩
    refine key (j - (i + 1)) (i + 1) (by omega) (by omega) ?_
    obtain ⟨mi, hmi, hvi⟩ := hv.tab i
    obtain ⟨mi', hmi', _⟩ := hv.tab (i + 1)
    have hmi'' := hmi'
    rw [stepsF_snoc hmi hx] at hmi'
    have hh := doF_held hvi hmi' a y.node
    rw [if_pos ⟨ta.1.symm, hn.symm⟩, if_neg (by rw [ta.2]; simp)] at hh
    have hmz := doF_mode hmi' (by rw [ta.2]; simp)
    have := joinF_pos (heldF_isM hvi x.who x.node) (show IsM x.mode from ⟨by omega, hmz.2⟩) hmz.1
    exact ⟨mi', hmi'', by rw [hh]; omega⟩
  obtain ⟨f, z, hif, hfj, hz, hzw, hzf⟩ := hfree
  have hlt : lpF list a < f := by
    rcases lpF_cases list a with ⟨h1, _⟩ | ⟨p, s, h1, h2, h3, _⟩
    · rw [h1]; omega
    · rw [h1]
      have : ¬ f ≤ p := fun hle => by
        rcases Nat.lt_or_ge f p with e | e
        · exact htp a f p z s e hz h2 hzw hzf h3
        · have : f = p := by omega
          subst this
          rw [hz] at h2; injection h2 with h2; subst h2
          rw [h3.2] at hzf; cases hzf
      omega
  omega
theorem pl_lt {list : List St} {a b : Int} (ha : 0 ≤ lpF list a) (h : lpF list a < lpF list b) : plF (lpoF list) a ≤ plF (lpoF list) b := by
  unfold plF
  rcases plL_spec a (lpoF list) 0 with ⟨_, h2⟩ | ⟨i, h1, h2⟩
  · exact absurd (lpo_mem.2 ha) h2
  · rcases plL_spec b (lpoF list) 0 with ⟨_, h4⟩ | ⟨j, h3, h4⟩
    · exact absurd (lpo_mem.2 (by omega)) h4
    · rw [h1, h3]
      by_cases e : j < i
      · obtain ⟨hi, ei⟩ := List.getElem?_eq_some_iff.1 h2
        obtain ⟨hj, ej⟩ := List.getElem?_eq_some_iff.1 h4
        have := List.pairwise_iff_getElem.1 (lpo_pair list) j i hj hi e
        rw [ei, ej] at this
        omega
      · omega
theorem cf_pos {list : List St} {a b : Int} (h : Cf (acF list) a b) : 0 ≤ lpF list a := by
  obtain ⟨i, _, x, _, _, hx, _, ta, _⟩ := acF_cf h
  have := lpF_take_ge hx ta
  omega
/-- Accesses that are valid. -/
def VA (h : List Ac) : Prop := h.length ≤ 16 ∧ ∀ x ∈ h, (0 ≤ x.who ∧ x.who ≤ 3) ∧ 0 ≤ x.node ∧ x.node ≤ 11
theorem ValidAccesses_t (lo : Nat) (A : Option Addr) (n c : Nat) (h : List Ac) (w : World) (hr : Rd cA 3 w lo A n h) (hv : VA h) :
    Calls Tryd.prog 23 #[.slice A n c] w fun e w' => e = .returned (.bool true) ∧ Below w.heap.size w w' := by
  have HL := Lib.hid hr.len
  have HV := Lib.hid hv.2
  have hn16 : n ≤ 16 := by have := hv.1; have := HL.out; omega
  have h16 : ¬ (16 : Int) < (n : Int) := by omega
  clear hv
  go_enter Tryd.func23, Tryd.ntmps23
  go_wp2_with fail
  go_loopw [10] (fun i wr => ∃ k : Nat, k ≤ n ∧ i = .int .i64 k ∧ Below w.heap.size w wr) (fun i _ => n - (intOf i).toNat)
  case atStart => exact ⟨0, Nat.zero_le _, rfl, Below.refl _ _⟩
  case round =>
    rename World => W1
    obtain ⟨k, hk, rfl, hbl⟩ := hrel
    have hs := hbl.size
    by_cases hlt : k < n
    case neg =>
      go_wp2_with fail
      go_ret
      exact ⟨rfl, hbl⟩
    obtain ⟨b, o, x, rfl, _, hb, hx, g0, g1, g2⟩ := (hr.below hbl).atA hlt
    obtain ⟨⟨a1, a2⟩, b1, b2⟩ := HV.out x (List.mem_of_getElem? hx)
    clear hx hr
    go_wp2_with (go_at_call 51; refine (within_t _ _ _ _ (by assumption) (by assumption)).mono ?_; rintro e w3 ⟨rfl, rfl⟩)
    go_roundw
    case rel => exact ⟨k + 1, by omega, by go_num, hbl.alloc hs _⟩
    case measure => simp [intOf]; omega
theorem acF_VA {list : List St} (h : VS list) : VA (acF list) := by
  refine ⟨Nat.le_trans (acF_len list) h.len, fun x hx => ?_⟩
  obtain ⟨i, s, hs, _, rfl⟩ := (pick_mem list 0).1 hx
  have := h.at hs
  exact ⟨this.1, this.2.1⟩

theorem bitO_all : ∀ m : Fin 16, ∀ k : Fin 4, bits .or .i64 (m.val : Int) (wrap64 ((2 : Int) ^ k.val)) = ((m.val ||| 2 ^ k.val : Nat) : Int) := by decide +kernel
theorem bitA_all : ∀ m : Fin 16, ∀ k : Fin 4, bits .and .i64 (m.val : Int) (wrap64 ((2 : Int) ^ k.val)) = if m.val.testBit k.val then ((2 ^ k.val : Nat) : Int) else 0 := by decide +kernel
theorem bitN_all : ∀ m : Fin 16, ∀ k : Fin 4, bits .andNot .i64 (m.val : Int) (wrap64 ((2 : Int) ^ k.val)) = ((m.val - (if m.val.testBit k.val then 2 ^ k.val else 0) : Nat) : Int) := by decide +kernel
theorem bitO {m k : Nat} (hm : m < 16) (hk : k < 4) : bits .or .i64 (m : Int) (wrap64 ((2 : Int) ^ k)) = ((m ||| 2 ^ k : Nat) : Int) := bitO_all ⟨m, hm⟩ ⟨k, hk⟩
theorem bitA_t {m k : Nat} (hm : m < 16) (hk : k < 4) (h : m.testBit k = true) : ∃ v : Int, bits .and .i64 (m : Int) (wrap64 ((2 : Int) ^ k)) = v ∧ (v != 0) = true := by
  have := bitA_all ⟨m, hm⟩ ⟨k, hk⟩
  simp only [h, if_true] at this
  refine ⟨_, this, ?_⟩
  have h2 : 0 < 2 ^ k := Nat.two_pow_pos k
  simp only [bne_iff_ne, ne_eq]
  omega
theorem bitA_f {m k : Nat} (hm : m < 16) (hk : k < 4) (h : m.testBit k = false) : bits .and .i64 (m : Int) (wrap64 ((2 : Int) ^ k)) = 0 := by
  have := bitA_all ⟨m, hm⟩ ⟨k, hk⟩
  simp only [h, Bool.false_eq_true, if_false] at this
  exact this
theorem bitN {m k : Nat} (hm : m < 16) (hk : k < 4) (h : m.testBit k = true) : bits .andNot .i64 (m : Int) (wrap64 ((2 : Int) ^ k)) = ((m - 2 ^ k : Nat) : Int) := by
  have := bitN_all ⟨m, hm⟩ ⟨k, hk⟩
  simp only [h, if_true] at this
  exact this
/-- Somebody of a set must come ahead of a transaction. -/
def behB (M : Nat → Nat) (s who : Nat) : Bool := ([0, 1, 2, 3] : List Nat).any fun o => s.testBit o && (M o).testBit who
theorem behB_f {M : Nat → Nat} {s who : Nat} (h : ∀ o : Nat, o < 4 → (s.testBit o && (M o).testBit who) = false) : behB M s who = false := by
  unfold behB
  rw [List.any_eq_false]
  intro o ho
  have : o < 4 := by simp at ho; omega
  rw [h o this]; simp
theorem behB_t {M : Nat → Nat} {s who o : Nat} (h4 : o < 4) (h : (s.testBit o && (M o).testBit who) = true) : behB M s who = true := by
  unfold behB
  rw [List.any_eq_true]
  exact ⟨o, by simp; omega, h⟩
theorem rows_at (M : Nat → Nat) {k : Nat} (hlt : k < 4) : (#[.int .i64 (M 0), .int .i64 (M 1), .int .i64 (M 2), .int .i64 (M 3)] : Array Value)[k]? = some (.int .i64 (M k)) := by
  match k, hlt with
  | 0, _ => rfl
  | 1, _ => rfl
  | 2, _ => rfl
  | 3, _ => rfl
theorem rows_set (M : Nat → Nat) {k : Nat} (hlt : k < 4) (v : Nat) : (#[.int .i64 (M 0), .int .i64 (M 1), .int .i64 (M 2), .int .i64 (M 3)] : Array Value).setIfInBounds k (.int .i64 v) =
    #[.int .i64 ((fun a => if a = k then v else M a) 0 : Nat), .int .i64 ((fun a => if a = k then v else M a) 1 : Nat), .int .i64 ((fun a => if a = k then v else M a) 2 : Nat), .int .i64 ((fun a => if a = k then v else M a) 3 : Nat)] := by
  match k, hlt with
  | 0, _ => rfl
  | 1, _ => rfl
  | 2, _ => rfl
  | 3, _ => rfl
set_option maxHeartbeats 1000000 in
theorem isBehind_any (M : Nat → Nat) (s who : Nat) (w : World) (hs : s < 16) (hw : who < 4) (hM : ∀ o, o < 4 → M o < 16) :
    Calls Tryd.prog 54 #[.agg #[.int .i64 (M 0), .int .i64 (M 1), .int .i64 (M 2), .int .i64 (M 3)], .int .i64 s, .int .i64 who] w fun e w' => e = .returned (.bool (behB M s who)) ∧ Below w.heap.size w w' := by
  generalize hR : behB M s who = R
  have HR := Lib.hid hR
  clear hR
  have hB0 := heap_alloc_new w (.cells #[.int .i64 (M 0), .int .i64 (M 1), .int .i64 (M 2), .int .i64 (M 3)] 71)
  have hbA := (Below.refl w.heap.size w).alloc (Nat.le_refl _) (.cells #[.int .i64 (M 0), .int .i64 (M 1), .int .i64 (M 2), .int .i64 (M 3)] 71)
  go_enter Tryd.func54, Tryd.ntmps54
  go_wp2_with fail
  go_loopw [8] (fun i wr => ∃ k : Nat, k ≤ 4 ∧ i = .int .i64 k ∧ Below w.heap.size w wr ∧ wr.heap[w.heap.size]? = some (.cells #[.int .i64 (M 0), .int .i64 (M 1), .int .i64 (M 2), .int .i64 (M 3)] 71 (0, 0)) ∧ ∀ o : Nat, o < k → (s.testBit o && (M o).testBit who) = false) (fun i _ => 4 - (intOf i).toNat)
  case atStart => exact ⟨0, Nat.zero_le _, rfl, hbA, hB0, fun o h => by omega⟩
  case round =>
    rename World => W1
    obtain ⟨k, hk, rfl, hbl, hB, hall⟩ := hrel
    have HALL := Lib.hid hall
    clear hall
    by_cases hlt : k < 4
    case neg =>
      have : R = false := by rw [← HR.out]; exact behB_f fun o ho => HALL.out o (by omega)
      subst this
      go_wp2_with fail
      go_ret
      exact ⟨rfl, hbl⟩
    have hc := blk_cell hB (rows_at M hlt)
    have HB := Lib.hid hB
    have hlt' : (k : Int) < 4 := by omega
    have a0 := aft hc
    have HNX : Hid ((s.testBit k && (M k).testBit who) = false → ∀ o : Nat, o < k + 1 → (s.testBit o && (M o).testBit who) = false) := fun h o ho => by
      by_cases e : o = k
      · rw [e]; exact h
      · exact HALL.out o (by omega)
    have HHT : Hid ((s.testBit k && (M k).testBit who) = true → R = true) := fun h => by rw [← HR.out]; exact behB_t hlt h
    clear hB
    cases h1 : s.testBit k with
    | false =>
      have HN := Lib.hid (HNX.out (by rw [h1]; rfl))
      have e1 := bitA_f hs hlt h1
      clear h1 HNX HHT
      go_wp2_with fail
      refine wp_region_after (by kernel_rfl) (by kernel_rfl) ?_
      repeat (go_big_quiet_step (fail))
      refine wpQuiet_nil ?_
      intro w7 hb7
      go_wp2_with fail
      go_roundw
      case rel => exact ⟨k + 1, by omega, by go_num, hbl.trans (hb7.mono hbl.size), blk_below HB.out hb7, HN.out⟩
      case measure => simp [intOf]; omega
    | true =>
      obtain ⟨v1, e1, f1⟩ := bitA_t hs hlt h1
      cases h2 : (M k).testBit who with
      | false =>
        have HN := Lib.hid (HNX.out (by rw [h1, h2]; rfl))
        have e2 := bitA_f (hM k hlt) hw h2
        clear h1 h2 HNX HHT
        go_wp2_with fail
        refine wp_region_after (by kernel_rfl) (by kernel_rfl) ?_
        repeat (go_big_quiet_step (fail))
        refine wpQuiet_nil ?_
        intro w7 hb7
        go_wp2_with fail
        go_roundw
        case rel => exact ⟨k + 1, by omega, by go_num, hbl.trans (hb7.mono hbl.size), blk_below HB.out hb7, HN.out⟩
        case measure => simp [intOf]; omega
      | true =>
        have : R = true := HHT.out (by rw [h1, h2]; rfl)
        subst this
        obtain ⟨v2, e2, f2⟩ := bitA_t (hM k hlt) hw h2
        clear h1 h2 HNX HHT
        go_wp2_with fail
        refine wp_region_after (by kernel_rfl) (by kernel_rfl) ?_
        repeat (go_big_quiet_step (fail))
        refine wpQuiet_nil ?_
        intro w7 hb7
        go_wp2_with fail
        go_ret
        exact ⟨rfl, hbl.trans (hb7.mono hbl.size)⟩
set_option maxHeartbeats 3200000 in
theorem behindOf_t (lo : Nat) (A : Option Addr) (n c : Nat) (h : List Ac) (w : World) (hr : Rd cA 3 w lo A n h) (hc : n ≤ c) (hv : VA h) :
    Calls Tryd.prog 53 #[.slice A n c] w fun e w' => (∃ M : Nat → Nat, e = .returned (.agg #[.int .i64 (M 0), .int .i64 (M 1), .int .i64 (M 2), .int .i64 (M 3)]) ∧ ∀ a : Nat, a < 4 → Row (fun b => Cf h (a : Int) b) (M a)) ∧ Below w.heap.size w w' := by
  have HL := Lib.hid hr.len
  have HV := Lib.hid hv.2
  have hn16 : n ≤ 16 := by have := hv.1; have := HL.out; omega
  clear hv
  have hB0 := heap_alloc_new (w.alloc (.cells #[.int .i64 0, .int .i64 0, .int .i64 0, .int .i64 0] 71)) (.cells #[.int .i64 0, .int .i64 0, .int .i64 0, .int .i64 0] 71)
  have hC0 := blk_alloc (heap_alloc_new w (.cells #[.int .i64 0, .int .i64 0, .int .i64 0, .int .i64 0] 71)) (.cells #[.int .i64 0, .int .i64 0, .int .i64 0, .int .i64 0] 71)
  have hbA := ((Below.refl w.heap.size w).alloc (Nat.le_refl _) (.cells #[.int .i64 0, .int .i64 0, .int .i64 0, .int .i64 0] 71)).alloc (by simp) (.cells #[.int .i64 0, .int .i64 0, .int .i64 0, .int .i64 0] 71)
  simp only [World.size_alloc] at hB0
  go_enter Tryd.func53, Tryd.ntmps53
  go_wp2_with fail
  go_loopw [10] (fun i wr => ∃ (j : Nat) (M : Nat → Nat), j ≤ n ∧ i = .int .i64 j ∧ Below w.heap.size w wr ∧ wr.heap[w.heap.size + 1]? = some (.cells #[.int .i64 (M 0), .int .i64 (M 1), .int .i64 (M 2), .int .i64 (M 3)] 71 (0, 0)) ∧
      wr.heap[w.heap.size]? = some (.cells #[.int .i64 0, .int .i64 0, .int .i64 0, .int .i64 0] 71 (0, 0)) ∧ ∀ a : Nat, a < 4 → Row (fun b => CfTo h j 0 (a : Int) b) (M a)) (fun i _ => n - (intOf i).toNat)
  case atStart => exact ⟨0, fun _ => 0, Nat.zero_le _, rfl, hbA, hB0, hC0, fun a _ => Row.zero fun b => CfTo_zero⟩
  case round =>
    rename World => W1
    obtain ⟨j, M, hj, rfl, hbl, hB, hC, hM⟩ := hrel
    have hs := hbl.size
    by_cases hlt : j < n
    case neg =>
      have HF : Hid (∀ a : Nat, a < 4 → Row (fun b => Cf h (a : Int) b) (M a)) := fun a ha => (hM a ha).congr fun b => by
        show _ ↔ _
        rw [← CfTo_all HL.out, show j = n by omega]
      have c0 := blk_cell (i := 0) hB rfl
      have c1 := blk_cell (i := 1) hB rfl
      have c2 := blk_cell (i := 2) hB rfl
      have c3 := blk_cell (i := 3) hB rfl
      have d0 := blk_cell (i := 0) hC rfl
      have d1 := blk_cell (i := 1) hC rfl
      have d2 := blk_cell (i := 2) hC rfl
      have d3 := blk_cell (i := 3) hC rfl
      have f0 := blk_free hC 0
      have f1 := blk_free hC 1
      have f2 := blk_free hC 2
      have f3 := blk_free hC 3
      have hgl := blk_lt hC
      have S1 := blk_set hC 0 (.int .i64 (M 0))
      have S2 := blk_set S1 1 (.int .i64 (M 1))
      have S3 := blk_set S2 2 (.int .i64 (M 2))
      have S4 := blk_set S3 3 (.int .i64 (M 3))
      have E0 := blk_cell (i := 0) S4 rfl
      have E1 := blk_cell (i := 1) S4 rfl
      have E2 := blk_cell (i := 2) S4 rfl
      have E3 := blk_cell (i := 3) S4 rfl
      have HBB := Lib.hid ((((hbl.setCell (p := ⟨w.heap.size, 0, none⟩) (Nat.le_refl _) (.int .i64 (M 0))).setCell (p := ⟨w.heap.size, 1, none⟩) (Nat.le_refl _) (.int .i64 (M 1))).setCell (p := ⟨w.heap.size, 2, none⟩) (Nat.le_refl _) (.int .i64 (M 2))).setCell (p := ⟨w.heap.size, 3, none⟩) (Nat.le_refl _) (.int .i64 (M 3)))
      clear hM S1 S2 S3 S4
      go_wp2_with fail
      refine bodyPost_ret (v := .agg #[.int .i64 (M 0), .int .i64 (M 1), .int .i64 (M 2), .int .i64 (M 3)]) (by simp [results, Tryd.results53, go_sem, E0, E1, E2, E3]) rfl ?_
      exact ⟨⟨M, rfl, HF.out⟩, HBB.out⟩
    obtain ⟨b, o, y, rfl, _, hb, hy, g0, g1, g2⟩ := (hr.below hbl).atA hlt
    obtain ⟨⟨y0, y3⟩, _⟩ := HV.out y (List.mem_of_getElem? hy)
    obtain ⟨yw, yn, ywr⟩ := y
    simp only at g0 g1 g2 y0 y3
    obtain ⟨ky, rfl⟩ := Int.eq_ofNat_of_zero_le y0
    have hky : ky < 4 := by omega
    have HY := Lib.hid hy
    have hjc : j ≤ c := by omega
    have hbA1 := hbl.alloc hs (.cells #[.int .i64 ky, .int .i64 yn, .bool ywr] 32)
    have hB1 := blk_alloc hB (.cells #[.int .i64 ky, .int .i64 yn, .bool ywr] 32)
    have hC1 := blk_alloc hC (.cells #[.int .i64 ky, .int .i64 yn, .bool ywr] 32)
    have hY1 := heap_alloc_new W1 (.cells #[.int .i64 ky, .int .i64 yn, .bool ywr] 32)
    have hGl := blk_lt hB
    clear hy hB hC
    go_wp2_with fail
    go_loopw [19] (fun v wr => ∃ (i' : Nat) (M' : Nat → Nat), i' ≤ j ∧ v = .int .i64 i' ∧ Below w.heap.size w wr ∧ wr.heap[w.heap.size + 1]? = some (.cells #[.int .i64 (M' 0), .int .i64 (M' 1), .int .i64 (M' 2), .int .i64 (M' 3)] 71 (0, 0)) ∧
        wr.heap[w.heap.size]? = some (.cells #[.int .i64 0, .int .i64 0, .int .i64 0, .int .i64 0] 71 (0, 0)) ∧ wr.heap[W1.heap.size]? = some (.cells #[.int .i64 ky, .int .i64 yn, .bool ywr] 32 (0, 0)) ∧ ∀ a : Nat, a < 4 → Row (fun b => CfTo h j i' (a : Int) b) (M' a)) (fun v _ => j - (intOf v).toNat)
    case atStart => exact ⟨0, M, Nat.zero_le _, rfl, hbA1, hB1, hC1, hY1, hM⟩
    case round =>
      rename World => W2
      clear hB1 hC1 hY1 hM hbA1
      obtain ⟨i', M', hi', rfl, hbl2, hB2, hC2, hY2, hM2⟩ := hrel
      have hs2 := hbl2.size
      by_cases hlt2 : i' < j
      case neg =>
        have HM3 : Hid (∀ a : Nat, a < 4 → Row (fun b => CfTo h (j + 1) 0 (a : Int) b) (M' a)) := fun a ha => (hM2 a ha).congr fun b => by
          show _ ↔ _
          rw [show i' = j by omega]; exact CfTo_next.symm
        clear hM2
        go_wp2_with fail
        go_roundw
        case rel => exact ⟨j + 1, M', by omega, by go_num, hbl2, hB2, hC2, HM3.out⟩
        case measure => simp [intOf]; omega
      obtain ⟨b', o', x, hA, _, _, hx, d0, d1, d2⟩ := (hr.below hbl2).atA (k := i') (by omega)
      injection hA with hA
      injection hA with e1 e2 _
      subst e1 e2
      obtain ⟨⟨x0, x3⟩, _⟩ := HV.out x (List.mem_of_getElem? hx)
      have HNF0 := Lib.hid (fun (hcf : ¬ CfAt x ⟨(ky : Int), yn, ywr⟩) (a : Nat) (ha : a < 4) => (hM2 a ha).congr fun b => CfTo_f (a := (a : Int)) (b := b) hx HY.out hcf)
      have HNT0 := Lib.hid (fun (hcf : CfAt x ⟨(ky : Int), yn, ywr⟩) (a : Nat) (b : Int) => CfTo_t (a := (a : Int)) (b := b) hlt2 hx HY.out hcf)
      obtain ⟨xw, xn, xwr⟩ := x
      simp only at d0 d1 d2 x0 x3
      obtain ⟨kx, rfl⟩ := Int.eq_ofNat_of_zero_le x0
      have hkx : kx < 4 := by omega
      have HNF : Hid (¬ CfAt ⟨(kx : Int), xn, xwr⟩ ⟨(ky : Int), yn, ywr⟩ → ∀ a : Nat, a < 4 → Row (fun b => CfTo h j (i' + 1) (a : Int) b) (M' a)) := HNF0.out
      have HNT : Hid (CfAt ⟨(kx : Int), xn, xwr⟩ ⟨(ky : Int), yn, ywr⟩ → ∀ a : Nat, a < 4 → Row (fun b => CfTo h j (i' + 1) (a : Int) b) ((fun a => if a = kx then (M' kx ||| 2 ^ ky) else M' a) a)) := fun hcf a ha => by
        show Row _ (if a = kx then _ else _)
        by_cases e : a = kx
        · subst e
          rw [if_pos rfl]
          exact (hM2 a ha).or hky fun b => (HNT0.out hcf a b).trans ⟨fun h => h.elim .inl fun h => .inr h.2, fun h => h.elim .inl fun h => .inr ⟨rfl, h⟩⟩
        · rw [if_neg e]
          exact (hM2 a ha).congr fun b => (HNT0.out hcf a b).trans ⟨fun h => h.elim id fun h => absurd (by have := h.1; simp only at this; omega) e, .inl⟩
      have hM16 : ∀ a : Nat, a < 4 → M' a < 16 := fun a ha => (hM2 a ha).1
      have hblA := hbl2.alloc hs2 (.cells #[.int .i64 kx, .int .i64 xn, .bool xwr] 32)
      have hBx := blk_alloc hB2 (.cells #[.int .i64 kx, .int .i64 xn, .bool xwr] 32)
      have hCx := blk_alloc hC2 (.cells #[.int .i64 kx, .int .i64 xn, .bool xwr] 32)
      have hYx := blk_alloc hY2 (.cells #[.int .i64 kx, .int .i64 xn, .bool xwr] 32)
      have y0' := blk_cell (i := 0) hYx rfl
      have y1' := blk_cell (i := 1) hYx rfl
      have y2' := blk_cell (i := 2) hYx rfl
      have ck := blk_cell hBx (rows_at M' hkx)
      have fk := blk_free hBx kx
      have hgl := blk_lt hBx
      have hkx' : (kx : Int) < 4 := by omega
      have hyl := blk_lt hY2
      clear hx hM2 hB2 hC2 hY2 HNF0 HNT0
      by_cases e1 : kx = ky
      · have w1 : ((kx : Int) != (ky : Int)) = false := by simp [e1]
        have HNF2 := Lib.hid (HNF.out (fun h => h.1 (by simp only; omega)))
        try clear e2
        try clear e1
        go_wp2_with fail
        go_roundw
        case rel => exact ⟨i' + 1, M', by omega, by go_num, hblA, hBx, hCx, hYx, HNF2.out⟩
        case measure => simp [intOf]; omega
      have w1 : ((kx : Int) != (ky : Int)) = true := by simp; omega
      by_cases e2 : xn = yn
      case neg =>
        have w2 : (xn == yn) = false := by simpa using e2
        have HNF2 := Lib.hid (HNF.out (fun h => e2 h.2.1))
        try clear e2
        try clear e1
        go_wp2_with fail
        go_roundw
        case rel => exact ⟨i' + 1, M', by omega, by go_num, hblA, hBx, hCx, hYx, HNF2.out⟩
        case measure => simp [intOf]; omega
      have w2 : (xn == yn) = true := by simpa using e2
      cases xwr with
      | true =>
        have HNT2 := Lib.hid (HNT.out ⟨by simp only; omega, e2, .inl rfl⟩)
        have k1 := bitO (hM16 kx hkx) hky
        clear e2
        go_wp2_with fail
        go_region
        all_goals (
          go_wp2_with fail
          go_roundw
          case rel => exact ⟨i' + 1, fun a => if a = kx then (M' kx ||| 2 ^ ky) else M' a, by omega, by go_num, (hblA.trans (Below.refl _ _).drew).setCell (p := ⟨w.heap.size + 1, kx, none⟩) (by show w.heap.size ≤ w.heap.size + 1; omega) _, by rw [← rows_set M' hkx]; exact blk_set (w := (W2.alloc (.cells #[.int .i64 kx, .int .i64 xn, .bool true] 32)).drew) hBx kx _, (Below.heap_setCell _ _ _ _ (by simp)).trans hCx, (Below.heap_setCell _ _ _ _ (by simp; omega)).trans hYx, HNT2.out⟩
          case measure => simp [intOf]; omega)
      | false =>
        cases ywr with
        | true =>
          have HNT2 := Lib.hid (HNT.out ⟨by simp only; omega, e2, .inr rfl⟩)
          have k1 := bitO (hM16 kx hkx) hky
          clear e2
          go_wp2_with fail
          go_region
          all_goals (
            go_wp2_with fail
            go_roundw
            case rel => exact ⟨i' + 1, fun a => if a = kx then (M' kx ||| 2 ^ ky) else M' a, by omega, by go_num, (hblA.trans (Below.refl _ _).drew).setCell (p := ⟨w.heap.size + 1, kx, none⟩) (by show w.heap.size ≤ w.heap.size + 1; omega) _, by rw [← rows_set M' hkx]; exact blk_set (w := (W2.alloc (.cells #[.int .i64 kx, .int .i64 xn, .bool false] 32)).drew) hBx kx _, (Below.heap_setCell _ _ _ _ (by simp)).trans hCx, (Below.heap_setCell _ _ _ _ (by simp; omega)).trans hYx, HNT2.out⟩
            case measure => simp [intOf]; omega)
        | false =>
          have HNF2 := Lib.hid (HNF.out (fun h => by rcases h.2.2 with h | h <;> cases h))
          try clear e2
          try clear e1
          go_wp2_with fail
          go_roundw
          case rel => exact ⟨i' + 1, M', by omega, by go_num, hblA, hBx, hCx, hYx, HNF2.out⟩
          case measure => simp [intOf]; omega
set_option maxRecDepth 100000 in
set_option maxHeartbeats 3200000 in
theorem SerialOrder_t (lo : Nat) (A : Option Addr) (n c : Nat) (h : List Ac) (w : World) (hr : Rd cA 3 w lo A n h) (hc : n ≤ c) (hv : VA h) (hsrc : Src (Cf h)) :
    Calls Tryd.prog 33 #[.slice A n c] w fun e w' => (∃ v, e = .returned (.tuple #[v, .bool true])) ∧ Below w.heap.size w w' := by
  have HL := Lib.hid hr.len
  have HV := Lib.hid hv.2
  have HVA := Lib.hid hv
  have HSRC := Lib.hid hsrc
  have hn16 : n ≤ 16 := by have := hv.1; have := HL.out; omega
  clear hv hsrc
  go_enter Tryd.func33, Tryd.ntmps33
  go_wp2_with fail
  refine (ValidAccesses_t _ A n c h _ hr HVA.out).mono ?_
  rintro e w1 ⟨rfl, hb1⟩
  have hr1 := hr.below hb1
  go_wp2_with fail
  refine (behindOf_t _ A n c h _ hr1 hc HVA.out).mono ?_
  rintro e w2 ⟨⟨M, rfl, hM⟩, hb2⟩
  have hB2 := hb1.trans (hb2.mono hb1.size)
  have hr2 := hr1.below hb2
  have HM := Lib.hid hM
  have hs0 := hB2.size
  clear hr hr1 hb1 hb2 hM
  go_wp2_with fail
  go_loopw [5, 18] (fun v i wr => ∃ (k L : Nat), k ≤ n ∧ i = .int .i64 k ∧ v = .int .i64 L ∧ L < 16 ∧ Below w2.heap.size w2 wr ∧ wr.heap[w2.heap.size]? = some (.cells #[.int .i64 (M 0), .int .i64 (M 1), .int .i64 (M 2), .int .i64 (M 3)] 71 (0, 0))) (fun _ i _ => n - (intOf i).toNat)
  case atStart => exact ⟨0, 0, Nat.zero_le _, rfl, rfl, by omega, (Below.refl _ _).alloc (Nat.le_refl _) _, heap_alloc_new w2 _⟩
  case round =>
    rename World => W1
    obtain ⟨k, L, hk, rfl, rfl, hL, hbl, hB⟩ := hrel
    have hs := hbl.size
    by_cases hlt : k < n
    case pos =>
      obtain ⟨b, o, x, rfl, _, hb, hx, g0, g1, g2⟩ := (hr2.below hbl).atA hlt
      obtain ⟨⟨x0, x3⟩, _⟩ := HV.out x (List.mem_of_getElem? hx)
      obtain ⟨xw, xn, xwr⟩ := x
      simp only at g0 g1 g2 x0 x3
      obtain ⟨kx, rfl⟩ := Int.eq_ofNat_of_zero_le x0
      have hkx : kx < 4 := by omega
      have k1 := bitO hL hkx
      have hkx' : (kx : Int) < 4 := by omega
      have HL2 : Hid (L ||| 2 ^ kx < 16) := Nat.or_lt_two_pow (n := 4) hL (by rw [Nat.pow_lt_pow_iff_right (by omega)]; exact hkx)
      clear hx
      go_wp2_with fail
      go_roundw
      case rel => exact ⟨k + 1, L ||| 2 ^ kx, by omega, by go_num, rfl, HL2.out, hbl.alloc hs _, blk_alloc hB _⟩
      case measure => simp [intOf]; omega
    go_wp2_with fail
    go_loopw [5, 8] (fun u v wr => ∃ (L : Nat) (l : List Int), u = .int .i64 L ∧ L < 16 ∧ Below w2.heap.size w2 wr ∧ wr.heap[w2.heap.size]? = some (.cells #[.int .i64 (M 0), .int .i64 (M 1), .int .i64 (M 2), .int .i64 (M 3)] 71 (0, 0)) ∧ Own cI 1 3 wr (w2.heap.size + 1) v l ∧ l.length + L ≤ 16) (fun u _ _ => (intOf u).toNat)
    case atStart => exact ⟨L, [], rfl, hL, hbl, hB, Own.nil _ _, by simp; omega⟩
    case round =>
      rename World => W2
      clear hbl hB hL hlt hk hs
      obtain ⟨L2, l, rfl, hL2, hbl, hB, ho, hll⟩ := hrel
      have hs := hbl.size
      by_cases hz : L2 = 0
      · subst hz
        go_wp2_with fail
        go_ret2
        exact ⟨⟨_, rfl⟩, hB2.trans (hbl.mono hB2.size)⟩
      obtain ⟨s, hs4, hbit, hno⟩ := HSRC.out.bits hL2 hz
      have HNO : Hid (behB M L2 s = false) := behB_f fun q hq => by
        cases h1 : L2.testBit q with
        | false => rfl
        | true =>
          cases h2 : (M q).testBit s with
          | false => rfl
          | true => exact absurd (((HM.out q hq).2 s hs4).1 h2) (hno q hq h1)
      have HBIT := Lib.hid hbit
      have hz' : ((L2 : Int) != 0) = true := by simp; omega
      obtain ⟨A5, m5, c5, rfl, hc5, _⟩ := ho.rdn elI.len (by omega)
      clear hbit hno
      go_wp2_with fail
      go_loopw [9, 10] (fun nx v wr => ∃ (y q : Int), v = .int .i64 y ∧ -1 ≤ y ∧ y ≤ 3 ∧ nx = .int .i64 q ∧ (q = -1 ∨ ∃ k : Nat, k < 4 ∧ q = k ∧ L2.testBit k = true) ∧ (y < s → q ≠ -1) ∧ Below w2.heap.size w2 wr ∧ wr.heap[w2.heap.size]? = some (.cells #[.int .i64 (M 0), .int .i64 (M 1), .int .i64 (M 2), .int .i64 (M 3)] 71 (0, 0)) ∧
          Own cI 1 3 wr (w2.heap.size + 1) (.slice A5 m5 c5) l) (fun _ v _ => (intOf v + 1).toNat)
      case atStart => exact ⟨3, -1, rfl, by omega, by omega, rfl, .inl rfl, fun h => by omega, hbl, hB, ho⟩
      case round =>
        rename World => W3
        clear hbl hB ho hs
        obtain ⟨y, q, rfl, y0, y3, rfl, hq, hqs, hbl, hB, ho⟩ := hrel
        have hs := hbl.size
        by_cases hy : 0 ≤ y
        case neg =>
          obtain rfl : y = -1 := by omega
          obtain ⟨k, hk4, rfl, hkb⟩ := hq.resolve_left (hqs (by omega))
          have k1 := bitN hL2 hk4 hkb
          have HLT := Lib.hid (bit_clear ⟨L2, hL2⟩ ⟨k, hk4⟩ hkb).1
          have hlt2 : L2 - 2 ^ k < L2 := HLT.out
          have hnk : ¬ (k : Int) < 0 := by omega
          clear hkb hqs hq HLT
          go_wp2_with (at_builtin; refine wpList_append_rd elI _ rfl (.tmp 49) (.tmp 51) rfl rfl (ho.alloc _) rfl (Rd_one W3 #[.int .i64 k] 3 (k : Int) rfl) (by omega) (by have := blk_lt hB; simp; omega) ?_; intro v8 w8 ho8 hg8 _)
          have hb8 := below_own (hbl.alloc hs _) (ho.alloc (.cells #[.int .i64 k] 3)) hg8 (by omega) (by simp; omega)
          have hB8 := (hg8.block w2.heap.size (by have := blk_lt hB; simp; omega) (fun e => by have := (ho.blk _ e.symm).1; omega)).trans (blk_alloc hB (.cells #[.int .i64 k] 3))
          go_roundw
          case rel => exact ⟨L2 - 2 ^ k, l ++ [(k : Int)], rfl, by omega, hb8, hB8, ho8, by simp; omega⟩
          case measure => simp [intOf]; omega
        obtain ⟨k, rfl⟩ := Int.eq_ofNat_of_zero_le hy
        have hk4 : k < 4 := by omega
        have hy' : (0 : Int) ≤ (k : Int) := by omega
        cases h1 : L2.testBit k with
        | false =>
          have e1 := bitA_f hL2 hk4 h1
          have HNE : Hid ((k : Int) - 1 < s → q ≠ -1) := fun h => by
            by_cases e : k = s
            · subst e; rw [HBIT.out] at h1; cases h1
            · exact hqs (by omega)
          clear h1 hqs
          go_wp2_with fail
          go_roundw
          case rel => exact ⟨(k : Int) - 1, q, by go_num, by omega, by omega, rfl, hq, HNE.out, hbl, hB, ho⟩
          case measure => simp [intOf]
        | true =>
          obtain ⟨v1, e1, f1⟩ := bitA_t hL2 hk4 h1
          have c0 := blk_cell (i := 0) hB rfl
          have c1 := blk_cell (i := 1) hB rfl
          have c2 := blk_cell (i := 2) hB rfl
          have c3 := blk_cell (i := 3) hB rfl
          have HIB := Lib.hid (isBehind_any M L2 k W3 hL2 hk4 fun a ha => (HM.out a ha).1)
          cases h2 : behB M L2 k with
          | true =>
            rw [h2] at HIB
            have HNE : Hid ((k : Int) - 1 < s → q ≠ -1) := fun h => by
              by_cases e : k = s
              · subst e; rw [HNO.out] at h2; cases h2
              · exact hqs (by omega)
            clear h1 h2 hqs
            go_wp2_with fail
            refine HIB.out.mono ?_
            rintro e w9 ⟨rfl, hb9⟩
            go_wp2_with fail
            go_roundw
            case rel => exact ⟨(k : Int) - 1, q, by go_num, by omega, by omega, rfl, hq, HNE.out, hbl.trans (hb9.mono hs), blk_below hB hb9, ho.below hb9⟩
            case measure => simp [intOf]
          | false =>
            rw [h2] at HIB
            have HK : Hid ((k : Int) = -1 ∨ ∃ k' : Nat, k' < 4 ∧ (k : Int) = k' ∧ L2.testBit k' = true) := .inr ⟨k, hk4, rfl, h1⟩
            clear h1 h2 hqs hq
            go_wp2_with fail
            refine HIB.out.mono ?_
            rintro e w9 ⟨rfl, hb9⟩
            go_wp2_with fail
            go_roundw
            case rel => exact ⟨(k : Int) - 1, (k : Int), by go_num, by omega, by omega, rfl, HK.out, fun _ => by omega, hbl.trans (hb9.mono hs), blk_below hB hb9, ho.below hb9⟩
            case measure => simp [intOf]

theorem GA.src {t : List Nd} {list : List St} (h : GA t list) : Src (Cf (acF list)) := by
  obtain ⟨τ, t1, _, ht⟩ := h.tree (fun _ _ => False) (fun a n hf => hf.elim)
  intro L hL _
  obtain ⟨s, hs, hp⟩ := ht.source _ L (Nat.le_refl _) hL
  refine ⟨s, hs, fun p hpL hc => hp p hpL ?_⟩
  obtain ⟨i, j, x, y, hij, hx, hy, ta, tb, _, hn⟩ := acF_cf hc
  have k1 : TkAt list i p x.node := ⟨x, hx, ta, rfl⟩
  have k2 : TkAt list j s x.node := ⟨y, hy, tb, hn.symm⟩
  exact ⟨x.node, .inl ⟨i, k1⟩, .inl ⟨j, k2⟩, by rw [t1 i p _ k1, t1 j s _ k2]; exact hij⟩
set_option maxRecDepth 100000 in
set_option maxHeartbeats 3200000 in
theorem lawGoesAlongSerial (A : Option Addr) (n c : Nat) (zs : List Int) (w : World) (hn : n ≤ 1048576) (hr : Rd cB 1 w 0 A n zs) (hc : n ≤ c) (hz : ∀ (k : Nat) (z : Int), zs[k]? = some z → 0 ≤ z ∧ z ≤ 255) (hT : Tb w) :
    Calls Tryd.prog 16 #[.slice A n c] w fun e w' => e = .returned (.bool true) ∧ Below w.heap.size w w' := by
  have hn' : (n : Int) ≤ 1048576 := by omega
  go_enter Tryd.func16, Tryd.ntmps16
  go_wp2_with fail
  refine (DrawGoesAlong_any A n c zs _ hr hc hz).mono ?_
  rintro e w1 ⟨A1, n1, c1, t, A2, m, c2, list, rfl, hc1, hrt, hn1, hzt, hc2, hrl, hm, hb1⟩
  have hT1 := hT.below hb1
  have HL := Lib.hid hrl.len
  have HGA : Hid (∀ (k : Nat) w', k ≤ m → Below w1.heap.size w1 w' → Calls Tryd.prog 39 #[.slice A1 n1 c1, .slice A2 k c2] w' fun e w'' => e = .returned (.bool (gaB t (list.take k))) ∧ Below w'.heap.size w' w'') := fun k w' hk hb' =>
    GoesAlong_any _ _ A1 A2 n1 c1 k c2 t (list.take k) w' (hrt.below hb') hc1 ((hrl.take hk).below hb') (by omega) (hT1.below hb')
  have HGS : Hid (∀ w', Below w1.heap.size w1 w' → Calls Tryd.prog 40 #[.slice A1 n1 c1, .slice A2 m c2] w' fun e w'' => e = .returned (.bool (gaB t list)) ∧ Below w'.heap.size w' w'') := fun w' hb' =>
    GoesAlongS_any _ _ A1 A2 n1 c1 m c2 t list w' (hrt.below hb') hc1 hzt (hrl.below hb') (by omega)
  have HALL := Lib.hid (List.take_of_length_le (by have := HL.out; omega) : list.take m = list)
  have HG1 := Lib.hid (HGA.out m w1 (Nat.le_refl _) (Below.refl _ _))
  rw [HALL.out] at HG1
  have hs1 := hb1.size
  by_cases hg : GA t list
  case neg =>
    have HF := Lib.hid (gaB_f hg)
    rw [HF.out] at HG1 HGS
    clear hg
    go_wp2_with fail
    refine HG1.out.mono ?_
    rintro e w2 ⟨rfl, hb2⟩
    have HG2 := Lib.hid (HGS.out w2 hb2)
    go_wp2_with fail
    refine HG2.out.mono ?_
    rintro e w3 ⟨rfl, hb3⟩
    have hB3 := hb2.trans (hb3.mono hb2.size)
    have HG3 := Lib.hid (HGS.out w3 hB3)
    go_wp2_with fail
    refine HG3.out.mono ?_
    rintro e w4 ⟨rfl, hb4⟩
    go_wp2_with fail
    go_ret
    exact ⟨rfl, hb1.trans ((hB3.trans (hb4.mono hB3.size)).mono hs1)⟩
  have HF := Lib.hid (gaB_t hg)
  rw [HF.out] at HG1 HGS
  have HGG := Lib.hid hg
  clear hg
  have hm16 : m ≤ 16 := by have := HGG.out.2.1.len; have := HL.out; omega
  have HSRC : Hid (Src (Cf (acF list))) := GA.src HGG.out
  have HVA : Hid (VA (acF list)) := acF_VA HGG.out.2.1
  go_wp2_with fail
  refine HG1.out.mono ?_
  rintro e w2 ⟨rfl, hb2⟩
  have HG2 := Lib.hid (HGS.out w2 hb2)
  go_wp2_with fail
  refine HG2.out.mono ?_
  rintro e w3 ⟨rfl, hb3⟩
  have hB3 := hb2.trans (hb3.mono hb2.size)
  have HAC := Lib.hid (AccessesOf_any _ A2 m c2 list w3 (hrl.below hB3) (by omega) (hT1.below hB3))
  have hal : (acI list).length ≤ 16 := by rw [acI_t HGG.out.2.1]; have := acF_len list; have := HL.out; omega
  have HAE := Lib.hid (acI_t HGG.out.2.1)
  go_wp2_with fail
  refine HAC.out.mono ?_
  rintro e w4 ⟨v4, rfl, ho4, hb4⟩
  have hB4 := hB3.trans (hb4.mono hB3.size)
  obtain ⟨A4, n4, c4, rfl, hc4, hr4⟩ := ho4.rdn elA.len (by omega)
  rw [HAE.out] at hr4
  have HSO := Lib.hid (SerialOrder_t _ A4 n4 c4 _ w4 hr4 hc4 HVA.out HSRC.out)
  clear ho4
  go_wp2_with fail
  refine HSO.out.mono ?_
  rintro e w5 ⟨⟨v5, rfl⟩, hb5⟩
  go_wp2_with fail
  go_ret
  exact ⟨rfl, hb1.trans ((hB4.trans (hb5.mono hB4.size)).mono hs1)⟩
end Go.Proofs.YtddpdcnbdbnljaaDoor
