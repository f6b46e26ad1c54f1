/- Conflicts of accesses, sets of transactions as bits, in plain words. -/
import Derived.Test.YtddpdcnbdbnljaaDoorLockP
import Derived.Test.YtddpdcnbdbnljaaDoorPlaceP
import Derived.Test.YtddpdcnbdbnljaaDoorSerialP
namespace Go.Proofs.YtddpdcnbdbnljaaDoor
open Go.RowKit

/-- A transaction must come behind another one, by the accesses before the j-th one and those before the i-th one with the j-th one. -/
def CfTo (h : List Ac) (j i : Nat) (a b : Int) : Prop := ∃ (i' j' : Nat) (x y : Ac), i' < j' ∧ (j' < j ∨ (j' = j ∧ i' < i)) ∧ h[i']? = some x ∧ h[j']? = some y ∧ x.who = a ∧ y.who = b ∧ a ≠ b ∧ x.node = y.node ∧ (x.write = true ∨ y.write = true)
/-- A transaction must come behind another one. -/
def Cf (h : List Ac) (a b : Int) : Prop := ∃ (i j : Nat) (x y : Ac), i < j ∧ h[i]? = some x ∧ h[j]? = some y ∧ x.who = a ∧ y.who = b ∧ a ≠ b ∧ x.node = y.node ∧ (x.write = true ∨ y.write = true)
/-- Two accesses are in conflict. -/
def CfAt (x y : Ac) : Prop := x.who ≠ y.who ∧ x.node = y.node ∧ (x.write = true ∨ y.write = true)
theorem CfTo_zero {h : List Ac} {a b : Int} : ¬ CfTo h 0 0 a b := fun ⟨_, _, _, _, _, hc, _⟩ => by omega
theorem CfTo_all {h : List Ac} {a b : Int} {n : Nat} (hn : h.length = n) : CfTo h n 0 a b ↔ Cf h a b := by
  constructor
  · rintro ⟨i, j, x, y, h1, _, h2⟩; exact ⟨i, j, x, y, h1, h2⟩
  · rintro ⟨i, j, x, y, h1, h2, h3, h4⟩
    have := (List.getElem?_eq_some_iff.1 h3).1
    exact ⟨i, j, x, y, h1, .inl (by omega), h2, h3, h4⟩
theorem CfTo_next {h : List Ac} {a b : Int} {j : Nat} : CfTo h j j a b ↔ CfTo h (j + 1) 0 a b := by
  constructor
  · rintro ⟨i', j', x, y, h1, h2, h3⟩; exact ⟨i', j', x, y, h1, .inl (by omega), h3⟩
  · rintro ⟨i', j', x, y, h1, h2, h3⟩; exact ⟨i', j', x, y, h1, by omega, h3⟩
theorem CfTo_t {h : List Ac} {a b : Int} {j i : Nat} {x y : Ac} (hij : i < j) (hx : h[i]? = some x) (hy : h[j]? = some y) (hc : CfAt x y) : CfTo h j (i + 1) a b ↔ CfTo h j i a b ∨ (a = x.who ∧ b = y.who) := by
  constructor
  · rintro ⟨i', j', x', y', h1, h2, h3, h4, h5, h6, h7⟩
    by_cases e : j' = j ∧ i' = i
    · obtain ⟨rfl, rfl⟩ := e
      rw [hx] at h3; injection h3 with h3; subst h3
      rw [hy] at h4; injection h4 with h4; subst h4
      exact .inr ⟨h5.symm, h6.symm⟩
    · exact .inl ⟨i', j', x', y', h1, by omega, h3, h4, h5, h6, h7⟩
  · rintro (⟨i', j', x', y', h1, h2, h3⟩ | ⟨rfl, rfl⟩)
    · exact ⟨i', j', x', y', h1, by omega, h3⟩
    · exact ⟨i, j, x, y, hij, .inr ⟨rfl, by omega⟩, hx, hy, rfl, rfl, hc.1, hc.2.1, hc.2.2⟩
theorem CfTo_f {h : List Ac} {a b : Int} {j i : Nat} {x y : Ac} (hx : h[i]? = some x) (hy : h[j]? = some y) (hc : ¬ CfAt x y) : CfTo h j (i + 1) a b ↔ CfTo h j i a b := by
  constructor
  · rintro ⟨i', j', x', y', h1, h2, h3, h4, h5, h6, h7⟩
    by_cases e : j' = j ∧ i' = i
    · obtain ⟨rfl, rfl⟩ := e
      rw [hx] at h3; injection h3 with h3; subst h3
      rw [hy] at h4; injection h4 with h4; subst h4
      exact absurd ⟨by rw [h5, h6]; exact h7.1, h7.2.1, h7.2.2⟩ hc
    · exact ⟨i', j', x', y', h1, by omega, h3, h4, h5, h6, h7⟩
  · rintro ⟨i', j', x', y', h1, h2, h3⟩; exact ⟨i', j', x', y', h1, by omega, h3⟩

/-- A set of numbers 0 to 3 as bits. -/
def Row (P : Int → Prop) (m : Nat) : Prop := m < 16 ∧ ∀ b : Nat, b < 4 → (m.testBit b = true ↔ P b)
theorem Row.zero {P : Int → Prop} (h : ∀ b, ¬ P b) : Row P 0 := ⟨by omega, fun b _ => by simp; exact h b⟩
theorem Row.congr {P Q : Int → Prop} {m : Nat} (h : Row P m) (e : ∀ b, Q b ↔ P b) : Row Q m := ⟨h.1, fun b hb => (h.2 b hb).trans (e b).symm⟩
theorem Row.or {P Q : Int → Prop} {m k : Nat} (h : Row P m) (hk : k < 4) (e : ∀ b, Q b ↔ P b ∨ b = (k : Int)) : Row Q (m ||| 2 ^ k) := by
  refine ⟨Nat.or_lt_two_pow (n := 4) h.1 (by rw [Nat.pow_lt_pow_iff_right (by omega)]; exact hk), fun b hb => ?_⟩
  rw [Nat.testBit_or, Bool.or_eq_true, h.2 b hb, Nat.testBit_two_pow, decide_eq_true_iff, e b]
  constructor
  · rintro (h | h)
    · exact .inl h
    · exact .inr (by rw [h])
  · rintro (h | h)
    · exact .inl h
    · exact .inr (by omega)
theorem bit_or : ∀ m : Fin 16, ∀ k : Fin 4, bits .or .i64 (m.val : Int) (IntKind.i64.wrap (1 * 2 ^ k.val)) = ((m.val ||| 2 ^ k.val : Nat) : Int) := by decide
theorem bit_and : ∀ m : Fin 16, ∀ k : Fin 4, bits .and .i64 (m.val : Int) (IntKind.i64.wrap (1 * 2 ^ k.val)) = if m.val.testBit k.val then ((2 ^ k.val : Nat) : Int) else 0 := by decide
theorem bit_not : ∀ m : Fin 16, ∀ k : Fin 4, bits .andNot .i64 (m.val : Int) (IntKind.i64.wrap (1 * 2 ^ k.val)) = ((m.val - (if m.val.testBit k.val then 2 ^ k.val else 0) : Nat) : Int) := by decide
theorem bit_clear : ∀ m : Fin 16, ∀ k : Fin 4, m.val.testBit k.val = true → m.val - 2 ^ k.val < m.val ∧ ∀ b : Fin 4, (m.val - 2 ^ k.val).testBit b.val = (m.val.testBit b.val && decide (b ≠ k)) := by decide
theorem bit_some : ∀ m : Fin 16, m.val ≠ 0 → ∃ k : Fin 4, m.val.testBit k.val = true := by decide

theorem acF_at {list : List St} {i : Nat} {x : Ac} (h : (acF list)[i]? = some x) : ∃ (k : Nat) (s : St), list[k]? = some s ∧ s.free = false ∧ x = ⟨s.who, s.node, decide (s.mode = 5)⟩ ∧ (acF (list.take k)).length = i := by
  have : ∀ (l : List St) (m i : Nat), (pickL (fun _ s => !s.free) (fun s => (⟨s.who, s.node, decide (s.mode = 5)⟩ : Ac)) l m)[i]? = some x → ∃ (k : Nat) (s : St), l[k]? = some s ∧ s.free = false ∧ x = ⟨s.who, s.node, decide (s.mode = 5)⟩ ∧ (pickL (fun _ s => !s.free) (fun s => (⟨s.who, s.node, decide (s.mode = 5)⟩ : Ac)) (l.take k) m).length = i := by
    intro l
    induction l with
    | nil => intro m i h; simp [pickL] at h
    | cons s r ih =>
      intro m i h
      rw [pickL] at h
      by_cases hp : (!s.free) = true
      · rw [if_pos hp] at h
        cases i with
        | zero =>
          simp at h
          exact ⟨0, s, rfl, by simpa using hp, h.symm, rfl⟩
        | succ i =>
          simp at h
          obtain ⟨k, s', h1, h2, h3, h4⟩ := ih _ _ h
          exact ⟨k + 1, s', h1, h2, h3, by rw [List.take_succ_cons, pickL, if_pos hp, List.length_cons, h4]⟩
      · rw [if_neg hp] at h
        obtain ⟨k, s', h1, h2, h3, h4⟩ := ih _ _ h
        exact ⟨k + 1, s', h1, h2, h3, by rw [List.take_succ_cons, pickL, if_neg hp, h4]⟩
  exact this list 0 i h
theorem acF_mono (list : List St) {k l : Nat} (h : k ≤ l) : (acF (list.take k)).length ≤ (acF (list.take l)).length := by
  have e : list.take l = list.take k ++ (list.take l).drop k := by
    conv => lhs; rw [← List.take_append_drop k (list.take l)]
    rw [List.take_take, Nat.min_eq_left h]
  unfold acF
  rw [e, pick_app, List.length_append]
  omega
/-- A conflict of the accesses of steps: two steps that take a lock on one node. -/
theorem acF_cf {list : List St} {a b : Int} (h : Cf (acF list) a b) : ∃ (i j : Nat) (x y : St), i < j ∧ list[i]? = some x ∧ list[j]? = some y ∧ Takes x a ∧ Takes y b ∧ a ≠ b ∧ x.node = y.node := by
  obtain ⟨i, j, x, y, hij, hx, hy, ha, hb, hab, hn, _⟩ := h
  obtain ⟨k, s, h1, h2, rfl, h4⟩ := acF_at hx
  obtain ⟨k', s', h1', h2', rfl, h4'⟩ := acF_at hy
  refine ⟨k, k', s, s', Nat.lt_of_not_le fun hle => ?_, h1, h1', ⟨ha, h2⟩, ⟨hb, h2'⟩, hab, hn⟩
  have := acF_mono list hle
  omega
/-- What must be so that there is an order. -/
def Src (P : Int → Int → Prop) : Prop := ∀ L : List Int, L ≠ [] → (∀ x ∈ L, 0 ≤ x ∧ x ≤ 3) → ∃ s ∈ L, ∀ p ∈ L, ¬ P p s
theorem ex_min (e : Int → Int) : ∀ L : List Int, L ≠ [] → ∃ T ∈ L, ∀ x ∈ L, e T ≤ e x
  | [], h => absurd rfl h
  | [x], _ => ⟨x, List.mem_cons_self .., fun y hy => by simp at hy; rw [hy]; exact Int.le_refl _⟩
  | x :: y :: r, _ => by
    obtain ⟨T, hT, hm⟩ := ex_min e (y :: r) (by simp)
    by_cases hc : e T ≤ e x
    · exact ⟨T, List.mem_cons_of_mem _ hT, fun z hz => (List.mem_cons.1 hz).elim (fun h => h ▸ hc) (hm z)⟩
    · exact ⟨x, List.mem_cons_self .., fun z hz => (List.mem_cons.1 hz).elim (fun h => h ▸ Int.le_refl _) (fun hz => by have := hm z hz; omega)⟩
theorem Src_of {P : Int → Int → Prop} {e : Int → Int} (h : ∀ a b, P a b → e a < e b) : Src P := fun L hL _ => by
  obtain ⟨s, hs, hm⟩ := ex_min e L hL
  exact ⟨s, hs, fun p hp hc => by have := hm p hp; have := h p s hc; omega⟩
/-- A row of bits has a least one. -/
theorem Src.bits {P : Int → Int → Prop} (h : Src P) {m : Nat} (hm : m < 16) (h0 : m ≠ 0) : ∃ s : Nat, s < 4 ∧ m.testBit s = true ∧ ∀ p : Nat, p < 4 → m.testBit p = true → ¬ P p s := by
  obtain ⟨k, hk⟩ := bit_some ⟨m, hm⟩ h0
  obtain ⟨s, hs, hp⟩ := h (([0, 1, 2, 3] : List Int).filter fun x => m.testBit x.toNat) (fun e => by
    have : (k.val : Int) ∈ ([0, 1, 2, 3] : List Int).filter fun x => m.testBit x.toNat := List.mem_filter.2 ⟨by have := k.2; simp; omega, by simpa using hk⟩
    rw [e] at this; cases this) (fun x hx => by have := (List.mem_filter.1 hx).1; simp at this; omega)
  obtain ⟨h1, h2⟩ := List.mem_filter.1 hs
  have h3 : 0 ≤ s ∧ s ≤ 3 := by simp at h1; omega
  refine ⟨s.toNat, by omega, h2, fun p hp4 hpb hc => hp p (List.mem_filter.2 ⟨by simp; omega, by simpa using hpb⟩) ?_⟩
  rw [show ((s.toNat : Nat) : Int) = s by omega] at hc
  exact hc
/-- By two phases and locks for writing, what is in conflict has its last locks in that order. -/
theorem lpF_take_ge {list : List St} {j : Nat} {y : St} {b : Int} (hy : list[j]? = some y) (ht : Takes y b) : (j : Int) ≤ lpF list b := by
  rcases lpF_cases list b with ⟨_, h2⟩ | ⟨i, s, h1, h2, h3, h4⟩
  · exact absurd ht (h2 j y hy)
  · rw [h1]
    by_cases e : i < j
    · exact absurd ht (h4 j y e hy)
    · omega
theorem lp_cf {list : List St} (hv : VS list) (htp : ∀ who, TP list who) (hm : ∀ s ∈ list, s.free = false → s.mode = 5) {a b : Int} (h : Cf (acF list) a b) : lpF list a < lpF list b := by
  obtain ⟨i, j, x, y, hij, hx, hy, ta, tb, hab, hn⟩ := acF_cf h
  have hjb := lpF_take_ge hy tb
  -- a does not hold the node ahead of j
  obtain ⟨m, hmj, hvm⟩ := hv.tab j
  obtain ⟨l', hl', _⟩ := hv.tab (j + 1)
  rw [stepsF_snoc hmj hy, doF_take tb.2] at hl'
  obtain ⟨_, _, hb, _⟩ := takeF_some hl'
  have ha03 := (hv.at hx).1
  rw [ta.1] at ha03
  have htg := blkF_nil hb ha03.1 ha03.2 (by rw [tb.1]; exact hab)
  rw [hm y (List.mem_of_getElem? hy) tb.2, all6 (p := fun h => joinF h 5 = 5) (by decide) _ (heldF_isM hvm _ _)] at htg
  have h0 : heldF m a y.node = 0 := all6 (p := fun h => togF h 5 = true → h = 0) (by decide) _ (heldF_isM hvm _ _) htg
  -- so it has freed it between
  have hfree : ∃ (f : Nat) (z : St), i < f ∧ f < j ∧ list[f]? = some z ∧ z.who = a ∧ z.free = true := by
    have key : ∀ d k, k + d = j → i < k → (∃ mk, stepsF (list.take k) [] = some mk ∧ heldF mk a y.node ≠ 0) → ∃ (f : Nat) (z : St), i < f ∧ f < j ∧ list[f]? = some z ∧ z.who = a ∧ z.free = true := by
      intro d
      induction d with
      | zero =>
        rintro k hk hik ⟨mk, h1, h2⟩
        have : k = j := by omega
        subst this
        rw [hmj] at h1; injection h1 with h1; subst h1
        exact absurd h0 h2
      | succ d ih =>
        rintro k hk hik ⟨mk, h1, h2⟩
        have hjl := (List.getElem?_eq_some_iff.1 hy).1
        have hz : list[k]? = some list[k] := List.getElem?_eq_getElem (by omega)
        generalize list[k] = z at hz
        obtain ⟨mk', h1', _⟩ := hv.tab (k + 1)
        have h1'' := h1'
        rw [stepsF_snoc h1 hz] at h1'
        obtain ⟨mk2, e2, hvk⟩ := hv.tab k
        rw [h1] at e2; injection e2 with e2; subst e2
        have hh := doF_held hvk h1' a y.node
        by_cases hc : a = z.who ∧ y.node = z.node
        · by_cases hf : z.free = true
          · exact ⟨k, z, hik, by omega, hz, hc.1.symm, hf⟩
          · rw [if_pos hc, if_neg hf] at hh
            have hmz := doF_mode h1' hf
            have := joinF_pos (heldF_isM hvk z.who z.node) (show IsM z.mode from ⟨by omega, hmz.2⟩) hmz.1
            exact ih (k + 1) (by omega) (by omega) ⟨mk', h1'', by rw [hh]; omega⟩
        · rw [if_neg hc] at hh
          exact ih (k + 1) (by omega) (by omega) ⟨mk', h1'', by rw [hh]; exact h2⟩
    refine key (j - (i + 1)) (i + 1) (by omega) (by omega) ?_
    obtain ⟨mi, hmi, hvi⟩ := hv.tab i
    obtain ⟨mi', hmi', _⟩ := hv.tab (i + 1)
    have hmi'' := hmi'
    rw [stepsF_snoc hmi hx] at hmi'
    have hh := doF_held hvi hmi' a y.node
    rw [if_pos ⟨ta.1.symm, hn.symm⟩, if_neg (by rw [ta.2]; simp)] at hh
    have hmz := doF_mode hmi' (by rw [ta.2]; simp)
    have := joinF_pos (heldF_isM hvi x.who x.node) (show IsM x.mode from ⟨by omega, hmz.2⟩) hmz.1
    exact ⟨mi', hmi'', by rw [hh]; omega⟩
  obtain ⟨f, z, hif, hfj, hz, hzw, hzf⟩ := hfree
  have hlt : lpF list a < f := by
    rcases lpF_cases list a with ⟨h1, _⟩ | ⟨p, s, h1, h2, h3, _⟩
    · rw [h1]; omega
    · rw [h1]
      have : ¬ f ≤ p := fun hle => by
        rcases Nat.lt_or_ge f p with e | e
        · exact htp a f p z s e hz h2 hzw hzf h3
        · have : f = p := by omega
          subst this
          rw [hz] at h2; injection h2 with h2; subst h2
          rw [h3.2] at hzf; cases hzf
      omega
  omega
theorem pl_lt {list : List St} {a b : Int} (ha : 0 ≤ lpF list a) (h : lpF list a < lpF list b) : plF (lpoF list) a ≤ plF (lpoF list) b := by
  unfold plF
  rcases plL_spec a (lpoF list) 0 with ⟨_, h2⟩ | ⟨i, h1, h2⟩
  · exact absurd (lpo_mem.2 ha) h2
  · rcases plL_spec b (lpoF list) 0 with ⟨_, h4⟩ | ⟨j, h3, h4⟩
    · exact absurd (lpo_mem.2 (by omega)) h4
    · rw [h1, h3]
      by_cases e : j < i
      · obtain ⟨hi, ei⟩ := List.getElem?_eq_some_iff.1 h2
        obtain ⟨hj, ej⟩ := List.getElem?_eq_some_iff.1 h4
        have := List.pairwise_iff_getElem.1 (lpo_pair list) j i hj hi e
        rw [ei, ej] at this
        omega
      · omega
theorem cf_pos {list : List St} {a b : Int} (h : Cf (acF list) a b) : 0 ≤ lpF list a := by
  obtain ⟨i, _, x, _, _, hx, _, ta, _⟩ := acF_cf h
  have := lpF_take_ge hx ta
  omega
end Go.Proofs.YtddpdcnbdbnljaaDoor
