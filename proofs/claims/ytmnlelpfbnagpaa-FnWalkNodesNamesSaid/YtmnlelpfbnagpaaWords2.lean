/- More words: a row of the call's own as a list; the law of append in these words. No program. -/
import Derived.Test.YtmnlelpfbnagpaaWords
namespace Go.Proofs.Ytmnlelpfbnagpaa
open Go.RowKit

/-- What is to be known of a slice type and its element type. -/
structure ElemT {α : Type} (P : Program) (cs : α → List Value) (sz : Nat) (t e : TypeId) (bytes : Nat) : Prop where
  und : P.underlying t = some (.slice e)
  inf : ∃ i z, P.info? e = some i ∧ i.zero = some z ∧ i.size = sz ∧ i.bytes = bytes ∧ z.cells.size = sz
  pos : 0 < sz
  posB : 0 < bytes
  len : ∀ x : α, (cs x).length = sz
  one : ∀ x : α, ∀ u ∈ cs x, u.oneCell' = true

/-- The slice v is a row of the call's own, from block base on, and reads as l. -/
def Own {α : Type} (cs : α → List Value) (sz : Nat) (e : TypeId) (w : World) (base : Nat) (v : Value) (l : List α) : Prop := w.ownsRow base e sz v l.length (l.flatMap cs)

theorem flat_len {α : Type} {cs : α → List Value} {sz : Nat} (h : ∀ x, (cs x).length = sz) (l : List α) : (l.flatMap cs).length = l.length * sz := by
  induction l with
  | nil => simp
  | cons x r ih => rw [List.flatMap_cons, List.length_append, h, ih, List.length_cons, Nat.add_mul]; omega
theorem flat_get {α : Type} {cs : α → List Value} {sz : Nat} (h : ∀ x, (cs x).length = sz) : ∀ (l : List α) (k : Nat) (x : α) (j : Nat) (u : Value), l[k]? = some x → (cs x)[j]? = some u → (l.flatMap cs)[k * sz + j]? = some u := by
  intro l
  induction l with
  | nil => intro k x j u hx; simp at hx
  | cons y r ih =>
    intro k x j u hx hu
    rw [List.flatMap_cons]
    cases k with
    | zero =>
      simp only [List.getElem?_cons_zero, Option.some.injEq] at hx
      subst hx
      have hj : j < (cs y).length := (List.getElem?_eq_some_iff.1 hu).1
      rw [Nat.zero_mul, Nat.zero_add, List.getElem?_append_left hj]; exact hu
    | succ k =>
      have e : (k + 1) * sz + j = (cs y).length + (k * sz + j) := by rw [h, Nat.add_mul]; omega
      rw [e, List.getElem?_append_right (by omega)]
      have := ih k x j u (by simpa using hx) hu
      rw [show (cs y).length + (k * sz + j) - (cs y).length = k * sz + j from by omega]
      exact this
theorem flat_mem {α : Type} {cs : α → List Value} (h : ∀ x, ∀ u ∈ cs x, u.oneCell' = true) (l : List α) : ∀ u ∈ l.flatMap cs, u.oneCell' = true := by
  intro u hu
  obtain ⟨x, _, hx⟩ := List.mem_flatMap.1 hu
  exact h x u hx

section
variable {α : Type} {cs : α → List Value} {sz : Nat} {e : TypeId} {w w' : World} {base : Nat} {v : Value} {l : List α}

/-- As a slice that is read. -/
theorem Own.rd (h : Own cs sz e w base v l) (hlen : ∀ x, (cs x).length = sz) (hl : l.length ≤ 1000000000000000) : ∃ A c, v = .slice A l.length c ∧ l.length ≤ c ∧ Rd cs sz w base A l.length l := by
  rcases h.2 with ⟨rfl, hn⟩ | ⟨g, cap, cur, rfl, hb, hg, hnc, _, _, htake⟩
  · have : l = [] := List.eq_nil_of_length_eq_zero hn
    subst this
    exact ⟨none, 0, rfl, Nat.le_refl _, Rd.nil⟩
  · refine ⟨_, cap, rfl, hnc, rfl, hl, fun _ => ⟨g, 0, rfl, hb, blk_lt hg, fun k x hx j u hu => ?_⟩⟩
    rw [Nat.zero_add]
    have hf := flat_get hlen l k x j u hx hu
    rw [← htake, List.getElem?_take] at hf
    split at hf
    · exact blk_cell hg (by simpa using hf)
    · cases hf
theorem Own.rdn (h : Own cs sz e w base v l) (hlen : ∀ x, (cs x).length = sz) (hl : l.length ≤ 1000000000000000) : ∃ A m c, v = .slice A m c ∧ m ≤ c ∧ Rd cs sz w base A m l := by
  obtain ⟨A, c, hv, hc, hr⟩ := h.rd hlen hl
  exact ⟨A, _, c, hv, hc, hr⟩
theorem Own.keep (h : Own cs sz e w base v l) (hs : ∀ b, base ≤ b → b < w.heap.size → v.ownBlock = some b → w'.heap[b]? = w.heap[b]?) : Own cs sz e w' base v l := by
  refine ⟨h.1, ?_⟩
  rcases h.2 with hn | ⟨g, cap, cur, rfl, hb, hg, rest⟩
  · exact .inl hn
  · exact .inr ⟨g, cap, cur, rfl, hb, by rw [hs g hb (blk_lt hg) rfl]; exact hg, rest⟩
theorem Own.below (h : Own cs sz e w base v l) (hb : Below w.heap.size w w') : Own cs sz e w' base v l := h.keep fun b _ hlt _ => hb.block b hlt
theorem Own.alloc (h : Own cs sz e w base v l) (o : Obj) : Own cs sz e (w.alloc o) base v l := h.below ((Below.refl _ _).alloc (Nat.le_refl _) o)
theorem Own.drew (h : Own cs sz e w base v l) : Own cs sz e w.drew base v l := h
theorem Own.grown {R : Nat} (h : Own cs sz e w base v l) (hb : w.grownBy w' (some R)) (hR : R < base) : Own cs sz e w' base v l :=
  h.keep fun b hlo hlt _ => hb.block b hlt (by intro e; injection e with e; omega)
theorem Own.grown' {row : Option Nat} (h : Own cs sz e w base v l) (hb : w.grownBy w' row) (hR : v.ownBlock = none ∨ v.ownBlock ≠ row) : Own cs sz e w' base v l := World.ownsRow.kept h hb hR
theorem Own.nil (w : World) (base : Nat) : Own cs sz e w base (.slice none 0 0) ([] : List α) := World.ownsRow_nil w base e sz
theorem Own.low {base' : Nat} (h : Own cs sz e w base v l) (hb : base' ≤ base) : Own cs sz e w base' v l := by
  refine ⟨h.1, ?_⟩
  rcases h.2 with hn | ⟨g, cap, cur, rfl, hbg, rest⟩
  · exact .inl hn
  · exact .inr ⟨g, cap, cur, rfl, by omega, rest⟩
/-- A literal. -/
theorem Own.lit (w : World) (xs : Array Value) (l : List α) (hl : l.length ≤ 1000000000000000) (hlen : ∀ x, (cs x).length = sz) (h : xs.toList = l.flatMap cs) :
    Own cs sz e (w.alloc (.cells xs e)) w.heap.size (.slice (some ⟨w.heap.size, 0, none⟩) l.length l.length) l := by
  have hs : xs.size = l.length * sz := by rw [← flat_len hlen l, ← h]; simp
  have := World.ownsRow_lit (e := e) (size := sz) w xs l.length (Nat.le_refl w.heap.size) (by simp only [maxLen]; omega) hs
  rw [h] at this
  exact this
theorem Own.empty (w : World) (hlen : ∀ x, (cs x).length = sz) : Own cs sz e (w.alloc (.cells #[] e)) w.heap.size (.slice (some ⟨w.heap.size, 0, none⟩) 0 0) ([] : List α) := Own.lit w #[] [] (by simp) hlen rfl
theorem Own.blk (h : Own cs sz e w base v l) : ∀ k, v.ownBlock = some k → base ≤ k ∧ k < w.heap.size := World.ownsRow.lt h
end

theorem Rd_one {α : Type} {cs : α → List Value} {sz : Nat} (w : World) (xs : Array Value) (t : TypeId) (x : α) (h : xs.toList = cs x) : Rd cs sz (w.alloc (.cells xs t)) w.heap.size (some ⟨w.heap.size, 0, none⟩) 1 [x] :=
  ⟨rfl, by omega, fun _ => ⟨w.heap.size, 0, rfl, Nat.le_refl _, by simp, fun k y hy j u hu => by
    match k, hy with
    | 0, hy =>
      simp only [List.getElem?_cons_zero, Option.some.injEq] at hy
      subst hy
      rw [← h] at hu
      simp only [Nat.zero_mul, Nat.zero_add]
      exact blk_cell (heap_alloc_new w _) (by simpa using hu)
    | k + 1, hy => simp at hy⟩⟩

/-- What the call keeps, behind an append onto a row of its own. -/
theorem below_own {α : Type} {cs : α → List Value} {sz : Nat} {e : TypeId} {w0 w w' : World} {B base : Nat} {v : Value} {l : List α} (h : Below B w0 w) (ho : Own cs sz e w base v l) (hg : w.grownBy w' v.ownBlock) (hB : B ≤ base) (hs : B ≤ w.heap.size) : Below B w0 w' :=
  h.grown hg hs fun k hk => Nat.le_trans hB (ho.blk k hk).1

theorem run_append_of_nil {P : Program} {w : World} (base : Nat) (t ty e : TypeId) (i : TypeInfo) (size : Nat) (ht : P.underlying t = some (.slice e)) (hi : P.info? e = some i)
    (v : Value) (n : Nat) (xs : List Value) (hown : w.ownsRow base e size v n xs) (c : Nat) : (Builtin.append_ #[t, t] ty #[v, .slice none 0 c]).run P w = .ok v w := by
  rcases hown.2 with ⟨rfl, rfl⟩ | ⟨g, cap, cur, rfl, _, _, hnc, _⟩
  · simp [Builtin.append_, run_underlying ht, sizeOf, typeInfo, hi, Builtin.lenOf, Builtin.firstCells]
  · simp [Builtin.append_, run_underlying ht, sizeOf, typeInfo, hi, Builtin.lenOf, Builtin.firstCells, hnc, storeCells]

section
variable {α : Type} {P : Program} {cs : α → List Value} {sz : Nat} {t e : TypeId} {bytes : Nat}

theorem run_append_rd (E : ElemT P cs sz t e bytes) (w : World) (ty : TypeId) {base : Nat} {v : Value} {l : List α} (hown : Own cs sz e w base v l)
    {lo : Nat} {A : Option Addr} {m : Nat} (c : Nat) {r : List α} (hr : Rd cs sz w lo A m r) (hb : (l.length + m) * bytes ≤ 140737488355328) (hbase : base ≤ w.heap.size) :
    ∃ v' w', (Builtin.append_ #[t, t] ty #[v, .slice A m c]).run P w = .ok v' w' ∧ Own cs sz e w' base v' (l ++ r) ∧ w.grownBy w' v.ownBlock ∧ (v'.ownBlock = v.ownBlock ∨ v'.ownBlock = some w.heap.size) := by
  obtain ⟨i, z, hi, hz, hsz, hby, hzs⟩ := E.inf
  have hpb := E.posB
  have hsum : l.length + m ≤ 140737488355328 := Nat.le_trans (Nat.le_mul_of_pos_right _ hpb) hb
  have h63 : l.length + m ≤ maxLen := by simp only [maxLen]; omega
  rcases A with _ | ad
  · have hm : m = 0 := by
      rcases Nat.eq_zero_or_pos m with h0 | h0
      · exact h0
      · obtain ⟨b, o, h, _⟩ := hr.2.2 h0
        cases h
    subst hm
    have hn : r = [] := List.eq_nil_of_length_eq_zero hr.1
    subst hn
    exact ⟨v, w, run_append_of_nil base t ty e i sz E.und hi v _ _ hown c, by simpa using hown, World.grownBy.refl w _, .inl rfl⟩
  · have hcells : ∀ j u, (r.flatMap cs)[j]? = some u → w.cell? (ad.add j) = some u := by
      intro j u hu
      rcases Nat.eq_zero_or_pos m with h0 | h0
      · have hn : r = [] := List.eq_nil_of_length_eq_zero (by rw [hr.1, h0])
        subst hn
        simp at hu
      · obtain ⟨b, o, h, _, _, hc⟩ := hr.2.2 h0
        injection h with h
        subst h
        have hjl : j < r.length * sz := by rw [← flat_len E.len r]; exact (List.getElem?_eq_some_iff.1 hu).1
        have hk : j / sz < r.length := Nat.div_lt_of_lt_mul (by rw [Nat.mul_comm]; exact hjl)
        have hx : r[j / sz]? = some r[j / sz] := List.getElem?_eq_getElem hk
        have hjm : j % sz < (cs r[j / sz]).length := by rw [E.len]; exact Nat.mod_lt _ E.pos
        have hcu : (cs r[j / sz])[j % sz]? = some ((cs r[j / sz])[j % sz]) := List.getElem?_eq_getElem hjm
        have h1 := flat_get E.len r _ _ _ _ hx hcu
        have hdm : j / sz * sz + j % sz = j := Nat.div_add_mod' j sz
        rw [hdm, hu] at h1
        injection h1 with h1
        have h2 := hc _ _ hx _ _ hcu
        rw [Nat.add_assoc, hdm, ← h1] at h2
        rw [Addr.add_lit]
        exact h2
    obtain ⟨v', w', hrun, h2, h3, _, h5⟩ := run_append_own_at (P := P) w base t ty e i z sz bytes E.und hi hz hsz hby hzs E.pos v _ _ hown ad m c (r.flatMap cs)
      (by rw [flat_len E.len, hr.1]) hcells (flat_mem E.one r) h63 hb hbase
    refine ⟨v', w', hrun, ?_, h3, h5⟩
    unfold Own
    rw [List.length_append, hr.1, List.flatMap_append]
    exact h2

theorem wp_append_rd (E : ElemT P cs sz t e bytes) (w : World) {o : Oper} {a : Act} {K : Act → World → Prop} {Q : Exit → Act → World → Prop} (s x : Operand)
    (ho : o.op = .call { callee := .builtin .append, args := #[s, x], argTypes := #[t, t] })
    {base : Nat} {v : Value} {l : List α} (hs : a.eval s = v) (hown : Own cs sz e w base v l)
    {lo : Nat} {A : Option Addr} {m c : Nat} {r : List α} (hx : a.eval x = .slice A m c) (hr : Rd cs sz w lo A m r) (hb : (l.length + m) * bytes ≤ 140737488355328) (hbase : base ≤ w.heap.size)
    (h : ∀ v' w', Own cs sz e w' base v' (l ++ r) → w.grownBy w' v.ownBlock → (v'.ownBlock = v.ownBlock ∨ v'.ownBlock = some w.heap.size) → K (a.put o.dst v') w') : o.wp P a w K Q := by
  obtain ⟨v', w', hrun, h2, h3, h4⟩ := run_append_rd E w o.type hown c hr hb hbase
  unfold Oper.wp execOp
  simp only [ho, resolve, invoke, builtin, Sem.run_bind, Sem.run_pure, Result.andThen_ok, List.map_toArray, List.map_cons, List.map_nil, hs, hx, hrun]
  exact h v' w' h2 h3 h4

theorem wpList_append_rd (E : ElemT P cs sz t e bytes) (w : World) {ops : Array Oper} {rest : List Oper} {o : Oper} {a : Act} {Q : Exit → Act → World → Prop} (hgd : o.guard = none) (s x : Operand)
    (ho : o.op = .call { callee := .builtin .append, args := #[s, x], argTypes := #[t, t] })
    {base : Nat} {v : Value} {l : List α} (hs : a.eval s = v) (hown : Own cs sz e w base v l)
    {lo : Nat} {A : Option Addr} {m c : Nat} {r : List α} (hx : a.eval x = .slice A m c) (hr : Rd cs sz w lo A m r) (hb : (l.length + m) * bytes ≤ 140737488355328) (hbase : base ≤ w.heap.size)
    (h : ∀ v' w', Own cs sz e w' base v' (l ++ r) → w.grownBy w' v.ownBlock → (v'.ownBlock = v.ownBlock ∨ v'.ownBlock = some w.heap.size) → wpList P ops Q rest (a.put o.dst v') w') : wpList P ops Q (o :: rest) a w :=
  wpList_plain hgd fun _ hK => wp_append_rd E w s x ho hs hown hx hr hb hbase fun v' w' h2 h3 h4 => hK _ _ (h v' w' h2 h3 h4)
end
end Go.Proofs.Ytmnlelpfbnagpaa
