/- Plain laws on grains. -/
import Derived.Test.YtgpocjehiohimaaDoorTabL
import Derived.Test.YtgpocjehiohimaaDoorGrainP
namespace Go.Proofs.YtgpocjehiohimaaDoor

theorem pathL_mem {t : List Nd} {a b : Int} : b ∈ pathL t a ↔ b ∈ upI t a := by unfold pathL; simp
theorem pathL_nodup {t : List Nd} {a : Int} (h : IsNd t a) : (pathL t a).Pairwise (· < ·) := by
  unfold pathL
  rw [List.pairwise_reverse]
  exact upI_desc h.1.desc h.2.2
theorem lkF_who {t : List Nd} {who node mode : Int} {x : Lk} (hx : x ∈ lkF t who node mode) : x.who = who := by
  unfold lkF at hx
  rcases List.mem_append.1 hx with hx | hx
  · obtain ⟨a, _, rfl⟩ := List.mem_map.1 hx; rfl
  · simp only [List.mem_cons, List.not_mem_nil, or_false] at hx; subst hx; rfl
theorem lkF_nodes {t : List Nd} {who node mode : Int} (h : IsNd t node) : (lkF t who node mode).map (·.node) = pathL t node := by
  unfold lkF
  rw [List.map_append, List.map_map]
  have : ((fun x : Lk => x.node) ∘ fun a => (⟨who, a, needF mode⟩ : Lk)) = id := rfl
  rw [this, List.map_id]
  exact h.snoc.symm
theorem IsNd.le11 {t : List Nd} {a : Int} (h : IsNd t a) : 0 ≤ a ∧ a ≤ 11 := by
  have := h.1.2.1
  have := h.2.2
  exact ⟨h.2.1, by omega⟩
theorem lkF_ask {t : List Nd} {who node mode : Int} (h : IsNd t node) (ha : OkAsk who node mode) {x : Lk} (hx : x ∈ lkF t who node mode) : OkAsk x.who x.node x.mode := by
  have hw := lkF_who hx
  have hn : x.node ∈ pathL t node := by rw [← lkF_nodes (who := who) (mode := mode) h]; exact List.mem_map_of_mem hx
  have hnd := (h.mem (pathL_mem.1 hn)).le11
  rw [hw]
  refine ⟨ha.1, hnd, ?_⟩
  unfold lkF at hx
  rcases List.mem_append.1 hx with hx | hx
  · obtain ⟨a, _, rfl⟩ := List.mem_map.1 hx
    exact ⟨needF_pos ha.isM ha.2.2.1, (needF_isM mode).2⟩
  · simp only [List.mem_cons, List.not_mem_nil, or_false] at hx; subst hx; exact ha.2.2
theorem lkF_pair {t : List Nd} {who node mode : Int} (h : IsNd t node) : (lkF t who node mode).Pairwise (fun x y => x.node ≠ y.node) := by
  have := pathL_nodup h
  rw [← lkF_nodes (who := who) (mode := mode) h, List.pairwise_map] at this
  exact this.imp fun h => by omega
theorem take_lkF {t : List Nd} {who node mode : Int} (h : IsNd t node) (ha : OkAsk who node mode) : takeAllF [] (lkF t who node mode) = some (lkF t who node mode) := by
  rw [takeAllF_yes' VTb_nil, takeL_apart (who := who) _ [] VTb_nil (by simp) (fun x hx => ⟨lkF_who hx, lkF_ask h ha hx⟩) (by simp) (lkF_pair h)]
  rfl

theorem heldF_map {who : Int} {m : Int} (l : List Int) (rest : List Lk) (a : Int) : heldF (l.map (fun a => (⟨who, a, m⟩ : Lk)) ++ rest) who a = if a ∈ l then m else heldF rest who a := by
  induction l with
  | nil => simp
  | cons x r ih =>
    rw [List.map_cons, List.cons_append, heldF]
    simp only [true_and]
    by_cases e : x = a
    · subst e; simp
    · rw [if_neg e, ih]
      have : (a ∈ x :: r) = (a ∈ r) := by
        apply propext
        rw [List.mem_cons]
        exact ⟨fun h => h.resolve_left (fun h => e h.symm), Or.inr⟩
      simp only [this]

/-- What a transaction holds by the locks for a lock. -/
theorem lkF_held {t : List Nd} {who node mode : Int} (h : IsNd t node) (a : Int) : heldF (lkF t who node mode) who a = if a = node then mode else if a ∈ upI t node then needF mode else 0 := by
  have hs := h.snoc
  have hp := pathL_nodup h
  unfold lkF
  rw [heldF_map]
  generalize (pathL t node).take ((pathL t node).length - 1) = P at *
  rw [hs] at hp
  have hPn : node ∉ P := fun hm => by
    have := (List.pairwise_append.1 hp).2.2 node hm node List.mem_cons_self
    omega
  have hiff : a ∈ upI t node ↔ a ∈ P ∨ a = node := by
    rw [← pathL_mem, hs, List.mem_append]
    simp
  by_cases e : a = node
  · subst e
    rw [if_neg hPn, if_pos rfl, heldF, if_pos ⟨rfl, rfl⟩]
  · rw [if_neg e]
    by_cases hm : a ∈ P
    · rw [if_pos hm, if_pos (hiff.2 (Or.inl hm))]
    · rw [if_neg hm, if_neg (fun h => (hiff.1 h).elim hm e), heldF, if_neg (fun h => e h.2.symm)]
      rfl
theorem par_on {t : List Nd} {node : Int} (h : IsNd t node) {k : Nat} {x : Nd} (hx : t[k]? = some x) (hk : 1 ≤ k) (hm : (k : Int) ∈ upI t node) : x.par ∈ upI t node ∧ x.par ≠ node := by
  have hp := h.1.parp hx hk
  have hle := upI_lt h.1.desc h.2.2 hm
  have hs := upI_step h.1.desc hx
  obtain ⟨j, e⟩ := Int.eq_ofNat_of_zero_le hp.1
  have hj : (j : Int) ∈ upI t (k : Int) := by
    rw [hs, e]
    exact List.mem_cons_of_mem _ (upI_self h.1.desc (by have := (List.getElem?_eq_some_iff.1 hx).1; omega))
  rw [e]
  exact ⟨upI_sub h.1.desc h.2.2 hm hj, by omega⟩
theorem lkF_fine {t : List Nd} {who node mode : Int} (h : IsNd t node) (hm : IsM mode) : Fine t (lkF t who node mode) who := by
  intro k x hk hx
  rw [lkF_held h, lkF_held h]
  by_cases hkm : (k : Int) ∈ upI t node
  · obtain ⟨hp, hne⟩ := par_on h hx hk hkm
    rw [if_neg hne, if_pos hp]
    by_cases e : (k : Int) = node
    · rw [if_pos e]; exact strF_refl (needF_isM _)
    · rw [if_neg e, if_pos hkm]; exact (needF_need hm).1
  · have hne : (k : Int) ≠ node := by
      rintro e
      apply hkm
      rw [← e]
      exact upI_self h.1.desc (List.getElem?_eq_some_iff.1 hx).1
    rw [if_neg hne, if_neg hkm, needF_zero]
    by_cases e1 : x.par = node
    · rw [if_pos e1]; exact strF_zero hm
    · rw [if_neg e1]
      split
      · exact strF_zero (needF_isM _)
      · exact strF_zero ⟨by omega, by omega⟩

/-- One lock of transaction 1. -/
theorem VTb_one {k m : Int} (h0 : 0 ≤ k) (h1 : k ≤ 11) (hm : 1 ≤ m ∧ m ≤ 5) : VTb [⟨1, k, m⟩] := by
  refine VTb_iff.2 ⟨by simp, fun x hx => ?_, by simp, fun x hx y hy _ hw => ?_⟩
  · simp only [List.mem_cons, List.not_mem_nil, or_false] at hx; subst hx
    exact ⟨⟨by simp, by simp⟩, ⟨h0, h1⟩, hm⟩
  · simp only [List.mem_cons, List.not_mem_nil, or_false] at hx hy
    subst hx hy
    exact absurd rfl hw
theorem heldF_one (who k m a : Int) : heldF [⟨who, k, m⟩] who a = if a = k then m else 0 := by
  rw [heldF]
  simp only [true_and]
  by_cases e : k = a
  · rw [if_pos e, if_pos e.symm]
  · rw [if_neg e, if_neg (fun h => e h.symm)]; rfl
theorem gf_one {t : List Nd} (h : VT t) {k : Nat} (hk : 1 ≤ k) (hkl : k < t.length) : gfF t [⟨1, k, 3⟩] 1 = k := by
  have hv : VTb [⟨1, (k : Int), 3⟩] := VTb_one (by omega) (by have := h.2.1; omega) ⟨by omega, by omega⟩
  rw [gfF_yes h hv]
  have hx : t[k]? = some t[k] := List.getElem?_eq_getElem hkl
  have hp := h.parp hx hk
  rcases gfL_spec [⟨1, (k : Int), 3⟩] 1 (t.drop 1) 1 with ⟨_, hh⟩ | ⟨i, x, h1, h2, h3, _⟩
  · have := hh (k - 1) _ (by rw [List.getElem?_drop, show 1 + (k - 1) = k by omega]; exact hx)
    rw [show 1 + (k - 1) = k by omega, heldF_one, heldF_one, if_pos rfl, if_neg (by omega)] at this
    exact absurd this (by decide)
  · rw [heldF_one, heldF_one] at h3
    by_cases e : 1 + i = k
    · rw [h1, e]
    · rw [if_neg (show ¬ ((1 + i : Nat) : Int) = (k : Int) by omega), needF_zero] at h3
      rw [strF_zero (by split <;> exact ⟨by omega, by omega⟩)] at h3
      cases h3
theorem gf_top {t : List Nd} (h : VT t) : gfF t [⟨1, 0, 3⟩] 1 = -1 := by
  have hv : VTb [⟨1, 0, 3⟩] := VTb_one (by omega) (by omega) ⟨by omega, by omega⟩
  rw [gfF_fine h hv]
  intro k x hk hx
  rw [heldF_one, heldF_one, if_neg (show ¬ (k : Int) = 0 by omega), needF_zero]
  exact strF_zero (by split <;> exact ⟨by omega, by omega⟩)

/-- The fault is the first one. -/
theorem gf_first {t : List Nd} {l : List Lk} {who : Int} (h : VT t) (hb : VTb l) {i : Nat} {x : Nd} (hi : 1 ≤ i) (hx : t[i]? = some x) :
    ((i : Int) = gfF t l who → strF (heldF l who x.par) (needF (heldF l who i)) = false) ∧ ((gfF t l who < 0 ∨ (i : Int) < gfF t l who) → strF (heldF l who x.par) (needF (heldF l who i)) = true) := by
  rw [gfF_yes h hb]
  have hx' : (t.drop 1)[i - 1]? = some x := by rw [List.getElem?_drop, show 1 + (i - 1) = i by omega]; exact hx
  rcases gfL_spec l who (t.drop 1) 1 with ⟨h1, hh⟩ | ⟨j, y, h1, h2, h3, h4⟩
  · rw [h1]
    refine ⟨fun e => by omega, fun _ => ?_⟩
    have := hh (i - 1) x hx'
    rwa [show 1 + (i - 1) = i by omega] at this
  · rw [h1]
    refine ⟨fun e => ?_, fun e => ?_⟩
    · have e' : i - 1 = j := by omega
      rw [e'] at hx'
      rw [h2] at hx'
      injection hx' with hx'
      subst hx'
      rwa [show 1 + j = i by omega] at h3
    · have := h4 (i - 1) x (by omega) hx'
      rwa [show 1 + (i - 1) = i by omega] at this

/-- Who holds nothing may do nothing. -/
theorem may_free {t : List Nd} {l : List Lk} {who node m : Int} (h0 : ∀ a, heldF l who a = 0) (hm : IsM m) (h1 : 1 ≤ m) : mayF m t l who node = false := by
  by_cases h : IsNd t node ∧ VTb l
  · rw [mayF_yes h.1 h.2]
    unfold onP
    rw [List.any_eq_false]
    intro a _
    rw [h0]
    have : strF 0 m = false := by unfold strF; rw [joinF_zero hm]; simp; omega
    rw [this]; simp
  · exact mayF_no h
theorem may_below {t : List Nd} {l : List Lk} {who node i m : Int} (h : mayF m t l who node = true) (hi : IsNd t i) (ha : node ∈ upI t i) : mayF m t l who i = true := by
  by_cases hc : IsNd t node ∧ VTb l
  · rw [mayF_yes hc.1 hc.2] at h
    rw [mayF_yes hi hc.2]
    unfold onP at *
    rw [List.any_eq_true] at *
    obtain ⟨a, h1, h2⟩ := h
    exact ⟨a, upI_sub hi.1.desc hi.2.2 ha h1, h2⟩
  · rw [mayF_no hc] at h; cases h
theorem may_valid {t : List Nd} {l : List Lk} {who node m : Int} (h : mayF m t l who node = true) : IsNd t node ∧ VTb l := by
  by_cases hc : IsNd t node ∧ VTb l
  · exact hc
  · rw [mayF_no hc] at h; cases h
theorem may_write_read {t : List Nd} {l : List Lk} {who node : Int} (h : mayF 5 t l who node = true) : mayF 3 t l who node = true := by
  obtain ⟨h1, h2⟩ := may_valid h
  rw [mayF_yes h1 h2] at h ⊢
  unfold onP at *
  rw [List.any_eq_true] at *
  obtain ⟨a, ha, hs⟩ := h
  refine ⟨a, ha, ?_⟩
  rw [str5 (heldF_isM h2 _ _)] at hs
  rw [str3 (heldF_isM h2 _ _)]
  simp only [decide_eq_true_eq] at *
  omega

/-- Where all locks are whole, nobody reads what another one writes. -/
theorem may_apart {t : List Nd} {l : List Lk} {node a b : Int} (hab : a ≠ b) (hr : mayF 3 t l a node = true) (hw : mayF 5 t l b node = true) (fa : Fine t l a) (fb : Fine t l b) : False := by
  obtain ⟨h1, h2⟩ := may_valid hr
  rw [mayF_yes h1 h2] at hr hw
  unfold onP at hr hw
  rw [List.any_eq_true] at hr hw
  obtain ⟨p, hp, sp⟩ := hr
  obtain ⟨q, hq, sq⟩ := hw
  have hm := heldF_isM h2
  rw [str3 (hm _ _)] at sp
  rw [str5 (hm _ _)] at sq
  simp only [decide_eq_true_eq] at sp sq
  have np := h1.mem hp
  have nq := h1.mem hq
  by_cases e : p = q
  · subst e
    have := heldF_tog h2 (node := p) hab
    rw [sq] at this
    have h3 := all6 (p := fun h => 3 ≤ h → togF h 5 = false) (by decide) _ (hm a p) sp
    rw [this] at h3; cases h3
  by_cases hpq : p < q
  · -- p is above q: b holds a lock there that lets write below
    have hup := upI_chain h1.1.desc h1.2.2 hp hq (by omega)
    obtain ⟨k, rfl⟩ := Int.eq_ofNat_of_zero_le nq.2.1
    have hs := fb.up h1.1 h2 k (by have := nq.2.2; omega) p hup e
    rw [sq] at hs
    have ht := heldF_tog h2 (node := p) hab
    have := all66 (p := fun x y => 3 ≤ x → strF y (needF 5) = true → togF x y = false) (by decide) _ _ (hm a p) (hm b p) sp hs
    rw [ht] at this; cases this
  · have hup := upI_chain h1.1.desc h1.2.2 hq hp (by omega)
    obtain ⟨k, rfl⟩ := Int.eq_ofNat_of_zero_le np.2.1
    have hs := fa.up h1.1 h2 k (by have := np.2.2; omega) q hup (fun h => e h.symm)
    have ht := heldF_tog h2 (node := q) hab
    rw [sq] at ht
    have := all66 (p := fun x y => 3 ≤ x → strF y (needF x) = true → togF y 5 = false) (by decide) _ _ (hm a k) (hm a q) sp hs
    rw [ht] at this; cases this

/-- After taking the locks for a lock one may do what the lock lets. -/
theorem take_may {t : List Nd} {l out : List Lk} {who node m : Int} (h1 : IsNd t node) (h2 : OkAsk who node m) (h : takeAllF l (lkF t who node m) = some out) : mayF m t out who node = true := by
  have hv := takeAllF_VTb h
  have hh := (takeAllF_held h).1 ⟨who, node, m⟩ (by unfold lkF; simp)
  rw [mayF_yes h1 hv]
  unfold onP
  rw [List.any_eq_true]
  obtain ⟨k, rfl⟩ := Int.eq_ofNat_of_zero_le h1.2.1
  exact ⟨_, upI_self h1.1.desc (by have := h1.2.2; omega), hh.1⟩

/-- What is held behind taking all. -/
theorem takeL_held {who : Int} : ∀ (list l out : List Lk), (∀ x ∈ list, x.who = who ∧ IsM x.mode) → list.Pairwise (fun x y => x.node ≠ y.node) → takeL l list = some out → ∀ a, heldF out who a = (match list.find? (fun x => decide (x.node = a)) with | some x => joinF (heldF l who a) x.mode | none => heldF l who a) := by
  intro list
  induction list with
  | nil => intro l out _ _ h a; simp only [takeL, Option.some.injEq] at h; subst h; rfl
  | cons x r ih =>
    intro l out hl hp h a
    rw [takeL] at h
    obtain ⟨hxw, hxm⟩ := hl x List.mem_cons_self
    split at h
    · rename_i l2 h2
      obtain ⟨_, _, _, rfl⟩ := takeF_some h2
      have := ih _ _ (fun y hy => hl y (List.mem_cons_of_mem _ hy)) (List.pairwise_cons.1 hp).2 h a
      rw [this, hxw, grantF_held _ _ _ _ hxm]
      by_cases e : x.node = a
      · have hnone : r.find? (fun y => decide (y.node = a)) = none := by
          rw [List.find?_eq_none]
          intro y hy
          have := (List.pairwise_cons.1 hp).1 y hy
          simp only [decide_eq_true_eq]
          omega
        rw [hnone, List.find?_cons_of_pos (by simpa using e)]
        simp only
        rw [if_pos ⟨trivial, e.symm⟩, e]
      · rw [List.find?_cons_of_neg (by simpa using e), if_neg (fun h => e h.2.symm)]
    · cases h
theorem find_lkF {t : List Nd} {who node mode : Int} (_ : IsNd t node) (a : Int) : (match (lkF t who node mode).find? (fun x => decide (x.node = a)) with | some x => x.mode | none => 0) = heldF (lkF t who node mode) who a := by
  have : ∀ l : List Lk, (∀ x ∈ l, x.who = who) → (match l.find? (fun x => decide (x.node = a)) with | some x => x.mode | none => 0) = heldF l who a := by
    intro l
    induction l with
    | nil => intro _; rfl
    | cons x r ih =>
      intro hl
      rw [heldF]
      by_cases e : x.node = a
      · rw [List.find?_cons_of_pos (by simpa using e), if_pos ⟨hl x List.mem_cons_self, e⟩]
      · rw [List.find?_cons_of_neg (by simpa using e), if_neg (fun h => e h.2)]
        exact ih fun y hy => hl y (List.mem_cons_of_mem _ hy)
  exact this _ fun x hx => lkF_who hx
theorem take_held {t : List Nd} {l out : List Lk} {who node m : Int} (h1 : IsNd t node) (h2 : OkAsk who node m) (h : takeAllF l (lkF t who node m) = some out) (a : Int) : heldF out who a = joinF (heldF l who a) (heldF (lkF t who node m) who a) := by
  obtain ⟨hv, ht⟩ := takeAllF_some h
  have e := takeL_held (who := who) _ _ _ (fun x hx => ⟨lkF_who hx, (lkF_ask h1 h2 hx).isM⟩) (lkF_pair h1) ht a
  have f := find_lkF (who := who) (mode := m) h1 a
  rw [e]
  cases hf : (lkF t who node m).find? (fun x => decide (x.node = a)) with
  | some x => rw [hf] at f; simp only at f ⊢; rw [f]
  | none =>
    rw [hf] at f
    simp only at f ⊢
    rw [← f, joinF_comm, joinF_zero (heldF_isM hv _ _)]
/-- Taking the locks for a lock makes no fault. -/
theorem take_fine {t : List Nd} {l out : List Lk} {who node m : Int} (h1 : IsNd t node) (h2 : OkAsk who node m) (h : takeAllF l (lkF t who node m) = some out) (hf : Fine t l who) : Fine t out who := by
  obtain ⟨hv, _⟩ := takeAllF_some h
  have hl := lkF_fine (who := who) h1 h2.isM
  have hlv : VTb (lkF t who node m) := takeAllF_VTb (take_lkF h1 h2)
  intro k x hk hx
  rw [take_held h1 h2 h, take_held h1 h2 h, needF_mono (heldF_isM hv _ _) (heldF_isM hlv _ _)]
  exact joinF_mono (heldF_isM hv _ _) (heldF_isM hlv _ _) (needF_isM _) (needF_isM _) (hf k x hk hx) (hl k x hk hx)
theorem free_fine {t : List Nd} {l : List Lk} {who : Int} (hv : VTb l) : Fine t (freeF l who) who := by
  intro k x _ _
  rw [freeF_held hv, freeF_held hv, if_pos rfl, if_pos rfl, needF_zero]
  exact strF_zero ⟨by omega, by omega⟩
end Go.Proofs.YtgpocjehiohimaaDoor
