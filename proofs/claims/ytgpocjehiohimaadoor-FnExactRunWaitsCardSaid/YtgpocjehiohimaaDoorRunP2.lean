/- What the laws on runs say, in plain words. -/
import Derived.Test.YtgpocjehiohimaaDoorRunP
namespace Go.Proofs.YtgpocjehiohimaaDoor
open Go.RowKit

theorem len_filter_ne (z : Int) : ∀ l : List Int, l.Nodup → l.length ≤ (l.filter (fun x => decide (x ≠ z))).length + 1
  | [], _ => by simp
  | x :: r, h => by
    obtain ⟨h1, h2⟩ := List.nodup_cons.1 h
    rw [List.filter_cons]
    by_cases e : x = z
    · rw [if_neg (by simp [e])]
      have : r.filter (fun x => decide (x ≠ z)) = r := List.filter_eq_self.2 fun y hy => decide_eq_true fun e' => h1 (by rw [e, ← e']; exact hy)
      rw [this, List.length_cons]
      exact Nat.le_refl _
    · rw [if_pos (by simp [e]), List.length_cons, List.length_cons]
      have := len_filter_ne z r h2
      omega
theorem nodup_len : ∀ (n : Nat) (l : List Int), l.Nodup → (∀ z ∈ l, 0 ≤ z ∧ z < n) → l.length ≤ n
  | 0, l, _, h => by
    cases l with
    | nil => exact Nat.le_refl _
    | cons x r => have := h x (List.mem_cons_self ..); omega
  | n + 1, l, hn, h => by
    have h1 := len_filter_ne (n : Int) l hn
    have h2 := nodup_len n (l.filter (fun x => decide (x ≠ (n : Int)))) (hn.sublist List.filter_sublist) fun z hz => by
      obtain ⟨a, b⟩ := List.mem_filter.1 hz
      have := h z a
      have := of_decide_eq_true b
      omega
    omega
theorem nodup_full {n : Nat} {l : List Int} (hn : l.Nodup) (h : ∀ z ∈ l, 0 ≤ z ∧ z < n) (hl : l.length = n) {i : Nat} (hi : i < n) : (i : Int) ∈ l :=
  Classical.byContradiction fun hc => by
    have := nodup_len n ((i : Int) :: l) (List.nodup_cons.2 ⟨hc, hn⟩) fun z hz => by
      rcases List.mem_cons.1 hz with e | hz
      · omega
      · exact h z hz
    rw [List.length_cons] at this
    omega
section
variable {t : List Nd} {sc : List (List Dd)} {m : Mc}
theorem Inv.finr (h : Inv t sc m) {z : Int} (hz : z ∈ m.fin) : 0 ≤ z ∧ z < sc.length := by
  obtain ⟨i, e, hi, _⟩ := (h.fin z).1 hz
  omega
theorem Inv.finl (h : Inv t sc m) : m.fin.length ≤ sc.length := nodup_len _ _ h.nodup fun _ hz => h.finr hz
/-- All scripts are done. -/
theorem Inv.all (h : Inv t sc m) (hl : m.fin.length = sc.length) {i : Nat} (hi : i < sc.length) : plc m i = (scr sc i).length := by
  obtain ⟨j, e, _, h2⟩ := (h.fin _).1 (nodup_full h.nodup (fun _ hz => h.finr hz) hl hi)
  obtain rfl : i = j := by omega
  exact h2
def allF (n : Int) : List (List Dd) → Int
  | [] => 0
  | s :: r => sumN n s + allF n r
theorem allF_app (n : Int) : ∀ a b : List (List Dd), allF n (a ++ b) = allF n a + allF n b
  | [], b => by simp [allF]
  | s :: a, b => by rw [List.cons_append, allF, allF, allF_app n a b]; omega
theorem totF_all (n : Int) : ∀ (sc : List (List Dd)) (pl : List Int), pl.length = sc.length → (∀ (i : Nat) (s : List Dd) (p : Int), sc[i]? = some s → pl[i]? = some p → p = s.length) → totF n sc pl = allF n sc
  | [], _, _, _ => by cases ‹List Int› <;> rfl
  | s :: r, [], h, _ => by simp at h
  | s :: r, p :: q, h, ha => by
    rw [totF, allF, totF_all n r q (by simpa using h) fun i s' p' h1 h2 => ha (i + 1) s' p' (by simpa using h1) (by simpa using h2)]
    rw [ha 0 s p rfl rfl, Int.toNat_natCast, List.take_length]
theorem Inv.vals (h : Inv t sc m) (hl : m.fin.length = sc.length) {n : Nat} (hn : n < t.length) : m.vals[n]? = some (((t.map Nd.val)[n]?.getD 0) + allF n sc) := by
  rw [h.val n hn, totF_all n sc m.place h.plen]
  intro i s p hs hp
  have hi := (List.getElem?_eq_some_iff.1 hs).1
  have h1 := h.all hl hi
  rw [scr_get hi] at hs; injection hs with hs
  rw [plc_get (by rw [h.plen]; exact hi)] at hp; injection hp with hp
  rw [← hp, ← hs]; exact h1
theorem Inv.free (h : Inv t sc m) (h0 : ∀ a n, heldF m.tab a n = 0) : m.tab = [] := by
  cases e : m.tab with
  | nil => rfl
  | cons x r =>
    have hx : x ∈ m.tab := by rw [e]; exact List.mem_cons_self ..
    have h1 := heldF_mem h.tab hx
    rw [h0] at h1
    have := (h.tab.ask hx).2.2
    omega
theorem Inv.noheld (h : Inv t sc m) (hl : m.fin.length = sc.length) : m.tab = [] := h.free fun a n => Classical.byContradiction fun hc => by
  obtain ⟨i, _, hi, _, h3⟩ := h.held a n hc
  have := h.all hl hi
  omega
theorem Inv.donefree (h : Inv t sc m) {z : Int} (hz : z ∈ m.fin) {x : Lk} (hx : x ∈ m.tab) : x.who ≠ z := fun e => by
  have h1 := heldF_mem h.tab hx
  have h2 := (h.tab.ask hx).2.2
  obtain ⟨i, e1, hi, _, h3⟩ := h.held x.who x.node (by omega)
  obtain ⟨j, e2, _, h4⟩ := (h.fin z).1 hz
  obtain rfl : i = j := by omega
  omega
/-- Who is done picks nothing. -/
theorem nextD_done {who : Nat} (h : plc m who = (scr sc who).length) : nextD sc m who = none := by
  unfold nextD
  rw [h]
  exact List.getElem?_eq_none (by omega)
theorem nextD_more (h : Inv t sc m) {who : Nat} (hw : who < sc.length) (hn : plc m who ≠ (scr sc who).length) : ∃ d, nextD sc m who = some d := by
  have := h.prange who hw
  exact ⟨_, List.getElem?_eq_getElem (by omega)⟩
theorem Inv.picked (h : Inv t sc m) {z : Int} (hz : z ∈ m.fin) : pickM t sc m z.toNat = m := by
  obtain ⟨i, rfl, _, h2⟩ := (h.fin z).1 hz
  exact pickM_none (nextD_done h2)
/-- What a pick does to the values and to what is done. -/
theorem pickM_cases (hvt : VT t) (hsc : VSc t sc) (h : Inv t sc m) {who : Nat} (hw : who < sc.length) : pickM t sc m who = m ∨
    ∃ d, d ∈ scr sc who ∧ OkDo t d ∧ (pickM t sc m who).vals = m.vals.set d.node.toNat ((m.vals[d.node.toNat]?.getD 0) + d.add) ∧ ((pickM t sc m who).fin = m.fin ∨ (pickM t sc m who).fin = m.fin ++ [(who : Int)]) ∧
      ∀ i, plc (pickM t sc m who) i = if i = who then plc m who + 1 else plc m i := by
  cases hd : nextD sc m who with
  | none => exact .inl (pickM_none hd)
  | some d =>
    cases hb : takeL m.tab (lkF t who d.node (modeF d)) with
    | none => exact .inl (pickM_block hd hb)
    | some l =>
      rw [pickM_step hd hb]
      refine .inr ⟨d, List.mem_of_getElem? hd, (do_ok hvt hsc hw hd).2.2, ?_⟩
      have hpl : ∀ i, plc (stepM m who d l) i = if i = who then plc m who + 1 else plc m i := fun i => by
        unfold stepM plc
        exact set_get (by rw [h.plen]; exact hw)
      unfold endM
      split
      · exact ⟨rfl, .inr rfl, hpl⟩
      · exact ⟨rfl, .inl rfl, hpl⟩
/-- Values stay small. -/
def Bnd (m : Mc) (K : Int) : Prop := ∀ v ∈ m.vals, -K ≤ v ∧ v ≤ K
theorem Bnd.start (hvt : VT t) : Bnd (startM t sc) 1000 := fun v hv => by
  obtain ⟨x, hx, rfl⟩ := List.mem_map.1 hv
  obtain ⟨i, hi⟩ := List.mem_iff_getElem?.1 hx
  have := hvt.2.2 i x (List.getElem?_eq_some_iff.1 hi).1 hi
  exact ⟨this.1, this.2.1⟩
theorem Bnd.pick {K : Int} (hvt : VT t) (hsc : VSc t sc) (h : Inv t sc m) (hb : Bnd m K) {who : Nat} (hw : who < sc.length) : Bnd (pickM t sc m who) (K + 50) := by
  rcases pickM_cases hvt hsc h hw with e | ⟨d, _, hok, hv, _⟩
  · rw [e]; intro v hv; have := hb v hv; omega
  · intro v hvm
    rw [hv] at hvm
    rcases List.mem_or_eq_of_mem_set hvm with hvm | e
    · have := hb v hvm; omega
    · have hl : d.node.toNat < m.vals.length := by rw [h.vlen]; have := hok.1; omega
      have := hb _ (List.getElem_mem hl)
      rw [List.getElem?_eq_getElem hl] at e
      simp only [Option.getD_some] at e
      have := hok.2
      omega
theorem Bnd.run (hvt : VT t) (hsc : VSc t sc) : ∀ (picks : List Int) (m : Mc) (K : Int), Inv t sc m → Bnd m K → (∀ p ∈ picks, 0 ≤ p ∧ p < sc.length) → Bnd (runL t sc picks m) (K + 50 * picks.length)
  | [], m, K, _, hb, _ => fun v hv => by have := hb v hv; simp; omega
  | p :: r, m, K, h, hb, hp => by
    have h0 := hp p (List.mem_cons_self ..)
    have := Bnd.run hvt hsc r _ (K + 50) (h.pick hvt hsc (who := p.toNat) (by omega)) (hb.pick hvt hsc h (by omega)) fun q hq => hp q (List.mem_cons_of_mem _ hq)
    intro v hv
    have := this v hv
    rw [List.length_cons]
    omega
theorem VR.bnd {picks : List Int} (h : VR t sc picks) : Bnd (runM t sc picks) 1800 := by
  have := Bnd.run h.1 h.2.1 picks _ _ (Inv.start h.2.1) (Bnd.start h.1) h.2.2.2
  intro v hv
  have := this v hv
  have := h.2.2.1
  omega
/-- How often a transaction was picked. -/
def cntF (z : Int) : List Int → Nat
  | [] => 0
  | p :: r => (if p = z then 1 else 0) + cntF z r
theorem cntF_app (z : Int) : ∀ a b : List Int, cntF z (a ++ b) = cntF z a + cntF z b
  | [], b => by simp [cntF]
  | p :: a, b => by rw [List.cons_append, cntF, cntF, cntF_app z a b]; omega
theorem cntF_pos {z : Int} : ∀ l : List Int, 1 ≤ cntF z l → z ∈ l
  | [], h => by simp [cntF] at h
  | p :: r, h => by
    rw [cntF] at h
    by_cases e : p = z
    · rw [e]; exact List.mem_cons_self ..
    · rw [if_neg e] at h; exact List.mem_cons_of_mem _ (cntF_pos r (by omega))
theorem runL_cnt (hvt : VT t) (hsc : VSc t sc) : ∀ (picks : List Int) (m : Mc), Inv t sc m → (∀ p ∈ picks, 0 ≤ p ∧ p < sc.length) → ∀ i : Nat, plc (runL t sc picks m) i ≤ plc m i + cntF i picks
  | [], m, _, _, i => by simp [runL, cntF]
  | p :: r, m, h, hp, i => by
    have h0 := hp p (List.mem_cons_self ..)
    have ih := runL_cnt hvt hsc r _ (h.pick hvt hsc (who := p.toNat) (by omega)) (fun q hq => hp q (List.mem_cons_of_mem _ hq)) i
    rw [runL, cntF]
    have h1 : plc (pickM t sc m p.toNat) i ≤ plc m i + (if p = (i : Int) then 1 else 0 : Nat) := by
      rcases pickM_cases hvt hsc h (who := p.toNat) (by omega) with e | ⟨_, _, _, _, _, e⟩
      · rw [e]; omega
      · rw [e]
        by_cases e2 : i = p.toNat
        · rw [if_pos e2, if_pos (by omega), e2]; omega
        · rw [if_neg e2]; omega
    omega
theorem start_plc (i : Nat) : plc (startM t sc) i = 0 := by
  unfold plc startM
  simp only
  by_cases e : i < sc.length
  · rw [List.getElem?_eq_getElem (by simpa using e)]; simp
  · rw [List.getElem?_eq_none (by simpa using e)]; rfl
theorem VR.cnt {picks : List Int} (h : VR t sc picks) (i : Nat) : plc (runM t sc picks) i ≤ cntF i picks := by
  have := runL_cnt h.1 h.2.1 picks _ (Inv.start h.2.1) h.2.2.2 i
  rw [start_plc] at this
  unfold runM
  omega
/-- A transaction that is stood in the way of picks nothing. -/
theorem pick_blocked (hvt : VT t) (hsc : VSc t sc) (h : Inv t sc m) {who : Nat} (hw : who < sc.length) {d : Dd} (hd : nextD sc m who = some d) {x : Lk} (hx : x ∈ lkF t who d.node (modeF d)) {o : Int} (ho : o ∈ lbF m.tab who x.node x.mode) : pickM t sc m who = m := by
  obtain ⟨hnd, hask, _⟩ := do_ok hvt hsc hw hd
  cases hb : takeL m.tab (lkF t who d.node (modeF d)) with
  | none => exact pickM_block hd hb
  | some l =>
    have h1 := (takeL_some (who := (who : Int)) _ _ h.tab (fun y hy => ⟨lkF_who hy, lkF_ask hnd hask hy⟩) (lkF_pair hnd)).1 (by rw [hb]; simp) x hx
    have h2 := lkF_ask hnd hask hx
    rw [lkF_who hx] at h2
    rw [lbF_yes h.tab h2, h1] at ho
    cases ho
/-- Where nobody else has a lock, all goes on. -/
theorem pick_alone (hvt : VT t) (hsc : VSc t sc) (h : Inv t sc m) {who : Nat} (hw : who < sc.length) {d : Dd} (hd : nextD sc m who = some d) (ha : ∀ a n, heldF m.tab a n ≠ 0 → a = (who : Int)) :
    ∃ l, takeL m.tab (lkF t who d.node (modeF d)) = some l ∧ VTb l ∧ ∀ a n, heldF l a n ≠ 0 → a = (who : Int) := by
  obtain ⟨hnd, hask, _⟩ := do_ok hvt hsc hw hd
  have h1 := (takeL_some (who := (who : Int)) (lkF t who d.node (modeF d)) _ h.tab (fun y hy => ⟨lkF_who hy, lkF_ask hnd hask hy⟩) (lkF_pair hnd)).2 fun x hx => by
    have h2 := (lkF_ask hnd hask hx)
    refine blkF_nil_of fun a _ _ hne => ?_
    have h0 : heldF m.tab a x.node = 0 := Classical.byContradiction fun hc => hne (ha a x.node hc)
    rw [h0]
    exact togF_zero _ (joinF_isM (heldF_isM h.tab _ _) h2.isM)
  cases hb : takeL m.tab (lkF t who d.node (modeF d)) with
  | none => exact absurd hb h1
  | some l =>
    refine ⟨l, rfl, takeL_VTb _ _ _ h.tab hb, fun a n hn => ?_⟩
    rw [takeL_heldR (who := (who : Int)) _ _ _ h.tab (fun x hx => lkF_who hx) (lkF_pair hnd) hb] at hn
    by_cases e : a = (who : Int)
    · exact e
    · rw [if_neg e] at hn; exact ha a n hn
/-- One script after the other. -/
def rowF (sc : List (List Dd)) (i : Nat) : List Int := (List.range i).flatMap fun j => List.replicate (scr sc j).length (j : Int)
theorem rowF_succ (sc : List (List Dd)) (i : Nat) : rowF sc (i + 1) = rowF sc i ++ List.replicate (scr sc i).length (i : Int) := by
  unfold rowF
  rw [List.range_succ, List.flatMap_append]
  simp
theorem rowF_mem {i : Nat} (hi : i ≤ sc.length) : ∀ p ∈ rowF sc i, 0 ≤ p ∧ p < sc.length := fun p hp => by
  unfold rowF at hp
  obtain ⟨j, hj, hp⟩ := List.mem_flatMap.1 hp
  have := List.mem_range.1 hj
  have := (List.mem_replicate.1 hp).2
  omega
theorem rowF_len (hsc : VSc t sc) : ∀ i : Nat, i ≤ sc.length → (rowF sc i).length ≤ 3 * i
  | 0, _ => by simp [rowF]
  | i + 1, h => by
    rw [rowF_succ, List.length_append, List.length_replicate]
    have := rowF_len hsc i (by omega)
    have := (hsc.scr (i := i) (by omega)).1.2
    omega
def ints (i : Nat) : List Int := (List.range i).map fun (k : Nat) => (k : Int)
theorem ints_succ (i : Nat) : ints (i + 1) = ints i ++ [(i : Int)] := by unfold ints; rw [List.range_succ, List.map_append]; rfl
theorem runM_alone (hvt : VT t) (hsc : VSc t sc) : ∀ i : Nat, i ≤ sc.length → (runM t sc (rowF sc i)).fin = ints i ∧ (runM t sc (rowF sc i)).tab = [] ∧ ∀ j, i ≤ j → plc (runM t sc (rowF sc i)) j = 0
  | 0, _ => ⟨rfl, rfl, fun j _ => start_plc j⟩
  | i + 1, hi => by
    obtain ⟨h1, h2, h3⟩ := runM_alone hvt hsc i (by omega)
    have hI : ∀ k, Inv t sc (runM t sc (rowF sc i ++ List.replicate k (i : Int))) := fun k => Inv.run hvt hsc _ _ (Inv.start hsc) fun p hp => by
      rcases List.mem_append.1 hp with hp | hp
      · exact rowF_mem (by omega) p hp
      · have := (List.mem_replicate.1 hp).2; omega
    have hlen := (hsc.scr (i := i) (by omega)).1
    -- part by part
    have key : ∀ k, k < (scr sc i).length → (runM t sc (rowF sc i ++ List.replicate k (i : Int))).fin = ints i ∧ (∀ a n, heldF (runM t sc (rowF sc i ++ List.replicate k (i : Int))).tab a n ≠ 0 → a = (i : Int)) ∧
        (∀ j, i ≤ j → plc (runM t sc (rowF sc i ++ List.replicate k (i : Int))) j = if j = i then (k : Int) else 0) := by
      intro k
      induction k with
      | zero =>
        intro _
        rw [List.replicate_zero, List.append_nil]
        refine ⟨h1, fun a n hn => ?_, fun j hj => ?_⟩
        · rw [h2] at hn; exact absurd rfl hn
        · rw [h3 j hj]; split <;> rfl
      | succ k ih =>
        intro hk
        obtain ⟨k1, k2, k3⟩ := ih (by omega)
        rw [List.replicate_succ', ← List.append_assoc, runM_one, Int.toNat_natCast]
        generalize hM : runM t sc (rowF sc i ++ List.replicate k (i : Int)) = M at *
        have hInv : Inv t sc M := hM ▸ hI k
        have hpi : plc M i = k := by rw [k3 i (Nat.le_refl _), if_pos rfl]
        obtain ⟨d, hd⟩ := nextD_more hInv (who := i) (by omega) (by omega)
        obtain ⟨l, hl, _, hal⟩ := pick_alone hvt hsc hInv (by omega) hd k2
        rw [pickM_step hd hl]
        have hpl : ∀ j, plc (stepM M i d l) j = if j = i then plc M i + 1 else plc M j := fun j => by
          unfold stepM plc
          exact set_get (by rw [hInv.plen]; omega)
        unfold endM
        rw [hpl, if_pos rfl, if_neg (by omega)]
        refine ⟨k1, hal, fun j hj => ?_⟩
        rw [hpl]
        split
        · rw [hpi]; omega
        · rename_i e; rw [k3 j hj, if_neg e]
    obtain ⟨k1, k2, k3⟩ := key ((scr sc i).length - 1) (by omega)
    rw [rowF_succ, show (scr sc i).length = ((scr sc i).length - 1) + 1 by omega, List.replicate_succ', ← List.append_assoc, runM_one, Int.toNat_natCast]
    generalize hM : runM t sc (rowF sc i ++ List.replicate ((scr sc i).length - 1) (i : Int)) = M at *
    have hInv : Inv t sc M := hM ▸ hI _
    have hpi : plc M i = ((scr sc i).length - 1 : Nat) := by rw [k3 i (Nat.le_refl _), if_pos rfl]
    have hInv2 := hInv.pick hvt hsc (who := i) (by omega)
    obtain ⟨d, hd⟩ := nextD_more hInv (who := i) (by omega) (by omega)
    obtain ⟨l, hl, hvl, hal⟩ := pick_alone hvt hsc hInv (by omega) hd k2
    rw [pickM_step hd hl] at hInv2 ⊢
    have hpl : ∀ j, plc (stepM M i d l) j = if j = i then plc M i + 1 else plc M j := fun j => by
      unfold stepM plc
      exact set_get (by rw [hInv.plen]; omega)
    unfold endM at hInv2 ⊢
    rw [hpl, if_pos rfl, if_pos (by omega)] at hInv2 ⊢
    refine ⟨?_, ?_, fun j hj => ?_⟩
    · show M.fin ++ [(i : Int)] = _
      rw [k1, ints_succ]
    · refine hInv2.free fun a n => ?_
      show heldF (freeF l i) a n = 0
      rw [freeF_held hvl]
      split
      · rfl
      · rename_i e
        exact Classical.byContradiction fun hc => e (hal a n hc)
    · show plc (stepM M i d l) j = 0
      rw [hpl, if_neg (by omega), k3 j (by omega), if_neg (by omega)]
theorem VR.row (hvt : VT t) (hsc : VSc t sc) : VR t sc (rowF sc sc.length) := ⟨hvt, hsc, by have := rowF_len hsc sc.length (Nat.le_refl _); have := hsc.1; omega, rowF_mem (Nat.le_refl _)⟩
/-- What has another value than at first is locked for writing, as long as nobody is done. -/
theorem sumN_zero {n : Int} : ∀ l : List Dd, (∀ d ∈ l, d.node = n → d.add = 0) → sumN n l = 0
  | [], _ => rfl
  | d :: r, h => by
    rw [sumN, sumN_zero r fun d hd => h d (List.mem_cons_of_mem _ hd)]
    by_cases e : d.node = n
    · rw [if_pos e, h d (List.mem_cons_self ..) e]; rfl
    · rw [if_neg e]; rfl
theorem totF_zero' {n : Int} : ∀ (sc : List (List Dd)) (pl : List Int), (∀ (i : Nat) (s : List Dd) (p : Int), sc[i]? = some s → pl[i]? = some p → ∀ d ∈ s.take p.toNat, d.node = n → d.add = 0) → totF n sc pl = 0
  | [], _, _ => by cases ‹List Int› <;> rfl
  | s :: r, [], _ => rfl
  | s :: r, p :: q, h => by
    rw [totF, sumN_zero _ (h 0 s p rfl rfl), totF_zero' r q fun i s' p' h1 h2 => h (i + 1) s' p' (by simpa using h1) (by simpa using h2)]
    rfl
theorem Inv.dirty (h : Inv t sc m) (hf : m.fin = []) (hsc : VSc t sc) {n : Nat} (hn : n < t.length) : m.vals[n]? = (t.map Nd.val)[n]? ∨ ∃ i : Nat, i < sc.length ∧ i < 4 ∧ heldF m.tab i n = 5 := by
  by_cases hz : ∀ (i : Nat) (s : List Dd) (p : Int), sc[i]? = some s → m.place[i]? = some p → ∀ d ∈ s.take p.toNat, d.node = (n : Int) → d.add = 0
  · left
    rw [h.val n hn, totF_zero' sc m.place hz, Int.add_zero, List.getElem?_map, List.getElem?_eq_getElem hn]
    rfl
  · right
    have : ∃ (i : Nat) (s : List Dd) (p : Int), sc[i]? = some s ∧ m.place[i]? = some p ∧ ∃ d ∈ s.take p.toNat, d.node = (n : Int) ∧ d.add ≠ 0 := by
      refine Classical.byContradiction fun hc => hz fun i s p hs hp d hd hdn => Classical.byContradiction fun ha => hc ⟨i, s, p, hs, hp, d, hd, hdn, ha⟩
    obtain ⟨i, s, p, hs, hp, d, hd, hdn, ha⟩ := this
    have hi := (List.getElem?_eq_some_iff.1 hs).1
    rw [scr_get hi] at hs; injection hs with hs
    rw [plc_get (by rw [h.plen]; exact hi)] at hp; injection hp with hp
    subst hs hp
    obtain ⟨k, hk⟩ := List.mem_iff_getElem?.1 hd
    rw [List.getElem?_take] at hk
    have hpr := h.prange i hi
    by_cases hkp : k < (plc m i).toNat
    · rw [if_pos hkp] at hk
      have hne : plc m i ≠ (scr sc i).length := fun e => by
        have := (h.fin i).2 ⟨i, rfl, hi, e⟩
        rw [hf] at this; cases this
      have hl := h.lock i k d hi (by omega) (by omega) hk
      rw [hdn, show modeF d = 5 by unfold modeF; rw [if_neg ha], str5 (heldF_isM h.tab _ _)] at hl
      exact ⟨i, hi, by have := hsc.1; omega, of_decide_eq_true hl⟩
    · rw [if_neg hkp] at hk; cases hk
end
end Go.Proofs.YtgpocjehiohimaaDoor
