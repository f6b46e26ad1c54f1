/- Runs of scripts, in plain words. -/
import Derived.Test.YtgpocjehiohimaaDoorTabL
import Derived.Test.YtgpocjehiohimaaDoorGrainL
namespace Go.Proofs.YtgpocjehiohimaaDoor
open Go.RowKit

theorem joinF_zeroR {a : Int} (h : IsM a) : joinF a 0 = a := by rw [joinF_comm]; exact joinF_zero h
/-- What all of a list do to a table, where all are of one transaction and on different nodes. -/
theorem takeL_heldR {who : Int} : ∀ (list l l' : List Lk), VTb l → (∀ x ∈ list, x.who = who) → list.Pairwise (fun x y => x.node ≠ y.node) → takeL l list = some l' →
    ∀ a n, heldF l' a n = if a = who then joinF (heldF l a n) (heldF list who n) else heldF l a n
  | [], l, l', hv, _, _, h, a, n => by
    simp only [takeL, Option.some.injEq] at h
    subst h
    split
    · rw [show heldF [] who n = 0 from rfl, joinF_zeroR (heldF_isM hv a n)]
    · rfl
  | x :: r, l, l', hv, hw, hp, h, a, n => by
    rw [takeL] at h
    split at h
    · rename_i l1 h1
      have hx := hw x (List.mem_cons_self ..)
      obtain ⟨hp1, hp2⟩ := List.pairwise_cons.1 hp
      have ih := takeL_heldR r l1 l' (takeF_VTb h1) (fun y hy => hw y (List.mem_cons_of_mem _ hy)) hp2 h a n
      obtain ⟨_, hask, _, rfl⟩ := takeF_some h1
      rw [ih, grantF_held _ _ _ _ hask.isM, hx]
      have hcons : heldF (x :: r) who n = if n = x.node then x.mode else heldF r who n := by
        rw [heldF]
        by_cases e : n = x.node
        · rw [if_pos ⟨hx, e.symm⟩, if_pos e]
        · rw [if_neg fun h => e h.2.symm, if_neg e]
      rw [hcons]
      by_cases ha : a = who
      · rw [if_pos ha, if_pos ha]
        by_cases e : n = x.node
        · rw [if_pos ⟨ha, e⟩, if_pos e]
          have h0 : heldF r who n = 0 := heldF_none fun y hy hc => hp1 y hy (by rw [hc.2, e])
          rw [h0, joinF_zeroR (joinF_isM (heldF_isM hv _ _) hask.isM), ha, e]
        · rw [if_neg fun h => e h.2, if_neg e]
      · rw [if_neg ha, if_neg ha, if_neg fun h => ha h.1]
    · cases h
/-- All can be taken where nobody stands in the way of one. -/
theorem takeL_some {who : Int} : ∀ (list l : List Lk), VTb l → (∀ x ∈ list, x.who = who ∧ OkAsk x.who x.node x.mode) → list.Pairwise (fun x y => x.node ≠ y.node) →
    (takeL l list ≠ none ↔ ∀ x ∈ list, blkF l who x.node (joinF (heldF l who x.node) x.mode) = [])
  | [], l, _, _, _ => by simp [takeL]
  | x :: r, l, hv, hw, hp => by
    obtain ⟨hx, hask⟩ := hw x (List.mem_cons_self ..)
    obtain ⟨hp1, hp2⟩ := List.pairwise_cons.1 hp
    rw [takeL]
    by_cases hb : blkF l who x.node (joinF (heldF l who x.node) x.mode) = []
    · have htk : takeF l x.who x.node x.mode = some (grantF l x.who x.node x.mode) := takeF_yes hv hask (by rw [hx]; exact hb)
      have hv' := takeF_VTb htk
      rw [htk]
      simp only
      rw [takeL_some r _ hv' (fun y hy => hw y (List.mem_cons_of_mem _ hy)) hp2]
      have hsame : ∀ y ∈ r, blkF (grantF l x.who x.node x.mode) who y.node (joinF (heldF (grantF l x.who x.node x.mode) who y.node) y.mode) = blkF l who y.node (joinF (heldF l who y.node) y.mode) := by
        intro y hy
        have hne := hp1 y hy
        have e1 : ∀ a, heldF (grantF l x.who x.node x.mode) a y.node = heldF l a y.node := fun a => by
          rw [grantF_held _ _ _ _ hask.isM, if_neg fun h => hne h.2.symm]
        unfold blkF
        simp only [e1]
      constructor
      · intro h y hy
        rcases List.mem_cons.1 hy with rfl | hy
        · exact hb
        · rw [← hsame y hy]; exact h y hy
      · intro h y hy
        rw [hsame y hy]; exact h y (List.mem_cons_of_mem _ hy)
    · have htk : takeF l x.who x.node x.mode = none := takeF_no fun h => hb (by have := h.2.2; rw [hx] at this; exact this)
      rw [htk]
      simp only [ne_eq, not_true, false_iff]
      exact fun h => hb (h x (List.mem_cons_self ..))
/-- Taken whole, locks are whole. -/
theorem take_fineR {t : List Nd} {l l' : List Lk} {who node mode : Int} (hv : VTb l) (h : IsNd t node) (ha : OkAsk who node mode) (hf : ∀ a, Fine t l a) (htk : takeL l (lkF t who node mode) = some l') : ∀ a, Fine t l' a := by
  have hh := takeL_heldR (who := who) (lkF t who node mode) l l' hv (fun x hx => lkF_who hx) (lkF_pair h) htk
  have hfl := lkF_fine (who := who) h ha.isM
  intro a k x hk hx
  have hv' := takeL_VTb _ _ _ hv htk
  rw [hh, hh]
  by_cases e : a = who
  · subst e
    rw [if_pos rfl, if_pos rfl]
    have hm : ∀ n, IsM (heldF (lkF t a node mode) a n) := fun n => by
      rw [lkF_held h]
      split
      · exact ha.isM
      · split
        · exact needF_isM _
        · exact ⟨by omega, by omega⟩
    rw [needF_mono (heldF_isM hv _ _) (hm _)]
    exact joinF_mono (heldF_isM hv _ _) (hm _) (needF_isM _) (needF_isM _) (hf a k x hk hx) (hfl k x hk hx)
  · rw [if_neg e, if_neg e]; exact hf a k x hk hx
theorem free_fineR {t : List Nd} {l : List Lk} {who : Int} (hv : VTb l) (hf : ∀ a, Fine t l a) : ∀ a, Fine t (freeF l who) a := by
  intro a k x hk hx
  rw [freeF_held hv, freeF_held hv]
  by_cases e : a = who
  · rw [if_pos e, if_pos e]; decide
  · rw [if_neg e, if_neg e]; exact hf a k x hk hx

/-- How far a run has come. -/
structure Mc where
  vals : List Int
  place : List Int
  fin : List Int
  tab : List Lk
def modeF (d : Dd) : Int := if d.add = 0 then 3 else 5
theorem modeF_ok (d : Dd) : 1 ≤ modeF d ∧ modeF d ≤ 5 := by unfold modeF; split <;> omega
/-- The script of a transaction, and its next part. -/
def scr (sc : List (List Dd)) (who : Nat) : List Dd := sc[who]?.getD []
def plc (m : Mc) (who : Nat) : Int := m.place[who]?.getD 0
def nextD (sc : List (List Dd)) (m : Mc) (who : Nat) : Option Dd := (scr sc who)[(plc m who).toNat]?
/-- Behind the last part all is free. -/
def endM (sc : List (List Dd)) (who : Nat) (m : Mc) : Mc := if plc m who = (scr sc who).length then { m with tab := freeF m.tab who, fin := m.fin ++ [(who : Int)] } else m
def stepM (m : Mc) (who : Nat) (d : Dd) (l : List Lk) : Mc := { vals := m.vals.set d.node.toNat ((m.vals[d.node.toNat]?.getD 0) + d.add), place := m.place.set who (plc m who + 1), fin := m.fin, tab := l }
noncomputable def pickM (t : List Nd) (sc : List (List Dd)) (m : Mc) (who : Nat) : Mc :=
  match nextD sc m who with
  | none => m
  | some d => match takeL m.tab (lkF t who d.node (modeF d)) with
    | none => m
    | some l => endM sc who (stepM m who d l)
def startM (t : List Nd) (sc : List (List Dd)) : Mc := ⟨t.map Nd.val, List.replicate sc.length 0, [], []⟩
noncomputable def runL (t : List Nd) (sc : List (List Dd)) : List Int → Mc → Mc
  | [], m => m
  | p :: r, m => runL t sc r (pickM t sc m p.toNat)
noncomputable def runM (t : List Nd) (sc : List (List Dd)) (picks : List Int) : Mc := runL t sc picks (startM t sc)
theorem runL_app (t : List Nd) (sc : List (List Dd)) : ∀ (a b : List Int) (m : Mc), runL t sc (a ++ b) m = runL t sc b (runL t sc a m)
  | [], _, _ => rfl
  | p :: a, b, m => by rw [List.cons_append, runL, runL, runL_app t sc a b]
theorem runM_snoc {t : List Nd} {sc : List (List Dd)} {picks : List Int} {k : Nat} {p : Int} (hp : picks[k]? = some p) : runM t sc (picks.take (k + 1)) = pickM t sc (runM t sc (picks.take k)) p.toNat := by
  unfold runM
  rw [take_snoc hp, runL_app]
  rfl
theorem runM_one (t : List Nd) (sc : List (List Dd)) (picks : List Int) (p : Int) : runM t sc (picks ++ [p]) = pickM t sc (runM t sc picks) p.toNat := by
  unfold runM
  rw [runL_app]
  rfl
/-- Scripts that are valid. -/
def OkDo (t : List Nd) (d : Dd) : Prop := (0 ≤ d.node ∧ d.node < t.length) ∧ -50 ≤ d.add ∧ d.add ≤ 50
def VSc (t : List Nd) (sc : List (List Dd)) : Prop := sc.length ≤ 4 ∧ ∀ s ∈ sc, (1 ≤ s.length ∧ s.length ≤ 3) ∧ ∀ d ∈ s, OkDo t d
/-- A run that is valid. -/
def VR (t : List Nd) (sc : List (List Dd)) (picks : List Int) : Prop := VT t ∧ VSc t sc ∧ picks.length ≤ 16 ∧ ∀ p ∈ picks, 0 ≤ p ∧ p < sc.length
/-- A sum over the parts of a node. -/
def sumN (n : Int) : List Dd → Int
  | [] => 0
  | d :: r => (if d.node = n then d.add else 0) + sumN n r
def totF (n : Int) : List (List Dd) → List Int → Int
  | s :: r, p :: q => sumN n (s.take p.toNat) + totF n r q
  | _, _ => 0
theorem sumN_app (n : Int) : ∀ a b : List Dd, sumN n (a ++ b) = sumN n a + sumN n b
  | [], b => by simp [sumN]
  | d :: a, b => by rw [List.cons_append, sumN, sumN, sumN_app n a b]; omega
theorem totF_zero (n : Int) : ∀ (sc : List (List Dd)) (k : Nat), totF n sc (List.replicate k 0) = 0
  | [], k => by cases k <;> rfl
  | s :: r, 0 => rfl
  | s :: r, k + 1 => by rw [List.replicate_succ, totF, totF_zero n r k]; simp [sumN]
theorem totF_set (n : Int) : ∀ (sc : List (List Dd)) (pl : List Int) (who : Nat) (s : List Dd) (p : Int) (d : Dd), sc[who]? = some s → pl[who]? = some p → 0 ≤ p → s[p.toNat]? = some d →
    totF n sc (pl.set who (p + 1)) = totF n sc pl + if d.node = n then d.add else 0
  | [], _, _, _, _, _, h, _, _, _ => by simp at h
  | _ :: _, [], _, _, _, _, _, h, _, _ => by simp at h
  | s' :: r, p' :: q, 0, s, p, d, hs, hp, h0, hd => by
    simp only [List.getElem?_cons_zero, Option.some.injEq] at hs hp
    subst hs hp
    rw [List.set_cons_zero, totF, totF, show (p' + 1).toNat = p'.toNat + 1 by omega, take_snoc hd, sumN_app]
    simp only [sumN]
    omega
  | s' :: r, p' :: q, who + 1, s, p, d, hs, hp, h0, hd => by
    simp only [List.getElem?_cons_succ] at hs hp
    rw [List.set_cons_succ, totF, totF, totF_set n r q who s p d hs hp h0 hd]
    omega
/-- What holds along a run. -/
structure Inv (t : List Nd) (sc : List (List Dd)) (m : Mc) : Prop where
  vlen : m.vals.length = t.length
  plen : m.place.length = sc.length
  prange : ∀ (i : Nat), i < sc.length → 0 ≤ plc m i ∧ plc m i ≤ (scr sc i).length
  tab : VTb m.tab
  fine : ∀ a, Fine t m.tab a
  nodup : m.fin.Nodup
  fin : ∀ z, z ∈ m.fin ↔ ∃ i : Nat, z = i ∧ i < sc.length ∧ plc m i = (scr sc i).length
  held : ∀ a n, heldF m.tab a n ≠ 0 → ∃ i : Nat, a = i ∧ i < sc.length ∧ 1 ≤ plc m i ∧ plc m i < (scr sc i).length
  lock : ∀ (i k : Nat) (d : Dd), i < sc.length → (k : Int) < plc m i → plc m i < (scr sc i).length → (scr sc i)[k]? = some d → strF (heldF m.tab i d.node) (modeF d) = true
  val : ∀ n : Nat, n < t.length → m.vals[n]? = some (((t.map Nd.val)[n]?.getD 0) + totF n sc m.place)
theorem scr_get {sc : List (List Dd)} {i : Nat} (h : i < sc.length) : sc[i]? = some (scr sc i) := by
  unfold scr; rw [List.getElem?_eq_getElem h]; rfl
theorem VSc.scr {t : List Nd} {sc : List (List Dd)} (h : VSc t sc) {i : Nat} (hi : i < sc.length) : (1 ≤ (scr sc i).length ∧ (scr sc i).length ≤ 3) ∧ ∀ d ∈ scr sc i, OkDo t d := h.2 _ (List.mem_of_getElem? (scr_get hi))
theorem plc_get {m : Mc} {i : Nat} (h : i < m.place.length) : m.place[i]? = some (plc m i) := by
  unfold plc; rw [List.getElem?_eq_getElem h]; rfl
theorem Inv.start {t : List Nd} {sc : List (List Dd)} (h : VSc t sc) : Inv t sc (startM t sc) := by
  have hp : ∀ i, plc (startM t sc) i = 0 := fun i => by
    unfold plc startM
    simp only
    by_cases e : i < sc.length
    · rw [List.getElem?_eq_getElem (by simpa using e)]; simp
    · rw [List.getElem?_eq_none (by simpa using e)]; rfl
  refine ⟨by simp [startM], by simp [startM], fun i hi => by rw [hp]; omega, VTb_nil, fun a k x _ _ => (by show strF 0 (needF 0) = true; decide), List.nodup_nil, fun z => ⟨fun hz => (by cases hz), ?_⟩, fun a n hh => absurd rfl hh, fun i k d hi hk => (by rw [hp] at hk; omega), fun n hn => ?_⟩
  · rintro ⟨i, _, hi, h2⟩
    rw [hp] at h2
    have := (h.scr hi).1.1
    omega
  · unfold startM
    simp only
    rw [totF_zero, List.getElem?_map, List.getElem?_eq_getElem hn]
    simp
theorem pickM_none {t : List Nd} {sc : List (List Dd)} {m : Mc} {who : Nat} (h : nextD sc m who = none) : pickM t sc m who = m := by unfold pickM; rw [h]
theorem pickM_block {t : List Nd} {sc : List (List Dd)} {m : Mc} {who : Nat} {d : Dd} (h : nextD sc m who = some d) (hb : takeL m.tab (lkF t who d.node (modeF d)) = none) : pickM t sc m who = m := by unfold pickM; rw [h]; simp only; rw [hb]
theorem pickM_step {t : List Nd} {sc : List (List Dd)} {m : Mc} {who : Nat} {d : Dd} {l : List Lk} (h : nextD sc m who = some d) (hb : takeL m.tab (lkF t who d.node (modeF d)) = some l) : pickM t sc m who = endM sc who (stepM m who d l) := by unfold pickM; rw [h]; simp only; rw [hb]
theorem do_ok {t : List Nd} {sc : List (List Dd)} {m : Mc} {who : Nat} {d : Dd} (hvt : VT t) (hsc : VSc t sc) (hw : who < sc.length) (h : nextD sc m who = some d) : IsNd t d.node ∧ OkAsk who d.node (modeF d) ∧ OkDo t d := by
  have hd := (hsc.scr hw).2 d (List.mem_of_getElem? h)
  have := modeF_ok d
  have := hsc.1
  have := hvt.2.1
  have hd1 := hd.1
  exact ⟨⟨hvt, hd1.1, hd1.2⟩, ⟨⟨by omega, by omega⟩, ⟨by omega, by omega⟩, by omega, by omega⟩, hd⟩
theorem set_get {l : List Int} {i j : Nat} {v : Int} (hi : i < l.length) : (l.set i v)[j]?.getD 0 = if j = i then v else l[j]?.getD 0 := by
  rw [List.getElem?_set]
  by_cases e : i = j
  · subst e; rw [if_pos rfl, if_pos rfl, if_pos hi]; rfl
  · rw [if_neg e, if_neg fun h => e h.symm]
theorem Inv.pick {t : List Nd} {sc : List (List Dd)} {m : Mc} (hvt : VT t) (hsc : VSc t sc) (h : Inv t sc m) {who : Nat} (hw : who < sc.length) : Inv t sc (pickM t sc m who) := by
  cases hd : nextD sc m who with
  | none => rw [pickM_none hd]; exact h
  | some d =>
    cases hb : takeL m.tab (lkF t who d.node (modeF d)) with
    | none => rw [pickM_block hd hb]; exact h
    | some l =>
      rw [pickM_step hd hb]
      obtain ⟨hnd, hask, hok⟩ := do_ok hvt hsc hw hd
      have hlv := takeL_VTb _ _ _ h.tab hb
      have hheld := takeL_heldR (who := (who : Int)) (lkF t who d.node (modeF d)) m.tab l h.tab (fun x hx => lkF_who hx) (lkF_pair hnd) hb
      have hfine := take_fineR h.tab hnd hask h.fine hb
      have hpw : who < m.place.length := by rw [h.plen]; exact hw
      have hpl : ∀ i, plc (stepM m who d l) i = if i = who then plc m who + 1 else plc m i := fun i => by
        unfold stepM plc
        exact set_get hpw
      have hpr := h.prange who hw
      have hlt : plc m who < (scr sc who).length := by
        have := (List.getElem?_eq_some_iff.1 hd).1
        omega
      have hnn : d.node.toNat < t.length := by have := hok.1; omega
      have hval : ∀ n : Nat, n < t.length → (stepM m who d l).vals[n]? = some (((t.map Nd.val)[n]?.getD 0) + totF n sc (stepM m who d l).place) := by
        intro n hn
        have ht := totF_set n sc m.place who (scr sc who) (plc m who) d (scr_get hw) (plc_get hpw) hpr.1 hd
        show (m.vals.set d.node.toNat ((m.vals[d.node.toNat]?.getD 0) + d.add))[n]? = some (_ + totF n sc (m.place.set who (plc m who + 1)))
        rw [ht, List.getElem?_set]
        have hv := h.val n hn
        by_cases e : d.node.toNat = n
        · rw [if_pos e, if_pos (by rw [h.vlen]; exact hnn), e, hv, if_pos (by have := hok.1; omega)]
          simp
          omega
        · rw [if_neg e, hv, if_neg (by have := hok.1; omega)]
          simp
      have hlock : ∀ (i k : Nat) (d' : Dd), i < sc.length → (k : Int) < plc (stepM m who d l) i → plc m i < (scr sc i).length → (scr sc i)[k]? = some d' → strF (heldF l i d'.node) (modeF d') = true := by
        intro i k d' hi hk hlen hd'
        rw [hpl] at hk
        have hmd : IsM (modeF d') := by have := modeF_ok d'; exact ⟨by omega, by omega⟩
        by_cases e : i = who
        · subst e
          rw [if_pos rfl] at hk
          rw [hheld, if_pos rfl]
          have hm1 := heldF_isM h.tab (i : Int) d'.node
          have hm2 : ∀ n, IsM (heldF (lkF t i d.node (modeF d)) i n) := fun n => by
            rw [lkF_held hnd]
            split
            · exact hask.isM
            · split
              · exact needF_isM _
              · exact ⟨by omega, by omega⟩
          by_cases ek : k = (plc m i).toNat
          · subst ek
            have : d' = d := by
              have h1 : (scr sc i)[(plc m i).toNat]? = some d := hd
              rw [h1] at hd'; injection hd' with hd'; exact hd'.symm
            subst this
            have := (strF_join hm1 (hm2 d'.node)).2
            rw [lkF_held hnd, if_pos rfl] at this
            rw [lkF_held hnd, if_pos rfl]
            exact this
          · have h1 := h.lock i k d' hi (by omega) hlen hd'
            exact strF_trans (joinF_isM hm1 (hm2 _)) hm1 hmd (strF_join hm1 (hm2 _)).1 h1
        · rw [if_neg e] at hk
          rw [hheld, if_neg (by omega)]
          exact h.lock i k d' hi hk hlen hd'
      have hh2 : ∀ a n, heldF l a n ≠ 0 → a = (who : Int) ∨ heldF m.tab a n ≠ 0 := fun a n hn => by
        by_cases e : a = (who : Int)
        · exact .inl e
        · rw [hheld, if_neg e] at hn; exact .inr hn
      have hnf : (who : Int) ∉ m.fin := fun hc => by
        obtain ⟨i, e, _, h2⟩ := (h.fin _).1 hc
        obtain rfl : who = i := by omega
        omega
      unfold endM
      rw [hpl, if_pos rfl]
      by_cases hend : plc m who + 1 = (scr sc who).length
      · rw [if_pos hend]
        refine ⟨by show (m.vals.set _ _).length = _; rw [List.length_set]; exact h.vlen, by show (m.place.set _ _).length = _; rw [List.length_set]; exact h.plen, fun i hi => ?_, freeF_VTb hlv _, free_fineR hlv hfine, ?_, fun z => ?_, fun a n hn => ?_, fun i k d' hi hk hl hd' => ?_, hval⟩
        · show 0 ≤ plc (stepM m who d l) i ∧ plc (stepM m who d l) i ≤ _
          rw [hpl]
          split
          · rename_i e; subst e; omega
          · exact h.prange i hi
        · show (m.fin ++ [(who : Int)]).Nodup
          rw [List.nodup_append]
          exact ⟨h.nodup, by simp, fun a ha b hb => by simp at hb; rw [hb]; exact fun e => hnf (e ▸ ha)⟩
        · show z ∈ m.fin ++ [(who : Int)] ↔ ∃ i : Nat, z = i ∧ i < sc.length ∧ plc (stepM m who d l) i = _
          rw [List.mem_append, h.fin]
          constructor
          · rintro (⟨i, e1, e2, e3⟩ | hz)
            · refine ⟨i, e1, e2, ?_⟩
              rw [hpl, if_neg]
              · exact e3
              · rintro rfl; omega
            · simp at hz
              exact ⟨who, hz, hw, by rw [hpl, if_pos rfl]; exact hend⟩
          · rintro ⟨i, e1, e2, e3⟩
            rw [hpl] at e3
            by_cases e : i = who
            · subst e; right; simp [e1]
            · rw [if_neg e] at e3; exact .inl ⟨i, e1, e2, e3⟩
        · change heldF (freeF l who) a n ≠ 0 at hn
          rw [freeF_held hlv] at hn
          by_cases e : a = (who : Int)
          · rw [if_pos e] at hn; exact absurd rfl hn
          · rw [if_neg e] at hn
            rcases hh2 a n hn with e' | hn
            · exact absurd e' e
            · obtain ⟨i, e1, e2, e3⟩ := h.held a n hn
              refine ⟨i, e1, e2, ?_⟩
              show 1 ≤ plc (stepM m who d l) i ∧ plc (stepM m who d l) i < _
              rw [hpl, if_neg (by omega)]; exact e3
        · change (k : Int) < plc (stepM m who d l) i at hk
          change plc (stepM m who d l) i < _ at hl
          show strF (heldF (freeF l who) i d'.node) (modeF d') = true
          have hi2 : i ≠ who := by
            rintro rfl
            rw [hpl, if_pos rfl] at hl; omega
          rw [freeF_held hlv, if_neg (by omega)]
          exact hlock i k d' hi hk (by rw [hpl, if_neg hi2] at hl; exact hl) hd'
      · rw [if_neg hend]
        refine ⟨by show (m.vals.set _ _).length = _; rw [List.length_set]; exact h.vlen, by show (m.place.set _ _).length = _; rw [List.length_set]; exact h.plen, fun i hi => ?_, hlv, hfine, h.nodup, fun z => ?_, fun a n hn => ?_, fun i k d' hi hk hl hd' => ?_, hval⟩
        · rw [hpl]
          split
          · rename_i e; subst e; omega
          · exact h.prange i hi
        · show z ∈ m.fin ↔ _
          rw [h.fin]
          constructor
          · rintro ⟨i, e1, e2, e3⟩
            refine ⟨i, e1, e2, ?_⟩
            rw [hpl, if_neg]
            · exact e3
            · rintro rfl; omega
          · rintro ⟨i, e1, e2, e3⟩
            rw [hpl] at e3
            by_cases e : i = who
            · subst e; rw [if_pos rfl] at e3; exact absurd e3 hend
            · rw [if_neg e] at e3; exact ⟨i, e1, e2, e3⟩
        · rcases hh2 a n hn with e | hn
          · refine ⟨who, e, hw, ?_⟩
            rw [hpl, if_pos rfl]; omega
          · obtain ⟨i, e1, e2, e3⟩ := h.held a n hn
            refine ⟨i, e1, e2, ?_⟩
            rw [hpl]
            split
            · rename_i e; subst e; omega
            · exact e3
        · rw [hpl] at hl
          have hl' : plc m i < (scr sc i).length := by
            by_cases e : i = who
            · subst e; exact hlt
            · rw [if_neg e] at hl; exact hl
          exact hlock i k d' hi hk hl' hd'
theorem Inv.run {t : List Nd} {sc : List (List Dd)} (hvt : VT t) (hsc : VSc t sc) : ∀ (picks : List Int) (m : Mc), Inv t sc m → (∀ p ∈ picks, 0 ≤ p ∧ p < sc.length) → Inv t sc (runL t sc picks m)
  | [], m, h, _ => h
  | p :: r, m, h, hp => by
    have := hp p (List.mem_cons_self ..)
    exact Inv.run hvt hsc r _ (h.pick hvt hsc (by omega)) fun q hq => hp q (List.mem_cons_of_mem _ hq)
theorem VR.inv {t : List Nd} {sc : List (List Dd)} {picks : List Int} (h : VR t sc picks) : Inv t sc (runM t sc picks) := Inv.run h.1 h.2.1 picks _ (Inv.start h.2.1) h.2.2.2
theorem VR.take {t : List Nd} {sc : List (List Dd)} {picks : List Int} (h : VR t sc picks) (k : Nat) : VR t sc (picks.take k) :=
  ⟨h.1, h.2.1, Nat.le_trans (List.length_take_le' ..) h.2.2.1, fun p hp => h.2.2.2 p (List.mem_of_mem_take hp)⟩
end Go.Proofs.YtgpocjehiohimaaDoor
