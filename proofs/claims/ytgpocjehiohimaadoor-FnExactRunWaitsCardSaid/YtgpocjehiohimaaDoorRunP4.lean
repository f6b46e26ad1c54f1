/- Runs: bounds and steps, in plain words; numbers as a row of cells. -/
import Derived.Test.YtgpocjehiohimaaDoorRunP3
namespace Go.Proofs.YtgpocjehiohimaaDoor
open Go.RowKit

/-- Numbers as cells. -/
def iA (l : List Int) : Array Value := (l.map (Value.int .i64)).toArray
theorem iA_get {l : List Int} {i : Nat} {x : Int} (h : l[i]? = some x) : (iA l)[i]? = some (.int .i64 x) := by unfold iA; simp [h]
theorem iA_set {l : List Int} {i : Nat} {x : Int} : (iA l).setIfInBounds i (.int .i64 x) = iA (l.set i x) := by unfold iA; simp [List.map_set]
theorem iA_zero (n : Nat) : madeCells #[Value.int .i64 0] n = iA (List.replicate n 0) := by
  have h : (zer n).toList = (iA (List.replicate n 0)).toList := by
    unfold zer iA
    rw [toList_madeCells_one]
    simp
  have := congrArg List.toArray h
  simpa [zer] using this
theorem rd_iA {w : World} {g lo : Nat} {l : List Int} (h : w.heap[g]? = some (.cells (iA l) 3 (0, 0))) (hlo : lo ≤ g) (hl : l.length ≤ 1000000) : Rd cI 1 w lo (some ⟨g, 0, none⟩) l.length l :=
  ⟨rfl, by omega, fun _ => ⟨g, 0, rfl, hlo, blk_lt h, fun k x hx j u hu => by
    match j, hu with
    | 0, hu =>
      simp only [cI, List.getElem?_cons_zero, Option.some.injEq] at hu
      subst hu
      have := blk_cell h (i := k) (iA_get hx)
      simpa using this
    | j + 1, hu => simp [cI] at hu⟩⟩

theorem sumN_bd {t : List Nd} (n : Int) : ∀ (l : List Dd), (∀ d ∈ l, OkDo t d) → -(50 * (l.length : Int)) ≤ sumN n l ∧ sumN n l ≤ 50 * (l.length : Int)
  | [], _ => ⟨by simp [sumN], by simp [sumN]⟩
  | d :: r, h => by
    have ih := sumN_bd n r fun x hx => h x (List.mem_cons_of_mem _ hx)
    have hd := (h d (List.mem_cons_self ..)).2
    rw [sumN, List.length_cons]
    by_cases e : d.node = n
    · rw [if_pos e]; omega
    · rw [if_neg e]; omega
theorem totF_bd {t : List Nd} (n : Int) : ∀ (sc : List (List Dd)) (pl : List Int), (∀ s ∈ sc, s.length ≤ 3 ∧ ∀ d ∈ s, OkDo t d) → -(150 * (sc.length : Int)) ≤ totF n sc pl ∧ totF n sc pl ≤ 150 * (sc.length : Int)
  | [], _, _ => ⟨by simp [totF], by simp [totF]⟩
  | s :: r, [], _ => by
    rw [show totF n (s :: r) [] = 0 from rfl, List.length_cons]; omega
  | s :: r, p :: q, h => by
    have ih := totF_bd n r q fun x hx => h x (List.mem_cons_of_mem _ hx)
    obtain ⟨h1, h2⟩ := h s (List.mem_cons_self ..)
    have hb := sumN_bd n (s.take p.toNat) fun d hd => h2 d (List.mem_of_mem_take hd)
    have hl : (s.take p.toNat).length ≤ 3 := by rw [List.length_take]; omega
    rw [totF, List.length_cons]
    omega
section
variable {t : List Nd} {sc : List (List Dd)} {m : Mc}
theorem Inv.vbd (hvt : VT t) (hsc : VSc t sc) (h : Inv t sc m) {n : Nat} {v : Int} (hv : m.vals[n]? = some v) : -1600 ≤ v ∧ v ≤ 1600 := by
  have hn : n < t.length := by rw [← h.vlen]; exact (List.getElem?_eq_some_iff.1 hv).1
  have h1 := h.val n hn
  rw [hv] at h1
  injection h1 with h1
  have hb := totF_bd (t := t) n sc m.place fun s hs => ⟨(hsc.2 s hs).1.2, (hsc.2 s hs).2⟩
  have h4 := hsc.1
  have hx : t[n]? = some t[n] := List.getElem?_eq_getElem hn
  have ho := hvt.2.2 n _ hn hx
  rw [List.getElem?_map, hx] at h1
  simp only [Option.map_some, Option.getD_some] at h1
  have := ho.1
  have := ho.2.1
  omega
theorem nextD_of {who : Nat} {d : Dd} {p : Nat} (hp : plc m who = p) (hd : (scr sc who)[p]? = some d) : nextD sc m who = some d := by
  unfold nextD; rw [hp, Int.toNat_natCast]; exact hd
theorem nextD_end {who : Nat} (hp : plc m who = (scr sc who).length) : nextD sc m who = none := by
  unfold nextD; rw [hp, Int.toNat_natCast]; exact List.getElem?_eq_none (Nat.le_refl _)
theorem endM_no {who : Nat} (h : plc m who ≠ (scr sc who).length) : endM sc who m = m := by unfold endM; rw [if_neg h]
theorem endM_yes {who : Nat} (h : plc m who = (scr sc who).length) : endM sc who m = { m with tab := freeF m.tab who, fin := m.fin ++ [(who : Int)] } := by unfold endM; rw [if_pos h]
theorem stepM_plc {who : Nat} {d : Dd} {l : List Lk} (h : who < m.place.length) : plc (stepM m who d l) who = plc m who + 1 := by
  unfold stepM plc
  simp only
  rw [set_get h, if_pos rfl]
theorem runM_zero (t : List Nd) (sc : List (List Dd)) : runM t sc [] = startM t sc := rfl
theorem Inv.runM (hvt : VT t) (hsc : VSc t sc) {ps : List Int} (h : ∀ p ∈ ps, 0 ≤ p ∧ p < sc.length) : Inv t sc (runM t sc ps) := Inv.run hvt hsc _ _ (Inv.start hsc) h
end
end Go.Proofs.YtgpocjehiohimaaDoor
