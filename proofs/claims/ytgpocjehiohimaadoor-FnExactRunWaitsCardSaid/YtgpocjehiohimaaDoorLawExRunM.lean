/- What runs hand back, in plain words. The walk over marked. The walks over RunValues, RunOrder, RunLocks, RunWaits of the program. The walks over ValidWaits, WaitsFor, DeadlockOf. The walks over RunValues, RunOrder, RunLocks of the program: what they hand back is the caller's own. The walk over RunWaits of the program. The walks over the reference's run, RunValues, RunOrder, RunLocks. The walk over the reference's RunWaits. The walks over what the exact laws do with nodes: szNode, szNodeS, toNode, toNodeS, eqNode, eqNodeS. The walks over what the exact laws do with parts of scripts: toDo, toDoS, eqDo, eqDoS. The walks over what the exact laws do with scripts and numbers: szDoS, szDoSS, toDoSS, eqDoSS, toIntS, eqIntS. The walks over what the exact laws do with locks and waits: eqLock, eqLockS, eqWait, eqWaitS. The walks over the marks of exact laws: markIntS, markDoS, markLockS, markWaitS, heldIntS, heldLockS, heldWaitS. The walks over the marks of exact laws: markText, markNodeS, markDoSS. What the exact laws on runs are handed. The walk of the law FnExactRunValues. The walk of the law FnExactRunOrder. The walk of the law FnExactRunLocks. The walk of the law FnExactRunWaits. -/
import Derived.Test.YtgpocjehiohimaaDoorRunP4
import Derived.Test.YtgpocjehiohimaaDoorElems
import Derived.Test.YtgpocjehiohimaaDoorWords4
import Derived.Test.YtgpocjehiohimaaDoorInts
import Derived.Test.YtgpocjehiohimaaDoorRunW
import Derived.Test.YtgpocjehiohimaaDoorTabW2
import Derived.Test.YtgpocjehiohimaaDoorWaitQ
import Derived.Test.YtgpocjehiohimaaDoorPlaceW
import Derived.Test.YtgpocjehiohimaaDoorTreeW
import Derived.Test.YtgpocjehiohimaaDoorWords6
import Derived.Test.YtgpocjehiohimaaDoorWords3
import Derived.Test.YtgpocjehiohimaaDoorTabW3
import Derived.Test.YtgpocjehiohimaaDoorPickS
import Derived.Test.YtgpocjehiohimaaDoorExP
import Derived.Test.YtgpocjehiohimaaDoorScrW
import Derived.Test.YtgpocjehiohimaaDoorWords7
namespace Go.Proofs.YtgpocjehiohimaaDoor
open Go.RowKit

open Classical in
/-- What a run hands back where its arguments are valid, nothing elsewhere. -/
noncomputable def onR {α : Type} (t : List Nd) (sc : List (List Dd)) (ps : List Int) (f : Mc → List α) : List α := if VR t sc ps then f (runM t sc ps) else []
theorem onR_t {α : Type} {t : List Nd} {sc : List (List Dd)} {ps : List Int} (h : VR t sc ps) (f : Mc → List α) : onR t sc ps f = f (runM t sc ps) := by unfold onR; rw [if_pos h]
theorem onR_f {α : Type} {t : List Nd} {sc : List (List Dd)} {ps : List Int} (h : ¬ VR t sc ps) (f : Mc → List α) : onR t sc ps f = [] := by unfold onR; rw [if_neg h]
noncomputable def rvF (t : List Nd) (sc : List (List Dd)) (ps : List Int) : List Int := onR t sc ps Mc.vals
noncomputable def roF (t : List Nd) (sc : List (List Dd)) (ps : List Int) : List Int := onR t sc ps Mc.fin
noncomputable def rlF (t : List Nd) (sc : List (List Dd)) (ps : List Int) : List Lk := onR t sc ps Mc.tab
noncomputable def rwF (t : List Nd) (sc : List (List Dd)) (ps : List Int) : List Wt := onR t sc ps fun m => wtF t sc m sc.length
theorem rvF_len {t : List Nd} {sc : List (List Dd)} {ps : List Int} : (rvF t sc ps).length ≤ 12 := by
  unfold rvF
  by_cases h : VR t sc ps
  · rw [onR_t h, h.inv.vlen]; exact h.1.2.1
  · rw [onR_f h]; simp
theorem roF_len {t : List Nd} {sc : List (List Dd)} {ps : List Int} : (roF t sc ps).length ≤ 4 := by
  unfold roF
  by_cases h : VR t sc ps
  · rw [onR_t h]; have := h.inv.finl; have := h.2.1.1; omega
  · rw [onR_f h]; simp
theorem rlF_len {t : List Nd} {sc : List (List Dd)} {ps : List Int} : (rlF t sc ps).length ≤ 48 := by
  unfold rlF
  by_cases h : VR t sc ps
  · rw [onR_t h]; exact h.inv.tab.1
  · rw [onR_f h]; simp
theorem rwF_len {t : List Nd} {sc : List (List Dd)} {ps : List Int} : (rwF t sc ps).length ≤ 12 := by
  unfold rwF
  by_cases h : VR t sc ps
  · rw [onR_t h]; exact (h.inv.waits h.1 h.2.1).1
  · rw [onR_f h]; simp
section
variable {t : List Nd} {sc : List (List Dd)} {m : Mc}
/-- The reference's way: each other script in order. -/
noncomputable def wtS (t : List Nd) (m : Mc) (who : Int) (d : Dd) (j : Nat) : List Wt := (((List.range j).map fun (o : Nat) => (o : Int)).filter (blkD t m who d)).map fun o => ⟨who, o⟩
theorem wtS_yes {who : Int} {d : Dd} {j : Nat} (h : blkD t m who d j = true) : wtS t m who d (j + 1) = wtS t m who d j ++ [⟨who, (j : Int)⟩] := by
  unfold wtS
  rw [List.range_succ, List.map_append, List.filter_append]
  simp [h]
theorem wtS_no {who : Int} {d : Dd} {j : Nat} (h : blkD t m who d j = false) : wtS t m who d (j + 1) = wtS t m who d j := by
  unfold wtS
  rw [List.range_succ, List.map_append, List.filter_append]
  simp [h]
theorem wtS_len (who : Int) (d : Dd) (j : Nat) : (wtS t m who d j).length ≤ j := by
  unfold wtS
  rw [List.length_map]
  refine Nat.le_trans (List.length_filter_le _ _) ?_
  simp
theorem mark_range {f : Int → Bool} {n : Nat} (hn : n ≤ 4) (h : ∀ o : Int, f o = true → o < n) : ((List.range n).map fun (o : Nat) => (o : Int)).filter f = markL f := by
  have e : ∀ k : Nat, n ≤ k → f k = false := fun k hk => by
    cases hf : f k with
    | false => rfl
    | true => have := h k hf; omega
  unfold markL
  match n, hn with
  | 0, _ =>
    have h0 := e 0 (by omega); have h1 := e 1 (by omega); have h2 := e 2 (by omega); have h3 := e 3 (by omega)
    simp at h0 h1 h2 h3
    simp [h0, h1, h2, h3]
  | 1, _ =>
    have h1 := e 1 (by omega); have h2 := e 2 (by omega); have h3 := e 3 (by omega)
    simp at h1 h2 h3
    simp [List.range_succ, List.filter_cons, h1, h2, h3]
  | 2, _ =>
    have h2 := e 2 (by omega); have h3 := e 3 (by omega)
    simp at h2 h3
    simp [List.range_succ, List.filter_cons, h2, h3]
  | 3, _ =>
    have h3 := e 3 (by omega)
    simp at h3
    simp [List.range_succ, List.filter_cons, h3]
  | 4, _ => simp [List.range_succ, List.filter_cons]
theorem wtS_full (h : Inv t sc m) (hsc : VSc t sc) {who : Nat} {d : Dd} (hd : nextD sc m who = some d) : wtS t m who d sc.length = wtOne t sc m who := by
  unfold wtOne
  rw [hd]
  simp only
  unfold wtS
  rw [mark_range hsc.1 fun o ho => ?_]
  obtain ⟨y, _, hy⟩ := List.any_eq_true.1 ho
  obtain ⟨i, e, hi, _⟩ := h.held _ _ (lbF_holds h.tab (of_decide_eq_true hy))
  omega
theorem wtOne_none {who : Nat} (hd : nextD sc m who = none) : wtOne t sc m who = [] := by unfold wtOne; rw [hd]
theorem wtOne_some {who : Nat} {d : Dd} (hd : nextD sc m who = some d) : wtOne t sc m who = (markL (blkD t m who d)).map fun o => ⟨(who : Int), o⟩ := by unfold wtOne; rw [hd]
theorem wtF_le (hsc : VSc t sc) {k : Nat} (hk : k ≤ sc.length) : (wtF t sc m k).length ≤ 12 := by
  have := wtF_len (m := m) hsc k hk
  have := hsc.1
  omega
end

set_option maxHeartbeats 1000000 in
theorem marked_any (f : Int → Bool) (w : World) :
    Calls Tryd.prog 52 #[.agg #[.bool (f 0), .bool (f 1), .bool (f 2), .bool (f 3)]] w (IntsP w (markL f)) := by
  generalize h0 : f 0 = b0
  generalize h1 : f 1 = b1
  generalize h2 : f 2 = b2
  generalize h3 : f 3 = b3
  have hF : ∀ k : Nat, k < 4 → f k = (match k with | 0 => b0 | 1 => b1 | 2 => b2 | _ => b3) := by
    intro k hk
    match k, hk with
    | 0, _ => exact h0
    | 1, _ => exact h1
    | 2, _ => exact h2
    | 3, _ => exact h3
  have HF := Lib.hid hF
  have HM : Hid ((([0, 1, 2, 3] : List Int).take 4).filter f = markL f) := (rfl : _ = _)
  clear h0 h1 h2 h3 hF
  have i0 : ∀ w, (Instr.index 81 (.agg #[.bool b0, .bool b1, .bool b2, .bool b3]) (.int .i64 0)).run Tryd.prog w = .ok (.bool b0) w := fun _ => by kernel_rfl
  have i1 : ∀ w, (Instr.index 81 (.agg #[.bool b0, .bool b1, .bool b2, .bool b3]) (.int .i64 1)).run Tryd.prog w = .ok (.bool b1) w := fun _ => by kernel_rfl
  have i2 : ∀ w, (Instr.index 81 (.agg #[.bool b0, .bool b1, .bool b2, .bool b3]) (.int .i64 2)).run Tryd.prog w = .ok (.bool b2) w := fun _ => by kernel_rfl
  have i3 : ∀ w, (Instr.index 81 (.agg #[.bool b0, .bool b1, .bool b2, .bool b3]) (.int .i64 3)).run Tryd.prog w = .ok (.bool b3) w := fun _ => by kernel_rfl
  go_enter Tryd.func52, Tryd.ntmps52
  go_wp2_with fail
  go_loopw [3, 7] (fun v i wr => ∃ k : Nat, k ≤ 4 ∧ i = .int .i64 k ∧ Own cI 1 3 wr w.heap.size v ((([0, 1, 2, 3] : List Int).take k).filter f) ∧ Below w.heap.size w wr) (fun _ i _ => 4 - (intOf i).toNat)
  case atStart => exact ⟨0, Nat.zero_le _, rfl, Own.nil _ _, (Below.refl _ _).alloc (Nat.le_refl _) _⟩
  case round =>
    obtain ⟨k, hk, rfl, ho, hbl⟩ := hrel
    have hs := hbl.size
    by_cases hlt : k < 4
    case neg =>
      obtain rfl : k = 4 := by omega
      rw [HM.out] at ho
      go_wp2_with fail
      go_ret
      exact ⟨_, rfl, ho, hbl⟩
    have hml := mark_len f k
    have hf := HF.out k hlt
    obtain rfl | rfl | rfl | rfl : k = 0 ∨ k = 1 ∨ k = 2 ∨ k = 3 := by omega
    all_goals simp only at hf
    · cases b0
      · have HS := Lib.hid (mark_f hlt hf)
        clear hf
        go_wp2_with fail
        go_roundw
        case rel => exact ⟨1, by omega, by go_num, by rw [HS.out]; exact ho, hbl⟩
        case measure => simp [intOf]
      · have HS := Lib.hid (mark_t hlt hf)
        clear hf
        go_wp2_with (at_builtin; refine wpList_append_rd elI _ rfl (.tmp 12) (.tmp 14) rfl rfl (ho.alloc _) rfl (Rd_one _ #[.int .i64 0] 3 0 rfl) (by omega) (by simp; omega) ?_; intro v3 w3 ho3 hg3 _)
        have hb3 := below_own (hbl.alloc hs _) (ho.alloc (.cells #[.int .i64 0] 3)) hg3 (Nat.le_refl _) (by simp; omega)
        go_roundw
        case rel => exact ⟨1, by omega, by go_num, by rw [HS.out]; exact ho3, hb3⟩
        case measure => simp [intOf]
    · cases b1
      · have HS := Lib.hid (mark_f hlt hf)
        clear hf
        go_wp2_with fail
        go_roundw
        case rel => exact ⟨2, by omega, by go_num, by rw [HS.out]; exact ho, hbl⟩
        case measure => simp [intOf]
      · have HS := Lib.hid (mark_t hlt hf)
        clear hf
        go_wp2_with (at_builtin; refine wpList_append_rd elI _ rfl (.tmp 12) (.tmp 14) rfl rfl (ho.alloc _) rfl (Rd_one _ #[.int .i64 1] 3 1 rfl) (by omega) (by simp; omega) ?_; intro v3 w3 ho3 hg3 _)
        have hb3 := below_own (hbl.alloc hs _) (ho.alloc (.cells #[.int .i64 1] 3)) hg3 (Nat.le_refl _) (by simp; omega)
        go_roundw
        case rel => exact ⟨2, by omega, by go_num, by rw [HS.out]; exact ho3, hb3⟩
        case measure => simp [intOf]
    · cases b2
      · have HS := Lib.hid (mark_f hlt hf)
        clear hf
        go_wp2_with fail
        go_roundw
        case rel => exact ⟨3, by omega, by go_num, by rw [HS.out]; exact ho, hbl⟩
        case measure => simp [intOf]
      · have HS := Lib.hid (mark_t hlt hf)
        clear hf
        go_wp2_with (at_builtin; refine wpList_append_rd elI _ rfl (.tmp 12) (.tmp 14) rfl rfl (ho.alloc _) rfl (Rd_one _ #[.int .i64 2] 3 2 rfl) (by omega) (by simp; omega) ?_; intro v3 w3 ho3 hg3 _)
        have hb3 := below_own (hbl.alloc hs _) (ho.alloc (.cells #[.int .i64 2] 3)) hg3 (Nat.le_refl _) (by simp; omega)
        go_roundw
        case rel => exact ⟨3, by omega, by go_num, by rw [HS.out]; exact ho3, hb3⟩
        case measure => simp [intOf]
    · cases b3
      · have HS := Lib.hid (mark_f hlt hf)
        clear hf
        go_wp2_with fail
        go_roundw
        case rel => exact ⟨4, by omega, by go_num, by rw [HS.out]; exact ho, hbl⟩
        case measure => simp [intOf]
      · have HS := Lib.hid (mark_t hlt hf)
        clear hf
        go_wp2_with (at_builtin; refine wpList_append_rd elI _ rfl (.tmp 12) (.tmp 14) rfl rfl (ho.alloc _) rfl (Rd_one _ #[.int .i64 3] 3 3 rfl) (by omega) (by simp; omega) ?_; intro v3 w3 ho3 hg3 _)
        have hb3 := below_own (hbl.alloc hs _) (ho.alloc (.cells #[.int .i64 3] 3)) hg3 (Nat.le_refl _) (by simp; omega)
        go_roundw
        case rel => exact ⟨4, by omega, by go_num, by rw [HS.out]; exact ho3, hb3⟩
        case measure => simp [intOf]

def IntsR (w : World) (l : List Int) (e : Ending) (w' : World) : Prop := ∃ A m c, e = .returned (.slice A m c) ∧ m ≤ c ∧ Rd cI 1 w' w.heap.size A m l ∧ Below w.heap.size w w'
def LksQ (w : World) (l : List Lk) (e : Ending) (w' : World) : Prop := ∃ A m c, e = .returned (.slice A m c) ∧ m ≤ c ∧ Rd cL 3 w' w.heap.size A m l ∧ Below w.heap.size w w'
def WtsR (w : World) (l : List Wt) (e : Ending) (w' : World) : Prop := ∃ A m c, e = .returned (.slice A m c) ∧ m ≤ c ∧ Rd cW 2 w' w.heap.size A m l ∧ Below w.heap.size w w'
section
variable (lo lo2 lo3 : Nat) (A A2 A3 : Option Addr) (n c n2 c2 n3 c3 : Nat) (t : List Nd) (sc : List (List Dd)) (ps : List Int) (w : World)
theorem RunValues_any (hr : Rd cN 3 w lo A n t) (hc : n ≤ c) (hr2 : Rds cD 2 w lo2 A2 n2 sc) (hr3 : Rd cI 1 w lo3 A3 n3 ps) (hT : Tb w) :
    Calls Tryd.prog 32 #[.slice A n c, .slice A2 n2 c2, .slice A3 n3 c3] w (IntsR w (rvF t sc ps)) := by
  go_enter Tryd.func32, Tryd.ntmps32
  go_wp2_with fail
  refine (runAll_any lo lo2 lo3 A A2 A3 n c n2 c2 n3 c3 t sc ps w hr hc hr2 hr3 hT).mono ?_
  rintro e w1 (⟨hP, v1, v2, v3, v4, rfl, ⟨⟨B1, k1, d1, rfl, hd1, hr1⟩, ⟨B2, k2, d2, rfl, hd2, _⟩, ⟨B3, k3, d3, rfl, hd3, _⟩, ⟨B4, k4, d4, rfl, hd4, _⟩⟩, hb1⟩ | ⟨hP, rfl, hb1⟩)
  · have HE : Hid (rvF t sc ps = (runM t sc ps).vals) := onR_t hP _
    have HB := Lib.hid (hb1.alloc hb1.size (.cells #[.slice B1 k1 d1, .slice B2 k2 d2, .slice B3 k3 d3, .slice B4 k4 d4] 62))
    have HR := Lib.hid (hr1.alloc (.cells #[.slice B1 k1 d1, .slice B2 k2 d2, .slice B3 k3 d3, .slice B4 k4 d4] 62))
    clear hP hr1
    go_wp2_with fail
    go_ret
    exact ⟨_, _, _, rfl, hd1, by rw [HE.out]; exact HR.out, HB.out⟩
  · have HE : Hid (rvF t sc ps = []) := onR_f hP _
    have HB := Lib.hid (hb1.alloc hb1.size (.cells #[.slice none 0 0, .slice none 0 0, .slice none 0 0, .slice none 0 0] 62))
    clear hP
    go_wp2_with fail
    go_ret
    exact ⟨_, _, _, rfl, Nat.le_refl _, by rw [HE.out]; exact Rd.nil, HB.out⟩
theorem RunOrder_any (hr : Rd cN 3 w lo A n t) (hc : n ≤ c) (hr2 : Rds cD 2 w lo2 A2 n2 sc) (hr3 : Rd cI 1 w lo3 A3 n3 ps) (hT : Tb w) :
    Calls Tryd.prog 29 #[.slice A n c, .slice A2 n2 c2, .slice A3 n3 c3] w (IntsR w (roF t sc ps)) := by
  go_enter Tryd.func29, Tryd.ntmps29
  go_wp2_with fail
  refine (runAll_any lo lo2 lo3 A A2 A3 n c n2 c2 n3 c3 t sc ps w hr hc hr2 hr3 hT).mono ?_
  rintro e w1 (⟨hP, v1, v2, v3, v4, rfl, ⟨⟨B1, k1, d1, rfl, hd1, _⟩, ⟨B2, k2, d2, rfl, hd2, _⟩, ⟨B3, k3, d3, rfl, hd3, hr1⟩, ⟨B4, k4, d4, rfl, hd4, _⟩⟩, hb1⟩ | ⟨hP, rfl, hb1⟩)
  · have HE : Hid (roF t sc ps = (runM t sc ps).fin) := onR_t hP _
    have HB := Lib.hid (hb1.alloc hb1.size (.cells #[.slice B1 k1 d1, .slice B2 k2 d2, .slice B3 k3 d3, .slice B4 k4 d4] 62))
    have HR := Lib.hid (hr1.alloc (.cells #[.slice B1 k1 d1, .slice B2 k2 d2, .slice B3 k3 d3, .slice B4 k4 d4] 62))
    clear hP hr1
    go_wp2_with fail
    go_ret
    exact ⟨_, _, _, rfl, hd3, by rw [HE.out]; exact HR.out, HB.out⟩
  · have HE : Hid (roF t sc ps = []) := onR_f hP _
    have HB := Lib.hid (hb1.alloc hb1.size (.cells #[.slice none 0 0, .slice none 0 0, .slice none 0 0, .slice none 0 0] 62))
    clear hP
    go_wp2_with fail
    go_ret
    exact ⟨_, _, _, rfl, Nat.le_refl _, by rw [HE.out]; exact Rd.nil, HB.out⟩
theorem RunLocks_any (hr : Rd cN 3 w lo A n t) (hc : n ≤ c) (hr2 : Rds cD 2 w lo2 A2 n2 sc) (hr3 : Rd cI 1 w lo3 A3 n3 ps) (hT : Tb w) :
    Calls Tryd.prog 13 #[.slice A n c, .slice A2 n2 c2, .slice A3 n3 c3] w (LksQ w (rlF t sc ps)) := by
  go_enter Tryd.func13, Tryd.ntmps13
  go_wp2_with fail
  refine (runAll_any lo lo2 lo3 A A2 A3 n c n2 c2 n3 c3 t sc ps w hr hc hr2 hr3 hT).mono ?_
  rintro e w1 (⟨hP, v1, v2, v3, v4, rfl, ⟨⟨B1, k1, d1, rfl, hd1, _⟩, ⟨B2, k2, d2, rfl, hd2, _⟩, ⟨B3, k3, d3, rfl, hd3, _⟩, ⟨B4, k4, d4, rfl, hd4, hr1⟩⟩, hb1⟩ | ⟨hP, rfl, hb1⟩)
  · have HE : Hid (rlF t sc ps = (runM t sc ps).tab) := onR_t hP _
    have HB := Lib.hid (hb1.alloc hb1.size (.cells #[.slice B1 k1 d1, .slice B2 k2 d2, .slice B3 k3 d3, .slice B4 k4 d4] 62))
    have HR := Lib.hid (hr1.alloc (.cells #[.slice B1 k1 d1, .slice B2 k2 d2, .slice B3 k3 d3, .slice B4 k4 d4] 62))
    clear hP hr1
    go_wp2_with fail
    go_ret
    exact ⟨_, _, _, rfl, hd4, by rw [HE.out]; exact HR.out, HB.out⟩
  · have HE : Hid (rlF t sc ps = []) := onR_f hP _
    have HB := Lib.hid (hb1.alloc hb1.size (.cells #[.slice none 0 0, .slice none 0 0, .slice none 0 0, .slice none 0 0] 62))
    clear hP
    go_wp2_with fail
    go_ret
    exact ⟨_, _, _, rfl, Nat.le_refl _, by rw [HE.out]; exact Rd.nil, HB.out⟩
end

theorem Own.pop {w : World} {e : TypeId} {base m : Nat} {v : Value} {l : List Int} {x : Int} (h : Own cI 1 e w base v (l ++ [x])) (hv : ∃ g cap, v = .slice (some ⟨g, 0, none⟩) m cap) : ∃ g cap, v = .slice (some ⟨g, 0, none⟩) m cap ∧ m = l.length + 1 ∧ m ≤ cap ∧ Own cI 1 e w base (.slice (some ⟨g, 0, none⟩) (m - 1) cap) l := by
  obtain ⟨g, cap, rfl⟩ := hv
  rcases h.2 with ⟨h1, _⟩ | ⟨g2, cap2, cur, h1, h2, h3, h4, h5, h6, h7⟩
  · simp at h1
  · simp only [Value.slice.injEq, Option.some.injEq, Addr.mk.injEq, and_true] at h1
    obtain ⟨rfl, hm, rfl⟩ := h1
    simp only [List.length_append, List.length_cons, List.length_nil] at hm h4 h7
    refine ⟨_, _, rfl, by omega, by omega, by simp [flat_len (cs := cI) (sz := 1) (fun _ => rfl)], .inr ⟨g, cap, cur, ?_, h2, h3, by omega, h5, h6, ?_⟩⟩
    · rw [show m - 1 = l.length by omega]
    · have : cur.toList.take (l.length * 1) = (cur.toList.take ((l.length + 1) * 1)).take (l.length * 1) := by rw [List.take_take]; congr 1; omega
      rw [this, h7, List.flatMap_append]
      rw [List.take_append_of_le_length (by rw [flat_len (cs := cI) (sz := 1) (fun _ => rfl)]; exact Nat.le_refl _), List.take_of_length_le (by rw [flat_len (cs := cI) (sz := 1) (fun _ => rfl)]; exact Nat.le_refl _)]
theorem Own.pop' {w : World} {e : TypeId} {base m g cap : Nat} {l : List Int} {x : Int} (h : Own cI 1 e w base (.slice (some ⟨g, 0, none⟩) m cap) (l ++ [x])) : m = l.length + 1 ∧ m ≤ cap ∧ Own cI 1 e w base (.slice (some ⟨g, 0, none⟩) (m - 1) cap) l := by
  obtain ⟨g', cap', h1, h2, h3, h4⟩ := h.pop ⟨_, _, rfl⟩
  simp only [Value.slice.injEq, Option.some.injEq, Addr.mk.injEq, and_true, true_and] at h1
  obtain ⟨rfl, rfl⟩ := h1
  exact ⟨h2, h3, h4⟩
/-- What holds of the search: what is seen and what is still to be looked at. -/
structure Srch (l : List Wt) (who : Int) (g : Int → Bool) (S : List Int) : Prop where
  snd : ∀ x, g x = true → Rch l who x
  stk : ∀ x ∈ S, x = who ∨ g x = true
  cls : ∀ e ∈ l, (e.who = who ∨ g e.who = true) → e.who ∉ S → g e.tgt = true
structure Srch1 (l : List Wt) (who : Int) (a : Int) (k : Nat) (g : Int → Bool) (S : List Int) : Prop where
  snd : ∀ x, g x = true → Rch l who x
  top : a = who ∨ g a = true
  stk : ∀ x ∈ S, x = who ∨ g x = true
  cls : ∀ (i : Nat) (e : Wt), l[i]? = some e → (e.who = who ∨ g e.who = true) → e.who ∉ S → (e.who ≠ a ∨ i < k) → g e.tgt = true
theorem Srch.start {l : List Wt} {who : Int} : Srch l who (fun _ => false) [who] := ⟨fun _ h => (by cases h), fun x hx => (by simp at hx; exact .inl hx), fun e _ h hn => (by
  rcases h with h | h
  · exact absurd (by rw [h]; exact List.mem_cons_self ..) hn
  · cases h)⟩
theorem Srch.pop {l : List Wt} {who a : Int} {g : Int → Bool} {S : List Int} (h : Srch l who g (S ++ [a])) : Srch1 l who a 0 g S :=
  ⟨h.snd, h.stk a (by simp), fun x hx => h.stk x (by simp [hx]), fun i e he h1 h2 h3 => h.cls e (List.mem_of_getElem? he) h1 (by
    rcases h3 with h3 | h3
    · simp [h2, h3]
    · omega)⟩
theorem Srch1.done {l : List Wt} {who a : Int} {g : Int → Bool} {S : List Int} {n : Nat} (hn : l.length = n) (h : Srch1 l who a n g S) : Srch l who g S :=
  ⟨h.snd, h.stk, fun e he h1 h2 => by
    obtain ⟨i, hi⟩ := List.mem_iff_getElem?.1 he
    exact h.cls i e hi h1 h2 (.inr (by have := (List.getElem?_eq_some_iff.1 hi).1; omega))⟩
theorem Srch1.skip {l : List Wt} {who a : Int} {g : Int → Bool} {S : List Int} {k : Nat} {e : Wt} (h : Srch1 l who a k g S) (he : l[k]? = some e) (hs : e.who ≠ a ∨ g e.tgt = true) : Srch1 l who a (k + 1) g S :=
  ⟨h.snd, h.top, h.stk, fun i x hx h1 h2 h3 => by
    by_cases e1 : i = k
    · subst e1; rw [he] at hx; injection hx with hx; subst hx
      rcases hs with hs | hs
      · exact h.cls i _ he h1 h2 (.inl hs)
      · exact hs
    · exact h.cls i x hx h1 h2 (h3.imp id fun h => by omega)⟩
theorem Srch1.push {l : List Wt} {who a : Int} {g : Int → Bool} {S : List Int} {k : Nat} {e : Wt} (h : Srch1 l who a k g S) (he : l[k]? = some e) (ha : e.who = a) : Srch1 l who a (k + 1) (fun x => decide (e.tgt = x) || g x) (S ++ [e.tgt]) :=
  ⟨fun x hx => by
    simp only [Bool.or_eq_true, decide_eq_true_eq] at hx
    rcases hx with rfl | hx
    · rcases h.top with h1 | h1
      · have := Rch.one e (List.mem_of_getElem? he)
        rw [ha, h1] at this; exact this
      · exact Rch.more e who (List.mem_of_getElem? he) (by rw [ha]; exact h.snd a h1)
    · exact h.snd x hx, h.top.imp id fun h => by simp [h], fun x hx => by
      rcases List.mem_append.1 hx with hx | hx
      · exact (h.stk x hx).imp id fun h => by simp [h]
      · simp at hx; exact .inr (by simp [hx]), fun i x hx h1 h2 h3 => by
      simp only [List.mem_append, List.mem_singleton, not_or] at h2
      have h1' : x.who = who ∨ g x.who = true := h1.imp id fun h => by
        simp only [Bool.or_eq_true, decide_eq_true_eq] at h
        exact h.resolve_left fun e => h2.2 e.symm
      by_cases e1 : i = k
      · subst e1; rw [he] at hx; injection hx with hx; subst hx; simp
      · have := h.cls i x hx h1' h2.1 (h3.imp id fun h => by omega)
        simp [this]⟩
theorem Srch.all {l : List Wt} {who : Int} {g : Int → Bool} (h : Srch l who g []) (x : Int) : g x = true ↔ Rch l who x := by
  refine ⟨h.snd x, fun hr => ?_⟩
  have hg : ∀ a b, Rch l a b → a = who → g b = true := by
    intro a b hr
    induction hr with
    | one e he => exact fun ha => h.cls e he (.inl ha) (by simp)
    | more e a he _ ih => exact fun ha => h.cls e he (.inr (ih ha)) (by simp)
  exact hg _ _ hr rfl
def unF (g : Int → Bool) : Nat := (if g 0 then 0 else 1) + (if g 1 then 0 else 1) + (if g 2 then 0 else 1) + (if g 3 then 0 else 1)
theorem unF_push {g : Int → Bool} {k : Int} (h0 : 0 ≤ k) (h3 : k ≤ 3) (h : g k = false) : unF (fun x => decide (k = x) || g x) + 1 = unF g := by
  obtain rfl | rfl | rfl | rfl : k = 0 ∨ k = 1 ∨ k = 2 ∨ k = 3 := by omega
  all_goals (unfold unF; simp [h] <;> omega)
theorem marks_at (g : Int → Bool) {k : Nat} (hlt : k < 4) : (#[.bool (g 0), .bool (g 1), .bool (g 2), .bool (g 3)] : Array Value)[k]? = some (.bool (g k)) := by
  match k, hlt with
  | 0, _ => rfl
  | 1, _ => rfl
  | 2, _ => rfl
  | 3, _ => rfl
theorem marks_set (g : Int → Bool) {k : Nat} (hlt : k < 4) : (#[.bool (g 0), .bool (g 1), .bool (g 2), .bool (g 3)] : Array Value).setIfInBounds k (.bool true) =
    #[.bool (decide ((k : Int) = 0) || g 0), .bool (decide ((k : Int) = 1) || g 1), .bool (decide ((k : Int) = 2) || g 2), .bool (decide ((k : Int) = 3) || g 3)] := by
  match k, hlt with
  | 0, _ => rfl
  | 1, _ => rfl
  | 2, _ => rfl
  | 3, _ => rfl
/-- The unseen of a block of marks. -/
def unW (b : Nat) (w : World) : Nat := match w.heap[b]? with
  | some (.cells cs _ _) => cs.toList.countP fun v => match v with | .bool false => true | _ => false
  | _ => 0
theorem unW_eq {b : Nat} {w : World} {g : Int → Bool} {t : TypeId} (h : w.heap[b]? = some (.cells #[.bool (g 0), .bool (g 1), .bool (g 2), .bool (g 3)] t (0, 0))) : unW b w = unF g := by
  unfold unW unF
  rw [h]
  simp only
  cases g 0 <;> cases g 1 <;> cases g 2 <;> cases g 3 <;> rfl
theorem Rch.ends {l : List Wt} (hv : VW l) {a b : Int} (h : Rch l a b) : 0 ≤ b ∧ b ≤ 3 := by
  cases h with
  | one x hx => exact (hv.2 x hx).2.1
  | more x _ hx _ => exact (hv.2 x hx).2.1

section
variable (lo lo2 lo3 : Nat) (A A2 A3 : Option Addr) (n c n2 c2 n3 c3 : Nat) (t : List Nd) (sc : List (List Dd)) (ps : List Int) (w : World)
theorem RunValues_own (hr : Rd cN 3 w lo A n t) (hc : n ≤ c) (hr2 : Rds cD 2 w lo2 A2 n2 sc) (hr3 : Rd cI 1 w lo3 A3 n3 ps) (hT : Tb w) :
    Calls Tryd.prog 32 #[.slice A n c, .slice A2 n2 c2, .slice A3 n3 c3] w (IntsP w (rvF t sc ps)) := by
  go_enter Tryd.func32, Tryd.ntmps32
  go_wp2_with fail
  refine (runAll_own lo lo2 lo3 A A2 A3 n c n2 c2 n3 c3 t sc ps w hr hc hr2 hr3 hT).mono ?_
  rintro e w1 (⟨hP, v1, v2, v3, v4, rfl, ⟨⟨B1, k1, d1, rfl, hd1, _⟩, ⟨B2, k2, d2, rfl, hd2, _⟩, ⟨B3, k3, d3, rfl, hd3, _⟩, ⟨B4, k4, d4, rfl, hd4, _⟩⟩, hb1, hmo⟩ | ⟨hP, rfl, hb1⟩)
  · have HE : Hid (rvF t sc ps = (runM t sc ps).vals) := onR_t hP _
    have HB := Lib.hid (hb1.alloc hb1.size (.cells #[.slice B1 k1 d1, .slice B2 k2 d2, .slice B3 k3 d3, .slice B4 k4 d4] 62))
    have HR := Lib.hid (hmo.vals.alloc (.cells #[.slice B1 k1 d1, .slice B2 k2 d2, .slice B3 k3 d3, .slice B4 k4 d4] 62))
    clear hP hmo
    go_wp2_with fail
    go_ret
    exact ⟨_, rfl, by rw [HE.out]; exact HR.out, HB.out⟩
  · have HE : Hid (rvF t sc ps = []) := onR_f hP _
    have HB := Lib.hid (hb1.alloc hb1.size (.cells #[.slice none 0 0, .slice none 0 0, .slice none 0 0, .slice none 0 0] 62))
    clear hP
    go_wp2_with fail
    go_ret
    exact ⟨_, rfl, by rw [HE.out]; exact Own.nil _ _, HB.out⟩
theorem RunOrder_own (hr : Rd cN 3 w lo A n t) (hc : n ≤ c) (hr2 : Rds cD 2 w lo2 A2 n2 sc) (hr3 : Rd cI 1 w lo3 A3 n3 ps) (hT : Tb w) :
    Calls Tryd.prog 29 #[.slice A n c, .slice A2 n2 c2, .slice A3 n3 c3] w (IntsP w (roF t sc ps)) := by
  go_enter Tryd.func29, Tryd.ntmps29
  go_wp2_with fail
  refine (runAll_own lo lo2 lo3 A A2 A3 n c n2 c2 n3 c3 t sc ps w hr hc hr2 hr3 hT).mono ?_
  rintro e w1 (⟨hP, v1, v2, v3, v4, rfl, ⟨⟨B1, k1, d1, rfl, hd1, _⟩, ⟨B2, k2, d2, rfl, hd2, _⟩, ⟨B3, k3, d3, rfl, hd3, _⟩, ⟨B4, k4, d4, rfl, hd4, _⟩⟩, hb1, hmo⟩ | ⟨hP, rfl, hb1⟩)
  · have HE : Hid (roF t sc ps = (runM t sc ps).fin) := onR_t hP _
    have HB := Lib.hid (hb1.alloc hb1.size (.cells #[.slice B1 k1 d1, .slice B2 k2 d2, .slice B3 k3 d3, .slice B4 k4 d4] 62))
    have HR := Lib.hid (hmo.fin.alloc (.cells #[.slice B1 k1 d1, .slice B2 k2 d2, .slice B3 k3 d3, .slice B4 k4 d4] 62))
    clear hP hmo
    go_wp2_with fail
    go_ret
    exact ⟨_, rfl, by rw [HE.out]; exact HR.out, HB.out⟩
  · have HE : Hid (roF t sc ps = []) := onR_f hP _
    have HB := Lib.hid (hb1.alloc hb1.size (.cells #[.slice none 0 0, .slice none 0 0, .slice none 0 0, .slice none 0 0] 62))
    clear hP
    go_wp2_with fail
    go_ret
    exact ⟨_, rfl, by rw [HE.out]; exact Own.nil _ _, HB.out⟩
theorem RunLocks_own (hr : Rd cN 3 w lo A n t) (hc : n ≤ c) (hr2 : Rds cD 2 w lo2 A2 n2 sc) (hr3 : Rd cI 1 w lo3 A3 n3 ps) (hT : Tb w) :
    Calls Tryd.prog 13 #[.slice A n c, .slice A2 n2 c2, .slice A3 n3 c3] w (LksP w (rlF t sc ps)) := by
  go_enter Tryd.func13, Tryd.ntmps13
  go_wp2_with fail
  refine (runAll_own lo lo2 lo3 A A2 A3 n c n2 c2 n3 c3 t sc ps w hr hc hr2 hr3 hT).mono ?_
  rintro e w1 (⟨hP, v1, v2, v3, v4, rfl, ⟨⟨B1, k1, d1, rfl, hd1, _⟩, ⟨B2, k2, d2, rfl, hd2, _⟩, ⟨B3, k3, d3, rfl, hd3, _⟩, ⟨B4, k4, d4, rfl, hd4, _⟩⟩, hb1, hmo⟩ | ⟨hP, rfl, hb1⟩)
  · have HE : Hid (rlF t sc ps = (runM t sc ps).tab) := onR_t hP _
    have HB := Lib.hid (hb1.alloc hb1.size (.cells #[.slice B1 k1 d1, .slice B2 k2 d2, .slice B3 k3 d3, .slice B4 k4 d4] 62))
    have HR := Lib.hid (hmo.tab.alloc (.cells #[.slice B1 k1 d1, .slice B2 k2 d2, .slice B3 k3 d3, .slice B4 k4 d4] 62))
    clear hP hmo
    go_wp2_with fail
    go_ret
    exact ⟨_, rfl, by rw [HE.out]; exact HR.out, HB.out⟩
  · have HE : Hid (rlF t sc ps = []) := onR_f hP _
    have HB := Lib.hid (hb1.alloc hb1.size (.cells #[.slice none 0 0, .slice none 0 0, .slice none 0 0, .slice none 0 0] 62))
    clear hP
    go_wp2_with fail
    go_ret
    exact ⟨_, rfl, by rw [HE.out]; exact Own.nil _ _, HB.out⟩
end

theorem bel_nextW {w w1 w2 : World} {B : Nat} (h : Below w.heap.size w w1) (hb : Below B w1 w2) (hB : B = w1.heap.size := by rfl) : Below w.heap.size w w2 := by subst hB; exact h.trans (hb.mono h.size)
theorem elW2 : ElemT Tryd.prog cW 2 43 80 16 := mkElem (z := .agg #[.int .i64 0, .int .i64 0]) Tryd.underlying43 (by kernel_rfl) rfl (by omega) (by omega) (fun _ => rfl) one_W
theorem bool4 {f g : Int → Bool} (h : ∀ o, f o = g o) : (#[.bool (f 0), .bool (f 1), .bool (f 2), .bool (f 3)] : Array Value) = #[.bool (g 0), .bool (g 1), .bool (g 2), .bool (g 3)] := by rw [h 0, h 1, h 2, h 3]
def WtsP (w : World) (l : List Wt) (e : Ending) (w' : World) : Prop := ∃ v, e = .returned v ∧ Own cW 2 80 w' w.heap.size v l ∧ Below w.heap.size w w'
set_option maxRecDepth 100000 in
set_option maxHeartbeats 6400000 in
theorem RunWaits_own (lo lo2 lo3 : Nat) (A A2 A3 : Option Addr) (n c n2 c2 n3 c3 : Nat) (t : List Nd) (sc : List (List Dd)) (ps : List Int) (w : World) (hr : Rd cN 3 w lo A n t) (hc : n ≤ c) (hr2 : Rds cD 2 w lo2 A2 n2 sc) (hr3 : Rd cI 1 w lo3 A3 n3 ps) (hT : Tb w) :
    Calls Tryd.prog 24 #[.slice A n c, .slice A2 n2 c2, .slice A3 n3 c3] w (WtsP w (rwF t sc ps)) := by
  have hle2 := hr2.le
  go_enter Tryd.func24, Tryd.ntmps24
  go_wp2_with fail
  refine (runAll_any lo lo2 lo3 A A2 A3 n c n2 c2 n3 c3 t sc ps w hr hc hr2 hr3 hT).mono ?_
  rintro e w1 (⟨hP, v1, v2, v3, v4, rfl, ⟨⟨B1, k1, d1, rfl, hd1, _⟩, ⟨B2, k2, d2, rfl, hd2, hrP⟩, ⟨B3, k3, d3, rfl, hd3, _⟩, ⟨B4, k4, d4, rfl, hd4, hrT⟩⟩, hb1⟩ | ⟨hP, rfl, hb1⟩)
  case inr =>
    have HE : Hid (rwF t sc ps = []) := onR_f hP _
    have HB := Lib.hid (hb1.alloc hb1.size (.cells #[.slice none 0 0, .slice none 0 0, .slice none 0 0, .slice none 0 0] 62))
    clear hP
    go_wp2_with fail
    go_ret
    exact ⟨_, rfl, by rw [HE.out]; exact Own.nil _ _, HB.out⟩
  have HE : Hid (rwF t sc ps = wtF t sc (runM t sc ps) sc.length) := onR_t hP _
  have hI := hP.inv
  have hvt := hP.1
  have hsc := hP.2.1
  have HL2 := Lib.hid hr2.len
  have hn24 : n2 ≤ 4 := by have := hsc.1; have := HL2.out; omega
  generalize hm : runM t sc ps = m at *
  clear hm hP
  have HG0 := Lib.hid (heap_alloc_new w1 (.cells #[.slice B1 k1 d1, .slice B2 k2 d2, .slice B3 k3 d3, .slice B4 k4 d4] 62))
  have hbW := hb1.alloc hb1.size (.cells #[.slice B1 k1 d1, .slice B2 k2 d2, .slice B3 k3 d3, .slice B4 k4 d4] 62)
  have hr0 := (hr.below hb1).alloc (.cells #[.slice B1 k1 d1, .slice B2 k2 d2, .slice B3 k3 d3, .slice B4 k4 d4] 62)
  have hrs0 := (hr2.below hb1).alloc (.cells #[.slice B1 k1 d1, .slice B2 k2 d2, .slice B3 k3 d3, .slice B4 k4 d4] 62)
  have hT0 := (hT.below hb1).alloc (.cells #[.slice B1 k1 d1, .slice B2 k2 d2, .slice B3 k3 d3, .slice B4 k4 d4] 62)
  have hP0 := hrP.alloc (.cells #[.slice B1 k1 d1, .slice B2 k2 d2, .slice B3 k3 d3, .slice B4 k4 d4] 62)
  have hTb0 := hrT.alloc (.cells #[.slice B1 k1 d1, .slice B2 k2 d2, .slice B3 k3 d3, .slice B4 k4 d4] 62)
  clear hr hr2 hr3 hT hrP hrT
  go_wp2_with fail
  generalize hW0 : w1.alloc (.cells #[.slice B1 k1 d1, .slice B2 k2 d2, .slice B3 k3 d3, .slice B4 k4 d4] 62) = W0 at *
  clear hW0
  go_loopw [9, 30] (fun v i wr => ∃ j : Nat, j ≤ n2 ∧ i = .int .i64 j ∧ Own cW 2 80 wr W0.heap.size v (wtF t sc m j) ∧ Below W0.heap.size W0 wr) (fun _ i _ => n2 - (intOf i).toNat)
  case atStart => exact ⟨0, Nat.zero_le _, rfl, Own.nil _ _, Below.refl _ _⟩
  case round =>
    rename World => W1
    obtain ⟨j, hj, rfl, ho, hbl⟩ := hrel
    have hs := hbl.size
    by_cases hlt : j < n2
    case neg =>
      obtain rfl : j = n2 := by omega
      have hwl := wtF_le (m := m) (t := t) hsc (k := sc.length) (Nat.le_refl _)
      rw [← HL2.out] at ho
      obtain ⟨A9, m9, c9, rfl, hc9, _⟩ := id (ho.rdn elW2.len (by omega))
      have HR9 := Lib.hid ho
      clear ho hwl
      go_wp2_with fail
      go_ret
      exact ⟨_, rfl, by rw [HE.out]; exact HR9.out.low hbW.size, bel_nextW hbW hbl⟩
    have hjs : j < sc.length := by have := HL2.out; omega
    have HWS := Lib.hid (wtF_succ t sc m j)
    have HWL : Hid ((wtF t sc m j).length ≤ 12) := wtF_le hsc (by omega)
    have hG1 := blk_below HG0.out hbl
    have hG1l := blk_lt hG1
    have e1 := blk_cell hG1 (i := 1) rfl
    have e3 := blk_cell hG1 (i := 3) rfl
    obtain ⟨b, o, A', m', c', s, rfl, _, hb, hsx, g0, hmc, hrsw⟩ := (hrs0.below hbl).get hlt
    have hse : s = scr sc j := by rw [scr_get hjs] at hsx; injection hsx with hsx; exact hsx.symm
    subst hse
    have HM2 := Lib.hid hrsw.len
    have hjk : j < k2 := by have := hP0.len; have := hI.plen; omega
    have hjk' : (j : Int) < (k2 : Int) := by omega
    obtain ⟨bp, op, xp, rfl, _, hbp, hxp, p0⟩ := (hP0.below hbl).atI hjk
    obtain ⟨hp0, hp1⟩ := hI.prange j hjs
    obtain ⟨pn, hpn⟩ := Int.eq_ofNat_of_zero_le hp0
    have hxe : xp = pn := by
      rw [plc_get (by rw [hI.plen]; exact hjs)] at hxp
      injection hxp with hxp
      rw [← hxp]; exact hpn
    subst hxe
    have hpm : pn ≤ m' := by have := HM2.out; omega
    clear hsx hxp
    by_cases hd : pn = m'
    case pos =>
      have HN : Hid (wtF t sc m (j + 1) = wtF t sc m j) := by
        show _ = _
        rw [HWS.out, wtOne_none (nextD_end (by rw [hpn, hd]; have := HM2.out; omega)), List.append_nil]
      subst hd
      clear hrsw hG1
      go_wp2_with fail
      go_roundw
      case rel => exact ⟨j + 1, by omega, by go_num, by rw [HN.out]; exact ho, hbl⟩
      case measure => simp [intOf]; omega
    have hdn : ((pn : Int) == (m' : Int)) = false := by simp; omega
    obtain ⟨bx, ox, d, rfl, _, hbx, hx, x0, x1⟩ := hrsw.atD (k := pn) (by omega)
    have hnd := nextD_of hpn hx
    obtain ⟨hisn, hask, hok⟩ := do_ok hvt hsc hjs hnd
    have HWO := Lib.hid (wtOne_some (t := t) hnd)
    have HASK := Lib.hid hask
    have HISN := Lib.hid hisn
    have HBK := Lib.hid (heap_alloc_new W1 (.cells #[.bool false, .bool false, .bool false, .bool false] 81))
    have hbA := (Below.refl W1.heap.size W1).alloc (Nat.le_refl _) (.cells #[.bool false, .bool false, .bool false, .bool false] 81)
    have HLO := Lib.hid (locksOf_t lo A n c t j d (W1.alloc (.cells #[.bool false, .bool false, .bool false, .bool false] 81)) ((hr0.below hbl).alloc _) hc hisn hask)
    have hLl : (lkF t j d.node (modeF d)).length ≤ 5 := lkF_len hisn
    have HASKL : Hid (∀ x ∈ lkF t j d.node (modeF d), x.who = j) := fun x hx => lkF_who hx
    have HO := Lib.hid ho
    obtain ⟨dn, da⟩ := d
    simp only at x0 x1 HLO HISN HASK hLl HASKL
    have HBD : Hid (∀ q, blkD t m j ⟨dn, da⟩ q = (lkF t j dn (modeF ⟨dn, da⟩)).any fun x => decide (q ∈ lbF m.tab j x.node x.mode)) := fun q => rfl
    generalize hL : lkF t j dn (modeF ⟨dn, da⟩) = L at *
    clear hx hnd hisn hask hok hrsw hG1 hL ho
    go_wp2_with fail
    refine HLO.out.mono ?_
    rintro e w4 ⟨v4, rfl, ho4, hb4⟩
    obtain ⟨A5, m5, c5, rfl, hc5, hr5⟩ := id (ho4.rdn elL.len (by omega))
    have hB4 : Below W1.heap.size W1 w4 := hbA.trans (hb4.mono hbA.size)
    have hm5 : m5 ≤ 5 := by have := hr5.len; omega
    have HL5 := Lib.hid hr5.len
    have HM4 := Lib.hid (blk_below HBK.out hb4)
    have HO4 := Lib.hid (ho4.low (base' := W1.heap.size) (by simp))
    clear hr5 ho4
    go_wp2_with fail
    go_loopw [55] (fun i wr => ∃ (q : Nat) (f : Int → Bool), q ≤ m5 ∧ i = .int .i64 q ∧ Below W1.heap.size W1 wr ∧ Own cL 3 67 wr W1.heap.size (.slice A5 m5 c5) L ∧
      wr.heap[W1.heap.size]? = some (.cells #[.bool (f 0), .bool (f 1), .bool (f 2), .bool (f 3)] 81 (0, 0)) ∧ ∀ z, f z = (L.take q).any fun x => decide (z ∈ lbF m.tab j x.node x.mode)) (fun i _ => m5 - (intOf i).toNat)
    case atStart => exact ⟨0, fun _ => false, Nat.zero_le _, rfl, hB4, HO4.out, HM4.out, fun z => rfl⟩
    case round =>
      rename World => W2
      obtain ⟨q, f, hq, rfl, hbl2, hoL, hMk, hF⟩ := hrel
      have hs2 := hbl2.size
      have HF := Lib.hid hF
      clear hF
      by_cases hltq : q < m5
      case neg =>
        obtain rfl : q = m5 := by omega
        have HFB : Hid (f = blkD t m j ⟨dn, da⟩) := funext fun z => by rw [HF.out, HBD.out, List.take_of_length_le (by have := HL5.out; omega)]
        have z0 := blk_cell hMk (i := 0) rfl
        have z1 := blk_cell hMk (i := 1) rfl
        have z2 := blk_cell hMk (i := 2) rfl
        have z3 := blk_cell hMk (i := 3) rfl
        have HO2 := Lib.hid (HO.out.below hbl2)
        clear hMk hoL
        go_wp2_with fail
        refine (marked_any f _).mono ?_
        rintro e w6 ⟨v6, rfl, ho6, hb6⟩
        obtain ⟨A7, m7, c7, rfl, hc7, hr7⟩ := id (ho6.rdn elI.len (by have := markL_len f; omega))
        have hm7 : m7 ≤ 4 := by have := hr7.len; have := markL_len f; omega
        have HL7 := Lib.hid hr7.len
        have HO6 := Lib.hid (HO2.out.below hb6)
        have HI6 := Lib.hid ho6
        have hB6 := hbl.trans ((hbl2.trans (hb6.mono hs2)).mono hs)
        have hs6 := hb6.size
        clear ho6 hr7
        go_wp2_with fail
        go_loopw [9, 79] (fun v i wr => ∃ z : Nat, z ≤ m7 ∧ i = .int .i64 z ∧ Own cW 2 80 wr W0.heap.size v (wtF t sc m j ++ (((markL f).take z).map fun o => (⟨(j : Int), o⟩ : Wt))) ∧ Own cI 1 3 wr W2.heap.size (.slice A7 m7 c7) (markL f) ∧ Below W0.heap.size W0 wr) (fun _ i _ => m7 - (intOf i).toNat)
        case atStart => exact ⟨0, Nat.zero_le _, rfl, by simpa using HO6.out, HI6.out, hB6⟩
        case round =>
          rename World => W3
          obtain ⟨z, hz, rfl, ho3, hoI, hbl3⟩ := hrel
          have hs3 := hbl3.size
          by_cases hltz : z < m7
          case neg =>
            obtain rfl : z = m7 := by omega
            have HN : Hid (wtF t sc m (j + 1) = wtF t sc m j ++ (((markL f).take z).map fun o => (⟨(j : Int), o⟩ : Wt))) := by
              show _ = _
              rw [HWS.out, HWO.out, ← HFB.out, List.take_of_length_le (by have := HL7.out; omega)]
            go_wp2_with fail
            go_roundw
            case rel => exact ⟨j + 1, by omega, by go_num, by rw [HN.out]; exact ho3, hbl3⟩
            case measure => simp [intOf]; omega
          obtain ⟨_, hrd⟩ := hoI.rds elI.len (by have := markL_len f; omega)
          obtain ⟨b7, o7, x7, hA7, _, _, hx7, y0⟩ := hrd.atI hltz
          subst hA7
          have HTS : Hid ((markL f).take (z + 1) = (markL f).take z ++ [x7]) := take_snoc hx7
          have HLW : Hid ((wtF t sc m j ++ (((markL f).take z).map fun o => (⟨(j : Int), o⟩ : Wt))).length ≤ 16) := by
            show _ ≤ _
            have h1 := HWL.out
            have h2 := markL_len f
            rw [List.length_append, List.length_map, List.length_take]
            omega
          clear hx7 hrd
          go_wp2_with (at_builtin; refine wpList_append_rd elW2 _ rfl (.tmp 83) (.tmp 87) rfl rfl (ho3.alloc _) rfl (Rd_one W3 #[.int .i64 j, .int .i64 x7] 80 (⟨(j : Int), x7⟩ : Wt) rfl) (by have := HLW.out; omega) (by simp; omega) ?_; intro v8 w8 ho8 hg8 _)
          have hB8 := below_own (hbl3.alloc hs3 _) (ho3.alloc (.cells #[.int .i64 j, .int .i64 x7] 80)) hg8 (Nat.le_refl _) (by simp; omega)
          have hI8 := (hoI.alloc (.cells #[.int .i64 j, .int .i64 x7] 80)).grown' hg8 (Own.ap (hoI.alloc (.cells #[.int .i64 j, .int .i64 x7] 80)) (ho3.alloc (.cells #[.int .i64 j, .int .i64 x7] 80)) (by decide))
          go_roundw
          case rel => exact ⟨z + 1, by omega, by go_num, by rw [HTS.out, List.map_append, ← List.append_assoc]; exact ho8, hI8, hB8⟩
          case measure => simp [intOf]; omega
      obtain ⟨_, hrL⟩ := hoL.rds elL.len (by omega)
      obtain ⟨b5, o5, x, hA5, _, hb5, hx5, l0, l1, l2⟩ := hrL.atL hltq
      subst hA5
      have hxw := HASKL.out x (List.mem_of_getElem? hx5)
      have HTS : Hid (L.take (q + 1) = L.take q ++ [x]) := take_snoc hx5
      obtain ⟨xw, xn, xm⟩ := x
      simp only at l0 l1 l2 hxw
      subst hxw
      have hbX := hbl.trans (hbl2.mono hs)
      have HLB := Lib.hid (LockBlockers_any _ B4 k4 d4 m.tab j xn xm (W2.alloc (.cells #[.int .i64 j, .int .i64 xn, .int .i64 xm] 67)) ((hTb0.below hbX).alloc _) hd4 ((hT0.below hbX).alloc _))
      have hG2 := blk_below HG0.out hbX
      have hG2l := blk_lt hG2
      have t3 := blk_cell hG2 (i := 3) rfl
      have HMk := Lib.hid (blk_alloc hMk (.cells #[.int .i64 j, .int .i64 xn, .int .i64 xm] 67))
      have HoL := Lib.hid (hoL.alloc (.cells #[.int .i64 j, .int .i64 xn, .int .i64 xm] 67))
      have hbL := hbl2.alloc hs2 (.cells #[.int .i64 j, .int .i64 xn, .int .i64 xm] 67)
      have HYB : Hid (∀ y ∈ lbF m.tab j xn xm, 0 ≤ y ∧ y ≤ 3) := fun y hy => (lbF_mem hy).1
      have hYl : (lbF m.tab j xn xm).length ≤ 3 := lbF_len3 ⟨by omega, by omega⟩
      clear hx5 hrL hMk hoL hG2
      go_wp2_with fail
      refine HLB.out.mono ?_
      rintro e w5 ⟨v5, rfl, ho5, hb5'⟩
      obtain ⟨A6, m6, c6, rfl, hc6, hr6⟩ := id (ho5.rdn elI.len (by omega))
      have hm6 : m6 ≤ 3 := by have := hr6.len; omega
      have HL6 := Lib.hid hr6.len
      have hB5 : Below W1.heap.size W1 w5 := hbL.trans (hb5'.mono hbL.size)
      have HM5 := Lib.hid (blk_below HMk.out hb5')
      have HoL5 := Lib.hid (HoL.out.below hb5')
      have HY5 := Lib.hid (ho5.low (base' := W1.heap.size) (by simp; omega))
      clear hr6 ho5 t3
      go_wp2_with fail
      go_loopw [68] (fun i wr => ∃ (z : Nat) (f' : Int → Bool), z ≤ m6 ∧ i = .int .i64 z ∧ Below W1.heap.size W1 wr ∧ Own cL 3 67 wr W1.heap.size (.slice (some ⟨b5, o5, none⟩) m5 c5) L ∧ Own cI 1 3 wr W1.heap.size (.slice A6 m6 c6) (lbF m.tab j xn xm) ∧
        wr.heap[W1.heap.size]? = some (.cells #[.bool (f' 0), .bool (f' 1), .bool (f' 2), .bool (f' 3)] 81 (0, 0)) ∧ ∀ y, f' y = (f y || decide (y ∈ (lbF m.tab j xn xm).take z))) (fun i _ => m6 - (intOf i).toNat)
      case atStart => exact ⟨0, f, Nat.zero_le _, rfl, hB5, HoL5.out, HY5.out, HM5.out, fun y => by simp⟩
      case round =>
        rename World => W3
        obtain ⟨z, f', hz, rfl, hbl3, hoL3, hoY, hMk3, hF3⟩ := hrel
        have hs3 := hbl3.size
        have HF3 := Lib.hid hF3
        clear hF3
        by_cases hltz : z < m6
        case neg =>
          obtain rfl : z = m6 := by omega
          have HN : Hid (∀ y, f' y = (L.take (q + 1)).any fun x => decide (y ∈ lbF m.tab j x.node x.mode)) := fun y => by
            have e : (lbF m.tab j xn xm).take z = lbF m.tab j xn xm := List.take_of_length_le (by have := HL6.out; omega)
            rw [HF3.out, e, HF.out, HTS.out, List.any_append]
            simp
          have HMk3 := Lib.hid hMk3
          clear hMk3 hoY
          go_wp2_with fail
          go_roundw
          case rel => exact ⟨q + 1, f', by omega, by go_num, hbl3, hoL3, HMk3.out, HN.out⟩
          case measure => simp [intOf]; omega
        obtain ⟨_, hrY⟩ := hoY.rds elI.len (by omega)
        obtain ⟨b6, o6, y, hA6, _, hb6, hy, y0⟩ := hrY.atI hltz
        subst hA6
        obtain ⟨hy0, hy3⟩ := HYB.out y (List.mem_of_getElem? hy)
        obtain ⟨yn, rfl⟩ := Int.eq_ofNat_of_zero_le hy0
        have hyn : yn < 4 := by omega
        have hyn' : (yn : Int) < 4 := by omega
        have HTY : Hid ((lbF m.tab j xn xm).take (z + 1) = (lbF m.tab j xn xm).take z ++ [(yn : Int)]) := take_snoc hy
        have z0 := blk_free hMk3 yn
        have z1 := blk_cell hMk3 (marks_at f' hyn)
        have HSET := Lib.hid ((blk_set hMk3 yn (.bool true)).trans (by rw [marks_set f' hyn]))
        have HNF : Hid (∀ v, (decide ((yn : Int) = v) || f' v) = (f v || decide (v ∈ (lbF m.tab j xn xm).take (z + 1)))) := fun v => by
          rw [HF3.out, HTY.out]
          by_cases e : (yn : Int) = v
          · subst e; simp
          · have e' : ¬ v = (yn : Int) := fun h => e h.symm
            simp [e, e']
        have HoL4 := Lib.hid (hoL3.keepb hMk3 (by decide) yn (.bool true))
        have HoY4 := Lib.hid (hoY.keepb hMk3 (by decide) yn (.bool true))
        have hB4' := hbl3.setCell (p := ⟨W1.heap.size, yn, none⟩) (Nat.le_refl _) (.bool true)
        clear hy hrY hMk3 hoL3 hoY
        go_wp2_with fail
        go_roundw
        case rel => exact ⟨z + 1, fun v => decide ((yn : Int) = v) || f' v, by omega, by go_num, hB4', HoL4.out, HoY4.out, HSET.out, HNF.out⟩
        case measure => simp [intOf]; omega
theorem RunWaits_any (lo lo2 lo3 : Nat) (A A2 A3 : Option Addr) (n c n2 c2 n3 c3 : Nat) (t : List Nd) (sc : List (List Dd)) (ps : List Int) (w : World) (hr : Rd cN 3 w lo A n t) (hc : n ≤ c) (hr2 : Rds cD 2 w lo2 A2 n2 sc) (hr3 : Rd cI 1 w lo3 A3 n3 ps) (hT : Tb w) :
    Calls Tryd.prog 24 #[.slice A n c, .slice A2 n2 c2, .slice A3 n3 c3] w (WtsR w (rwF t sc ps)) :=
  (RunWaits_own lo lo2 lo3 A A2 A3 n c n2 c2 n3 c3 t sc ps w hr hc hr2 hr3 hT).mono fun _ _ ⟨v, e, ho, hb⟩ => by
    obtain ⟨A9, m9, c9, rfl, hc9, hr9⟩ := ho.rdn elW2.len (by have := rwF_len (t := t) (sc := sc) (ps := ps); omega)
    exact ⟨A9, m9, c9, e, hc9, hr9, hb⟩

/-- A list of numbers lies in no block of slices. -/
theorem Rd.setNe {α : Type} {cs : α → List Value} {sz : Nat} {w : World} {lo n g i : Nat} {A : Option Addr} {l : List α} {u : Value} {cells : Array Value} {t : TypeId} (h : Rd cs sz w lo A n l) (hns : ∀ x : α, ∃ z, (cs x)[0]? = some (.int .i64 z))
    (hb : w.heap[g]? = some (.cells cells t (0, 0))) (hcs : ∀ (k : Nat) (z : Int), cells[k]? ≠ some (.int .i64 z)) : Rd cs sz (w.setCell ⟨g, i, none⟩ u) lo A n l := by
  refine ⟨h.1, h.2.1, fun hn => ?_⟩
  obtain ⟨b, o, e, hlo, hbl, hc⟩ := h.2.2 hn
  have hl0 : 0 < l.length := by rw [h.1]; exact hn
  have h0 : l[0]? = some (l[0]'hl0) := List.getElem?_eq_getElem hl0
  obtain ⟨z, hz⟩ := hns (l[0]'hl0)
  have hcell := hc 0 _ h0 0 _ hz
  have hne : b ≠ g := by
    rintro rfl
    rw [cell_of_row w b _ cells t (0, 0) hb] at hcell
    exact hcs _ _ hcell
  exact ⟨b, o, e, hlo, by simpa [World.setCell] using hbl, fun k x hx j v hv => (World.cell?_of_block (Below.heap_setCell _ _ _ _ (by show b ≠ g; exact hne))).trans (hc k x hx j v hv)⟩
theorem no_int (A1 A2 A3 A4 : Option Addr) (n1 n2 n3 n4 c1 c2 c3 c4 : Nat) : ∀ (k : Nat) (z : Int), (#[.slice A1 n1 c1, .slice A2 n2 c2, .slice A3 n3 c3, .slice A4 n4 c4] : Array Value)[k]? ≠ some (.int .i64 z) := by
  intro k z h
  match k, h with
  | 0, h | 1, h | 2, h | 3, h => simp at h
  | k + 4, h => simp at h
theorem MacR.setNe {w : World} {lo g i : Nat} {v1 v2 v3 v4 u : Value} {m : Mc} {cells : Array Value} {t : TypeId} (h : MacR w lo v1 v2 v3 v4 m) (hb : w.heap[g]? = some (.cells cells t (0, 0))) (hcs : ∀ (k : Nat) (z : Int), cells[k]? ≠ some (.int .i64 z)) : MacR (w.setCell ⟨g, i, none⟩ u) lo v1 v2 v3 v4 m := by
  obtain ⟨⟨A1, n1, c1, e1, h1, r1⟩, ⟨A2, n2, c2, e2, h2, r2⟩, ⟨A3, n3, c3, e3, h3, r3⟩, ⟨A4, n4, c4, e4, h4, r4⟩⟩ := h
  exact ⟨⟨A1, n1, c1, e1, h1, r1.setNe (fun x => ⟨x, rfl⟩) hb hcs⟩, ⟨A2, n2, c2, e2, h2, r2.setNe (fun x => ⟨x, rfl⟩) hb hcs⟩, ⟨A3, n3, c3, e3, h3, r3.setNe (fun x => ⟨x, rfl⟩) hb hcs⟩, ⟨A4, n4, c4, e4, h4, r4.setNe (fun x => ⟨x.who, rfl⟩) hb hcs⟩⟩
theorem MacR.set4 {w : World} {lo g : Nat} {v1 v2 v3 v4 : Value} {m : Mc} {A1 A2 A3 A4 B1 B2 B3 B4 : Option Addr} {n1 n2 n3 n4 c1 c2 c3 c4 k1 k2 k3 k4 d1 d2 d3 d4 : Nat} {t : TypeId} (h : MacR w lo v1 v2 v3 v4 m) (hb : w.heap[g]? = some (.cells #[.slice A1 n1 c1, .slice A2 n2 c2, .slice A3 n3 c3, .slice A4 n4 c4] t (0, 0))) :
    MacR ((((w.setCell ⟨g, 0, none⟩ (.slice B1 k1 d1)).setCell ⟨g, 1, none⟩ (.slice B2 k2 d2)).setCell ⟨g, 2, none⟩ (.slice B3 k3 d3)).setCell ⟨g, 3, none⟩ (.slice B4 k4 d4)) lo v1 v2 v3 v4 m ∧
    ((((w.setCell ⟨g, 0, none⟩ (.slice B1 k1 d1)).setCell ⟨g, 1, none⟩ (.slice B2 k2 d2)).setCell ⟨g, 2, none⟩ (.slice B3 k3 d3)).setCell ⟨g, 3, none⟩ (.slice B4 k4 d4)).heap[g]? = some (.cells #[.slice B1 k1 d1, .slice B2 k2 d2, .slice B3 k3 d3, .slice B4 k4 d4] t (0, 0)) := by
  have b1 := blk_set hb 0 (.slice B1 k1 d1)
  have b2 := blk_set b1 1 (.slice B2 k2 d2)
  have b3 := blk_set b2 2 (.slice B3 k3 d3)
  have b4 := blk_set b3 3 (.slice B4 k4 d4)
  exact ⟨(((h.setNe hb (no_int A1 A2 A3 A4 n1 n2 n3 n4 c1 c2 c3 c4)).setNe b1 (no_int B1 A2 A3 A4 k1 n2 n3 n4 d1 c2 c3 c4)).setNe b2 (no_int B1 B2 A3 A4 k1 k2 n3 n4 d1 d2 c3 c4)).setNe b3 (no_int B1 B2 B3 A4 k1 k2 k3 n4 d1 d2 d3 c4), b4.trans (by rfl)⟩

set_option maxRecDepth 100000 in
set_option maxHeartbeats 6400000 in
theorem run_t (lo lo2 lo3 : Nat) (A A2 A3 : Option Addr) (n c n2 c2 n3 c3 : Nat) (t : List Nd) (sc : List (List Dd)) (ps : List Int) (w : World) (hvr : VR t sc ps) (hr : Rd cN 3 w lo A n t) (hr2 : Rds cD 2 w lo2 A2 n2 sc) (hr3 : Rd cI 1 w lo3 A3 n3 ps) :
    Calls Tryd.prog 36 #[.slice A n c, .slice A2 n2 c2, .slice A3 n3 c3] w (PickO w w.heap.size (runM t sc ps)) := by
  have HL := Lib.hid hr.len
  have HL2 := Lib.hid hr2.len
  have HL3 := Lib.hid hr3.len
  have hn12 : n ≤ 12 := by have := hvr.1.2.1; have := HL.out; omega
  have hn24 : n2 ≤ 4 := by have := hvr.2.1.1; have := HL2.out; omega
  have hle3 := hr3.le
  have HVR := Lib.hid hvr
  have hbA := bel_alloc (Below.refl w.heap.size w) (.cells #[.slice none 0 0, .slice none 0 0, .slice none 0 0, .slice none 0 0] 55)
  have hRB := heap_alloc_new w (.cells #[.slice none 0 0, .slice none 0 0, .slice none 0 0, .slice none 0 0] 55)
  have HS := Lib.hid (start_t lo lo2 A A2 n c n2 c2 t sc (w.alloc (.cells #[.slice none 0 0, .slice none 0 0, .slice none 0 0, .slice none 0 0] 55)) (hr.alloc _) (hr2.alloc _) (by omega) (by omega))
  clear hvr
  go_enter Tryd.func36, Tryd.ntmps36
  go_wp2_with fail
  refine HS.out.mono ?_
  rintro e w1 ⟨v1, v2, v3, v4, rfl, hM1, hb1⟩
  obtain ⟨⟨B1, k1, d1, rfl, hd1, _⟩, ⟨B2, k2, d2, rfl, hd2, _⟩, ⟨B3, k3, d3, rfl, hd3, _⟩, ⟨B4, k4, d4, rfl, hd4, _⟩⟩ := id hM1
  have hB1 := bel_next hbA hb1
  have hs1 := hB1.size
  have hR1 := blk_below hRB hb1
  have hl1 := blk_lt hR1
  have hG2 := heap_alloc_new w1 (.cells #[.slice B1 k1 d1, .slice B4 k4 d4, .slice B2 k2 d2, .slice B3 k3 d3] 55)
  have hR2 := blk_alloc hR1 (.cells #[.slice B1 k1 d1, .slice B4 k4 d4, .slice B2 k2 d2, .slice B3 k3 d3] 55)
  have hM2 := (hM1.low (by simp : w.heap.size ≤ _)).below ((Below.refl w1.heap.size w1).alloc (Nat.le_refl _) (.cells #[.slice B1 k1 d1, .slice B4 k4 d4, .slice B2 k2 d2, .slice B3 k3 d3] 55))
  have hB2 := bel_alloc hB1 (.cells #[.slice B1 k1 d1, .slice B4 k4 d4, .slice B2 k2 d2, .slice B3 k3 d3] 55)
  clear hM1 hb1 hRB hbA HS
  go_wp2_with fail
  go_loopw [8] (fun i wr => ∃ (j : Nat) (C1 C2 C3 C4 : Option Addr) (q1 q2 q3 q4 e1 e2 e3 e4 : Nat), j ≤ n3 ∧ i = .int .i64 j ∧ MacR wr w.heap.size (.slice C1 q1 e1) (.slice C2 q2 e2) (.slice C3 q3 e3) (.slice C4 q4 e4) (runM t sc (ps.take j)) ∧
      wr.heap[w1.heap.size]? = some (.cells #[.slice C1 q1 e1, .slice C4 q4 e4, .slice C2 q2 e2, .slice C3 q3 e3] 55 (0, 0)) ∧ wr.heap[w.heap.size]? = some (.cells #[.slice none 0 0, .slice none 0 0, .slice none 0 0, .slice none 0 0] 55 (0, 0)) ∧ Below w.heap.size w wr) (fun i _ => n3 - (intOf i).toNat)
  case atStart => exact ⟨0, _, _, _, _, _, _, _, _, _, _, _, _, Nat.zero_le _, rfl, by rw [List.take_zero, runM_zero]; exact hM2, hG2, hR2, hB2⟩
  case round =>
    rename World => W1
    obtain ⟨j, C1, C2, C3, C4, q1, q2, q3, q4, e1, e2, e3, e4, hj, rfl, hM, hG, hR, hbl⟩ := hrel
    have hs := hbl.size
    by_cases hlt : j < n3
    case neg =>
      obtain rfl : j = n3 := by omega
      have hall : ps.take j = ps := List.take_of_length_le (by have := HL3.out; omega)
      rw [hall] at hM
      have f0 := blk_cell hG (i := 0) rfl
      have f1 := blk_cell hG (i := 1) rfl
      have f2 := blk_cell hG (i := 2) rfl
      have f3 := blk_cell hG (i := 3) rfl
      have y0 := blk_cell hR (i := 0) rfl
      have y1 := blk_cell hR (i := 1) rfl
      have y2 := blk_cell hR (i := 2) rfl
      have y3 := blk_cell hR (i := 3) rfl
      have yf := blk_free hR
      have HMM := Lib.hid (hM.set4 (B1 := C1) (B2 := C4) (B3 := C2) (B4 := C3) (k1 := q1) (k2 := q4) (k3 := q2) (k4 := q3) (d1 := e1) (d2 := e4) (d3 := e2) (d4 := e3) hR)
      clear hM hG hR hall
      go_wp2_with fail
      have r0 := blk_cell HMM.out.2 (i := 0) rfl
      have r1 := blk_cell HMM.out.2 (i := 1) rfl
      have r2 := blk_cell HMM.out.2 (i := 2) rfl
      have r3 := blk_cell HMM.out.2 (i := 3) rfl
      refine bodyPost_ret (v := .agg #[.slice C1 q1 e1, .slice C4 q4 e4, .slice C2 q2 e2, .slice C3 q3 e3]) (by simp [results, Tryd.results36, go_sem, r0, r1, r2, r3]) rfl ?_
      exact ⟨_, _, _, _, rfl, HMM.out.1, (((hbl.setCell (p := ⟨w.heap.size, 0, none⟩) (Nat.le_refl _) _).setCell (p := ⟨w.heap.size, 1, none⟩) (Nat.le_refl _) _).setCell (p := ⟨w.heap.size, 2, none⟩) (Nat.le_refl _) _).setCell (p := ⟨w.heap.size, 3, none⟩) (Nat.le_refl _) _⟩
    obtain ⟨b, o, p, rfl, _, hb, hx, p0⟩ := (hr3.below hbl).atI hlt
    have hp := HVR.out.2.2.2 p (List.mem_of_getElem? hx)
    obtain ⟨who, rfl⟩ := Int.eq_ofNat_of_zero_le hp.1
    have hinv : Inv t sc (runM t sc (ps.take j)) := Inv.runM HVR.out.1 HVR.out.2.1 fun p hp => HVR.out.2.2.2 p (List.mem_of_mem_take hp)
    have HP : Hid (∀ w' : World, Below W1.heap.size W1 w' → Calls Tryd.prog 58 #[.slice A n c, .slice A2 n2 c2, .agg #[.slice C1 q1 e1, .slice C4 q4 e4, .slice C2 q2 e2, .slice C3 q3 e3], .int .i64 (who : Int)] w' (PickO w' w.heap.size (pickM t sc (runM t sc (ps.take j)) who))) := fun w' hb' =>
      pickS_t w.heap.size lo lo2 _ _ _ _ _ t sc who A A2 n c n2 c2 w' HVR.out.1 HVR.out.2.1 hinv (by have := hp.2; omega) (hM.below hb') (by have := hb'.size; omega) ((hr.below hbl).below hb') ((hr2.below hbl).below hb')
    have HSN := Lib.hid (runM_snoc (t := t) (sc := sc) hx)
    have f0 := blk_cell hG (i := 0) rfl
    have f1 := blk_cell hG (i := 1) rfl
    have f2 := blk_cell hG (i := 2) rfl
    have f3 := blk_cell hG (i := 3) rfl
    have hne : Hid (w.heap.size ≠ w1.heap.size) := by show _ ≠ _; omega
    have HG := Lib.hid hG
    have HR := Lib.hid hR
    clear hM hx hinv hG hR hp
    go_wp2_with fail
    go_region_with (first | (go_simp; go_at_call 58; refine (HP.out W1.drew (Below.refl W1.heap.size W1).drew).mono ?_; rintro e w5 ⟨u1, u2, u3, u4, rfl, hM5, hb5⟩; obtain ⟨⟨D1, r1, s1, rfl, hs1', _⟩, ⟨D2, r2, s2, rfl, hs2', _⟩, ⟨D3, r3, s3, rfl, hs3', _⟩, ⟨D4, r4, s4, rfl, hs4', _⟩⟩ := id hM5; have hG5 := blk_below (w := W1.drew) HG.out hb5; have z0 := blk_cell hG5 (i := 0) rfl; have z1 := blk_cell hG5 (i := 1) rfl; have z2 := blk_cell hG5 (i := 2) rfl; have z3 := blk_cell hG5 (i := 3) rfl; have zf := blk_free hG5))
    all_goals (
      have hR5 := blk_below (w := W1.drew) HR.out hb5
      have hB5 := bel_next hbl.drew hb5
      have h4 := hM5.set4 (B1 := D1) (B2 := D4) (B3 := D2) (B4 := D3) (k1 := r1) (k2 := r4) (k3 := r2) (k4 := r3) (d1 := s1) (d2 := s4) (d3 := s2) (d4 := s3) hG5
      have HM' : Hid (MacR ((((w5.setCell ⟨w1.heap.size, 0, none⟩ (.slice D1 r1 s1)).setCell ⟨w1.heap.size, 1, none⟩ (.slice D4 r4 s4)).setCell ⟨w1.heap.size, 2, none⟩ (.slice D2 r2 s2)).setCell ⟨w1.heap.size, 3, none⟩ (.slice D3 r3 s3)) w.heap.size (.slice D1 r1 s1) (.slice D2 r2 s2) (.slice D3 r3 s3) (.slice D4 r4 s4) (runM t sc (ps.take (j + 1)))) := by
        show MacR _ _ _ _ _ _ _
        rw [HSN.out, Int.toNat_natCast]; exact h4.1
      have HG' := Lib.hid h4.2
      have HR' := Lib.hid (blk_setne (blk_setne (blk_setne (blk_setne hR5 hne.out 0 (.slice D1 r1 s1)) hne.out 1 (.slice D4 r4 s4)) hne.out 2 (.slice D2 r2 s2)) hne.out 3 (.slice D3 r3 s3))
      have HB' := Lib.hid ((((hB5.setCell (p := ⟨w1.heap.size, 0, none⟩) hs1 (.slice D1 r1 s1)).setCell (p := ⟨w1.heap.size, 1, none⟩) hs1 (.slice D4 r4 s4)).setCell (p := ⟨w1.heap.size, 2, none⟩) hs1 (.slice D2 r2 s2)).setCell (p := ⟨w1.heap.size, 3, none⟩) hs1 (.slice D3 r3 s3))
      clear h4 hR5 hG5 hM5 z0 z1 z2 z3 zf
      go_wp2_with fail
      go_roundw
      case rel => exact ⟨j + 1, D1, D2, D3, D4, r1, r2, r3, r4, s1, s2, s3, s4, by omega, by go_num, HM'.out, HG'.out, HR'.out, HB'.out⟩
      case measure => simp [intOf]; omega)
theorem mfld (A1 A2 A3 A4 : Option Addr) (n1 n2 n3 n4 c1 c2 c3 c4 : Nat) (w : World) : (Instr.field 55 (.agg #[.slice A1 n1 c1, .slice A2 n2 c2, .slice A3 n3 c3, .slice A4 n4 c4]) 0).run Tryd.prog w = .ok (.slice A1 n1 c1) w ∧
    (Instr.field 55 (.agg #[.slice A1 n1 c1, .slice A2 n2 c2, .slice A3 n3 c3, .slice A4 n4 c4]) 1).run Tryd.prog w = .ok (.slice A2 n2 c2) w ∧ (Instr.field 55 (.agg #[.slice A1 n1 c1, .slice A2 n2 c2, .slice A3 n3 c3, .slice A4 n4 c4]) 3).run Tryd.prog w = .ok (.slice A4 n4 c4) w :=
  ⟨by kernel_rfl, by kernel_rfl, by kernel_rfl⟩
section
variable (lo lo2 lo3 : Nat) (A A2 A3 : Option Addr) (n c n2 c2 n3 c3 : Nat) (t : List Nd) (sc : List (List Dd)) (ps : List Int) (w : World)
set_option maxRecDepth 100000 in
theorem RunValuesS_any (hr : Rd cN 3 w lo A n t) (hc : n ≤ c) (hz : NmB t) (hr2 : Rds cD 2 w lo2 A2 n2 sc) (hr3 : Rd cI 1 w lo3 A3 n3 ps) :
    Calls Tryd.prog 31 #[.slice A n c, .slice A2 n2 c2, .slice A3 n3 c3] w (IntsR w (rvF t sc ps)) := by
  have HV := Lib.hid (validRun_any lo lo2 lo3 A A2 A3 n c n2 c2 n3 c3 t sc ps w hr hc hz hr2 hr3)
  by_cases hP : VR t sc ps
  · have HE : Hid (rvF t sc ps = (runM t sc ps).vals) := onR_t hP _
    rw [vrB_t hP] at HV
    have HR : Hid (∀ w', Below w.heap.size w w' → Calls Tryd.prog 36 #[.slice A n c, .slice A2 n2 c2, .slice A3 n3 c3] w' (PickO w' w'.heap.size (runM t sc ps))) := fun w' hb => run_t lo lo2 lo3 A A2 A3 n c n2 c2 n3 c3 t sc ps w' hP (hr.below hb) (hr2.below hb) (hr3.below hb)
    clear hP
    go_enter Tryd.func31, Tryd.ntmps31
    go_wp2_with fail
    refine HV.out.mono ?_
    rintro e w1 ⟨rfl, hb1⟩
    go_wp2_with fail
    refine (HR.out w1 hb1).mono ?_
    rintro e w2 ⟨v1, v2, v3, v4, rfl, ⟨⟨B1, k1, d1, rfl, hd1, hr1⟩, ⟨B2, k2, d2, rfl, hd2, _⟩, ⟨B3, k3, d3, rfl, hd3, _⟩, ⟨B4, k4, d4, rfl, hd4, _⟩⟩, hb2⟩
    have HR1 := Lib.hid hr1
    have HFD := fun w => (mfld B1 B4 B2 B3 k1 k4 k2 k3 d1 d4 d2 d3 w).1
    clear hr1
    go_wp2_with fail
    go_ret
    exact ⟨_, _, _, rfl, hd1, by rw [HE.out]; exact HR1.out.low hb1.size, bel_next hb1 hb2⟩
  · have HE : Hid (rvF t sc ps = []) := onR_f hP _
    rw [vrB_f hP] at HV
    clear hP
    go_enter Tryd.func31, Tryd.ntmps31
    go_wp2_with fail
    refine HV.out.mono ?_
    rintro e w1 ⟨rfl, hb1⟩
    go_wp2_with fail
    go_ret
    exact ⟨_, _, _, rfl, Nat.le_refl _, by rw [HE.out]; exact Rd.nil, hb1⟩
set_option maxRecDepth 100000 in
theorem RunOrderS_any (hr : Rd cN 3 w lo A n t) (hc : n ≤ c) (hz : NmB t) (hr2 : Rds cD 2 w lo2 A2 n2 sc) (hr3 : Rd cI 1 w lo3 A3 n3 ps) :
    Calls Tryd.prog 28 #[.slice A n c, .slice A2 n2 c2, .slice A3 n3 c3] w (IntsR w (roF t sc ps)) := by
  have HV := Lib.hid (validRun_any lo lo2 lo3 A A2 A3 n c n2 c2 n3 c3 t sc ps w hr hc hz hr2 hr3)
  by_cases hP : VR t sc ps
  · have HE : Hid (roF t sc ps = (runM t sc ps).fin) := onR_t hP _
    rw [vrB_t hP] at HV
    have HR : Hid (∀ w', Below w.heap.size w w' → Calls Tryd.prog 36 #[.slice A n c, .slice A2 n2 c2, .slice A3 n3 c3] w' (PickO w' w'.heap.size (runM t sc ps))) := fun w' hb => run_t lo lo2 lo3 A A2 A3 n c n2 c2 n3 c3 t sc ps w' hP (hr.below hb) (hr2.below hb) (hr3.below hb)
    clear hP
    go_enter Tryd.func28, Tryd.ntmps28
    go_wp2_with fail
    refine HV.out.mono ?_
    rintro e w1 ⟨rfl, hb1⟩
    go_wp2_with fail
    refine (HR.out w1 hb1).mono ?_
    rintro e w2 ⟨v1, v2, v3, v4, rfl, ⟨⟨B1, k1, d1, rfl, hd1, _⟩, ⟨B2, k2, d2, rfl, hd2, _⟩, ⟨B3, k3, d3, rfl, hd3, hr1⟩, ⟨B4, k4, d4, rfl, hd4, _⟩⟩, hb2⟩
    have HR1 := Lib.hid hr1
    have HFD := fun w => (mfld B1 B4 B2 B3 k1 k4 k2 k3 d1 d4 d2 d3 w).2.2
    clear hr1
    go_wp2_with fail
    go_ret
    exact ⟨_, _, _, rfl, hd3, by rw [HE.out]; exact HR1.out.low hb1.size, bel_next hb1 hb2⟩
  · have HE : Hid (roF t sc ps = []) := onR_f hP _
    rw [vrB_f hP] at HV
    clear hP
    go_enter Tryd.func28, Tryd.ntmps28
    go_wp2_with fail
    refine HV.out.mono ?_
    rintro e w1 ⟨rfl, hb1⟩
    go_wp2_with fail
    go_ret
    exact ⟨_, _, _, rfl, Nat.le_refl _, by rw [HE.out]; exact Rd.nil, hb1⟩
set_option maxRecDepth 100000 in
theorem RunLocksS_any (hr : Rd cN 3 w lo A n t) (hc : n ≤ c) (hz : NmB t) (hr2 : Rds cD 2 w lo2 A2 n2 sc) (hr3 : Rd cI 1 w lo3 A3 n3 ps) :
    Calls Tryd.prog 9 #[.slice A n c, .slice A2 n2 c2, .slice A3 n3 c3] w (LksQ w (rlF t sc ps)) := by
  have HV := Lib.hid (validRun_any lo lo2 lo3 A A2 A3 n c n2 c2 n3 c3 t sc ps w hr hc hz hr2 hr3)
  by_cases hP : VR t sc ps
  · have HE : Hid (rlF t sc ps = (runM t sc ps).tab) := onR_t hP _
    rw [vrB_t hP] at HV
    have HR : Hid (∀ w', Below w.heap.size w w' → Calls Tryd.prog 36 #[.slice A n c, .slice A2 n2 c2, .slice A3 n3 c3] w' (PickO w' w'.heap.size (runM t sc ps))) := fun w' hb => run_t lo lo2 lo3 A A2 A3 n c n2 c2 n3 c3 t sc ps w' hP (hr.below hb) (hr2.below hb) (hr3.below hb)
    clear hP
    go_enter Tryd.func9, Tryd.ntmps9
    go_wp2_with fail
    refine HV.out.mono ?_
    rintro e w1 ⟨rfl, hb1⟩
    go_wp2_with fail
    refine (HR.out w1 hb1).mono ?_
    rintro e w2 ⟨v1, v2, v3, v4, rfl, ⟨⟨B1, k1, d1, rfl, hd1, _⟩, ⟨B2, k2, d2, rfl, hd2, _⟩, ⟨B3, k3, d3, rfl, hd3, _⟩, ⟨B4, k4, d4, rfl, hd4, hr1⟩⟩, hb2⟩
    have HR1 := Lib.hid hr1
    have HFD := fun w => (mfld B1 B4 B2 B3 k1 k4 k2 k3 d1 d4 d2 d3 w).2.1
    clear hr1
    go_wp2_with fail
    go_ret
    exact ⟨_, _, _, rfl, hd4, by rw [HE.out]; exact HR1.out.low hb1.size, bel_next hb1 hb2⟩
  · have HE : Hid (rlF t sc ps = []) := onR_f hP _
    rw [vrB_f hP] at HV
    clear hP
    go_enter Tryd.func9, Tryd.ntmps9
    go_wp2_with fail
    refine HV.out.mono ?_
    rintro e w1 ⟨rfl, hb1⟩
    go_wp2_with fail
    go_ret
    exact ⟨_, _, _, rfl, Nat.le_refl _, by rw [HE.out]; exact Rd.nil, hb1⟩
end

theorem gbel3 {a b c : World} {row : Option Nat} (h : a.grownBy b row) (k : Below b.heap.size b c) : a.grownBy c row :=
  ⟨k.os.trans h.os, k.tape.trans h.tape, k.output.trans h.output, Nat.le_trans h.size k.size, fun i hi hne => (k.block i (Nat.lt_of_lt_of_le hi h.size)).trans (h.block i hi hne)⟩
theorem gall3 {w0 w : World} {row : Option Nat} (h : w0.grownBy w row) (o : Obj) : w0.grownBy (w.alloc o) row := gbel3 h ((Below.refl _ _).alloc (Nat.le_refl _) o)
theorem bog3 {w w1 w2 : World} (h1 : Below w.heap.size w w1) {R : Nat} (h2 : w1.grownBy w2 (some R)) (hR : w.heap.size ≤ R) : Below w.heap.size w w2 :=
  h1.grown h2 h1.size fun k hk => by injection hk with hk; omega
theorem grown_own2 {w0 w w' : World} {R : Nat} {row : Option Nat} (h : w0.grownBy w (some R)) (hg : w.grownBy w' row) (hr : ∀ g, row = some g → g = R ∨ w0.heap.size ≤ g) : w0.grownBy w' (some R) :=
  ⟨hg.os.trans h.os, hg.tape.trans h.tape, hg.output.trans h.output, Nat.le_trans h.size hg.size, fun i hi hne =>
    (hg.block i (Nat.lt_of_lt_of_le hi h.size) (fun e => by
      rcases hr i e.symm with e2 | e2
      · exact hne (by rw [e2])
      · omega)).trans (h.block i hi hne)⟩
set_option maxRecDepth 100000 in
set_option maxHeartbeats 12800000 in
theorem RunWaitsS_any (lo lo2 lo3 : Nat) (A A2 A3 : Option Addr) (n c n2 c2 n3 c3 : Nat) (t : List Nd) (sc : List (List Dd)) (ps : List Int) (w : World) (hr : Rd cN 3 w lo A n t) (hc : n ≤ c) (hz : NmB t) (hr2 : Rds cD 2 w lo2 A2 n2 sc) (hr3 : Rd cI 1 w lo3 A3 n3 ps) :
    Calls Tryd.prog 23 #[.slice A n c, .slice A2 n2 c2, .slice A3 n3 c3] w (WtsR w (rwF t sc ps)) := by
  have hle2 := hr2.le
  have hbE := bel_alloc (Below.refl w.heap.size w) (.cells #[] 80)
  have hoE := Own.empty (cs := cW) (sz := 2) (e := 80) w elW2.len
  have HV := Lib.hid (validRun_any lo lo2 lo3 A A2 A3 n c n2 c2 n3 c3 t sc ps (w.alloc (.cells #[] 80)) (hr.alloc _) hc hz (hr2.alloc _) (hr3.alloc _))
  by_cases hP : VR t sc ps
  case neg =>
    have HE : Hid (rwF t sc ps = []) := onR_f hP _
    rw [vrB_f hP] at HV
    clear hP
    go_enter Tryd.func23, Tryd.ntmps23
    go_wp2_with fail
    refine HV.out.mono ?_
    rintro e w1 ⟨rfl, hb1⟩
    go_wp2_with fail
    go_ret
    exact ⟨_, _, _, rfl, Nat.le_refl _, by rw [HE.out]; exact Rd.nil, bel_next hbE hb1⟩
  have HE : Hid (rwF t sc ps = wtF t sc (runM t sc ps) sc.length) := onR_t hP _
  rw [vrB_t hP] at HV
  have hI := hP.inv
  have hvt := hP.1
  have hsc := hP.2.1
  have HL2 := Lib.hid hr2.len
  have hn24 : n2 ≤ 4 := by have := hsc.1; have := HL2.out; omega
  have HRUN : Hid (∀ w', Below w.heap.size w w' → Calls Tryd.prog 36 #[.slice A n c, .slice A2 n2 c2, .slice A3 n3 c3] w' (PickO w' w'.heap.size (runM t sc ps))) := fun w' hb => run_t lo lo2 lo3 A A2 A3 n c n2 c2 n3 c3 t sc ps w' hP (hr.below hb) (hr2.below hb) (hr3.below hb)
  generalize hm : runM t sc ps = m at *
  clear hm hP
  go_enter Tryd.func23, Tryd.ntmps23
  go_wp2_with fail
  refine HV.out.mono ?_
  rintro e w1 ⟨rfl, hb1⟩
  have hB1 := bel_next hbE hb1
  go_wp2_with fail
  refine (HRUN.out w1 hB1).mono ?_
  rintro e w2 ⟨v1, v2, v3, v4, rfl, ⟨⟨B1, k1, d1, rfl, hd1, _⟩, ⟨B2, k2, d2, rfl, hd2, hrP⟩, ⟨B3, k3, d3, rfl, hd3, _⟩, ⟨B4, k4, d4, rfl, hd4, hrT⟩⟩, hb2⟩
  have hB2 := bel_next hB1 hb2
  have hs1 := hB1.size
  have hs2 := hB2.size
  have HO2 := Lib.hid ((hoE.below hb1).below hb2)
  have HG0 := Lib.hid (heap_alloc_new w2 (.cells #[.slice B1 k1 d1, .slice B4 k4 d4, .slice B2 k2 d2, .slice B3 k3 d3] 55))
  have hbW := bel_alloc hB2 (.cells #[.slice B1 k1 d1, .slice B4 k4 d4, .slice B2 k2 d2, .slice B3 k3 d3] 55)
  have HRT := Lib.hid hr
  have HRS := Lib.hid hr2
  have hP0 := hrP.alloc (.cells #[.slice B1 k1 d1, .slice B4 k4 d4, .slice B2 k2 d2, .slice B3 k3 d3] 55)
  have hTb0 := hrT.alloc (.cells #[.slice B1 k1 d1, .slice B4 k4 d4, .slice B2 k2 d2, .slice B3 k3 d3] 55)
  have HOW := Lib.hid (HO2.out.alloc (.cells #[.slice B1 k1 d1, .slice B4 k4 d4, .slice B2 k2 d2, .slice B3 k3 d3] 55))
  have hRlt : w.heap.size < w1.heap.size := by have := hb1.size; simp only [World.size_alloc] at this; omega
  have hR2 : w2.heap.size ≠ w.heap.size := by have := hb2.size; omega
  have hG0l := blk_lt HG0.out
  have hlt0 : w.heap.size ≤ w2.heap.size := by have := hb2.size; omega
  clear hr hr2 hr3 hrP hrT HV HRUN hoE
  go_wp2_with fail
  generalize hW0 : w2.alloc (.cells #[.slice B1 k1 d1, .slice B4 k4 d4, .slice B2 k2 d2, .slice B3 k3 d3] 55) = W0 at *
  clear hW0
  go_loopw [7, 9] (fun v i wr => ∃ j : Nat, j ≤ n2 ∧ i = .int .i64 j ∧ Own cW 2 80 wr w.heap.size v (wtF t sc m j) ∧ (∀ g, v.ownBlock = some g → g = w.heap.size ∨ W0.heap.size ≤ g) ∧ W0.grownBy wr (some w.heap.size)) (fun _ i _ => n2 - (intOf i).toNat)
  case atStart => exact ⟨0, Nat.zero_le _, rfl, HOW.out, fun g hg => .inl (by simpa [Value.ownBlock] using hg.symm), World.grownBy.refl _ _⟩
  case round =>
    rename World => W1
    obtain ⟨j, hj, rfl, ho, hob, hgr⟩ := hrel
    have hB := bog3 hbW hgr (Nat.le_refl _)
    have hs := hB.size
    by_cases hlt : j < n2
    case neg =>
      obtain rfl : j = n2 := by omega
      have hwl := wtF_le (m := m) (t := t) hsc (k := sc.length) (Nat.le_refl _)
      rw [← HL2.out] at ho
      obtain ⟨A9, m9, c9, rfl, hc9, hr9⟩ := ho.rdn elW2.len (by omega)
      have HR9 := Lib.hid hr9
      clear hr9 ho hwl
      go_wp2_with fail
      go_ret
      exact ⟨_, _, _, rfl, hc9, by rw [HE.out]; exact HR9.out, hB⟩
    have hjs : j < sc.length := by have := HL2.out; omega
    have hjn : (j : Int) < (n2 : Int) := by omega
    have HWS := Lib.hid (wtF_succ t sc m j)
    have HWL : Hid ((wtF t sc m j).length ≤ 12) := wtF_le hsc (by omega)
    have hG1 := blk_keep HG0.out hgr (by intro e; injection e with e; omega)
    have e1 := blk_cell hG1 (i := 1) rfl
    have e2 := blk_cell hG1 (i := 2) rfl
    obtain ⟨b, o, A', m', c', s, rfl, _, hb, hsx, g0, hmc, hrsw⟩ := (HRS.out.below hB).get hlt
    have hse : s = scr sc j := by rw [scr_get hjs] at hsx; injection hsx with hsx; exact hsx.symm
    subst hse
    have HM2 := Lib.hid hrsw.len
    have hjk : j < k2 := by have := hP0.len; have := hI.plen; omega
    have hjk' : (j : Int) < (k2 : Int) := by omega
    obtain ⟨bp, op, xp, rfl, _, hbp, hxp, p0⟩ := (hP0.grown hgr hRlt).atI hjk
    obtain ⟨hp0, hp1⟩ := hI.prange j hjs
    obtain ⟨pn, hpn⟩ := Int.eq_ofNat_of_zero_le hp0
    have hxe : xp = pn := by
      rw [plc_get (by rw [hI.plen]; exact hjs)] at hxp
      injection hxp with hxp
      rw [← hxp]; exact hpn
    subst hxe
    have hpm : pn ≤ m' := by have := HM2.out; omega
    have aa := aft e2
    have ab := aft g0
    have ac := aft p0
    have HG1 := Lib.hid hG1
    have HX0 := Lib.hid g0
    have HX1 := Lib.hid p0
    clear hsx hxp g0 p0 e1 e2 hG1
    go_upto_region 8 with fail
    refine wp_region_after (by kernel_rfl) (by kernel_rfl) ?_
    repeat (go_big_quiet_step (fail))
    refine wpQuiet_nil ?_
    intro w7 hb7
    have hgr7 := gbel3 hgr hb7
    have hB7 := bel_next hB hb7
    have hs7 := hb7.size
    have ho7 := ho.below hb7
    have hG7 := blk_below HG1.out hb7
    have g7 := (hb7.cell (p := ⟨b, o + j, none⟩) (World.block_lt_of_cell? _ _ HX0.out)).trans HX0.out
    have p7 := (hb7.cell (p := ⟨bp, op + j, none⟩) (World.block_lt_of_cell? _ _ HX1.out)).trans HX1.out
    clear aa ab ac HG1 HX0 HX1
    by_cases hd : pn = m'
    case pos =>
      have HN : Hid (wtF t sc m (j + 1) = wtF t sc m j) := by
        show _ = _
        rw [HWS.out, wtOne_none (nextD_end (by rw [hpn, hd]; have := HM2.out; omega)), List.append_nil]
      subst hd
      clear hrsw hG7 g7 p7
      go_wp2_with fail
      go_roundw
      case rel => exact ⟨j + 1, by omega, by go_num, by rw [HN.out]; exact ho7, hob, hgr7⟩
      case measure => simp [intOf]; omega
    have hdn : ((pn : Int) == (m' : Int)) = false := by simp; omega
    have hd' : (pn : Int) < (m' : Int) := by omega
    have hm3 : (m' : Int) ≤ 3 := by have := (hsc.scr hjs).1.2; have := HM2.out; omega
    obtain ⟨bx, ox, d, rfl, _, hbx, hx, x0, x1⟩ := (hrsw.below hb7).atD (k := pn) (by omega)
    have hnd := nextD_of hpn hx
    obtain ⟨hisn, hask, hok⟩ := do_ok hvt hsc hjs hnd
    have HFUL := Lib.hid (wtS_full hI hsc hnd)
    have HASK := Lib.hid hask
    have HISN := Lib.hid hisn
    have HLF : Hid (∀ w' : World, Below w7.heap.size w7 w' → Calls Tryd.prog 45 #[.slice A n c, .int .i64 (j : Int), .int .i64 d.node, .int .i64 (modeF d)] w' (LksP w' (lkF t j d.node (modeF d)))) := fun w' hb' => locksForS_t lo A n c t j d.node _ w' ((HRT.out.below hB7).below hb') HISN.out HASK.out.isM
    have hLl : (lkF t j d.node (modeF d)).length ≤ 5 := lkF_len hisn
    have HASKL : Hid (∀ x ∈ lkF t j d.node (modeF d), x.who = j ∧ OkAsk x.who x.node x.mode) := fun x hx => ⟨lkF_who hx, lkF_ask HISN.out HASK.out hx⟩
    have HBD : Hid (∀ q, blkD t m j d q = (lkF t j d.node (modeF d)).any fun x => decide (q ∈ lbF m.tab j x.node x.mode)) := fun q => rfl
    obtain ⟨dn, da⟩ := d
    simp only at x0 x1 HLF HISN HASK hLl HASKL HBD HFUL
    obtain ⟨nd, rfl⟩ := Int.eq_ofNat_of_zero_le hok.1.1
    have hdn12 : (nd : Int) ≤ 11 := by have h1 : (nd : Int) < t.length := hok.1.2; have := hvt.2.1; omega
    have hda0 : -50 ≤ da := hok.2.1
    have hda1 : da ≤ 50 := hok.2.2
    generalize hmode : modeF ⟨(nd : Int), da⟩ = md at *
    generalize hL : lkF t (j : Int) (nd : Int) md = L at *
    have HMD := Lib.hid hmode
    have HG7 := Lib.hid hG7
    have f2 := blk_cell hG7 (i := 2) rfl
    have n1 := World.new_ne w7 _ g7
    have n2' := World.new_ne w7 _ p7
    have n3' := World.new_ne w7 _ x0
    have n4 := World.new_ne w7 _ f2
    simp only at n1 n2' n3' n4
    clear hG7 hx hnd hisn hask hok hrsw hL hmode
    go_upto_region 9 with fail
    go_region_held3 (fun w' => w'.cell? ⟨b, o + j, none⟩ = some (.slice (some ⟨bx, ox, none⟩) m' c') ∧ w'.cell? ⟨w2.heap.size, 2, none⟩ = some (.slice (some ⟨bp, op, none⟩) k2 d2) ∧ w'.cell? ⟨bp, op + j, none⟩ = some (.int .i64 pn) ∧ w'.cell? ⟨bx, ox + pn * 2, none⟩ = some (.int .i64 nd) ∧ w'.cell? ⟨bx, ox + pn * 2 + 1, none⟩ = some (.int .i64 da)) (go_keep) (fail)
    have hgr8 := gbel3 hgr7 (bel_alloc (Below.refl w7.heap.size w7) (.cells #[.int .i64 nd, .int .i64 da] 73)).drew
    have hB8 := (bel_alloc hB7 (.cells #[.int .i64 nd, .int .i64 da] 73)).drew
    have hb78 := (bel_alloc (Below.refl w7.heap.size w7) (.cells #[.int .i64 nd, .int .i64 da] 73)).drew
    have hD8 := heap_alloc_new w7 (.cells #[.int .i64 nd, .int .i64 da] 73)
    have ho8 := (ho7.alloc (.cells #[.int .i64 nd, .int .i64 da] 73)).drew
    have hG8 := blk_alloc HG7.out (.cells #[.int .i64 nd, .int .i64 da] 73)
    have HD8 := Lib.hid hD8
    have HG8 := Lib.hid hG8
    have HO8 := Lib.hid ho8
    have HGR8 := Lib.hid hgr8
    have HB78 := Lib.hid hb78
    clear g7 p7 x0 x1 n1 n2' n3' n4 f2 hD8 hG8 ho7 hgr7 hgr8 ho8 hb78 HG7
    have dc1 : (w7.alloc (.cells #[.int .i64 nd, .int .i64 da] 73)).drew.cell? ⟨w7.heap.size, 1, none⟩ = some (.int .i64 da) := blk_cell HD8.out (i := 1) rfl
    go_upto_if 56 with fail
    obtain ⟨W8, hW8⟩ : ∃ X, X = (w7.alloc (.cells #[.int .i64 nd, .int .i64 da] 73)).drew := ⟨_, rfl⟩
    rw [← hW8] at hB8 dc1 ⊢
    have hD8 : W8.heap[w7.heap.size]? = some (.cells #[.int .i64 nd, .int .i64 da] 73 (0, 0)) := by rw [hW8]; exact HD8.out
    have hG8 : W8.heap[w2.heap.size]? = some (.cells #[.slice B1 k1 d1, .slice B4 k4 d4, .slice (some ⟨bp, op, none⟩) k2 d2, .slice B3 k3 d3] 55 (0, 0)) := by rw [hW8]; exact HG8.out
    have HO8' : Hid (Own cW 2 80 W8 w.heap.size u7 (wtF t sc m j)) := by show Own _ _ _ _ _ _ _; rw [hW8]; exact HO8.out
    have HGR8' : Hid (W0.grownBy W8 (some w.heap.size)) := by show World.grownBy _ _ _; rw [hW8]; exact HGR8.out
    have HB78' : Hid (Below w7.heap.size w7 W8) := by show Below _ _ _; rw [hW8]; exact HB78.out
    clear hW8 HD8 HG8 HO8 HGR8 HB78
    have HD8 := Lib.hid hD8
    have HG8 := Lib.hid hG8
    clear hD8 hG8
    go_cut [11] from 26 to 110 (fun v11 wx => v11 = .int .i64 md ∧ wx = W8)
    case first =>
      by_cases h0 : da = 0
      · have hm : Hid (md = 3) := by show _ = _; rw [← HMD.out]; unfold modeF; rw [if_pos h0]
        subst h0
        go_wp2_with fail
        go_meet
        exact ⟨by rw [hm.out], rfl⟩
      · have hm : Hid (md = 5) := by show _ = _; rw [← HMD.out]; unfold modeF; rw [if_neg h0]
        have h0' : (da == 0) = false := by simpa using h0
        clear h0
        go_wp2_with fail
        go_meet
        exact ⟨by rw [hm.out], rfl⟩
    case rest =>
    obtain ⟨rfl, rfl⟩ := hcut
    have hs8 := hB8.size
    have dc0 := blk_cell HD8.out (i := 0) rfl
    have dc0' : wc.cell? ⟨w7.heap.size, 0, none⟩ = some (.int .i64 nd) := dc0
    clear dc0 dc1
    go_wp2_with fail
    refine (HLF.out wc HB78'.out).mono ?_
    rintro e w9 ⟨v9, rfl, ho9, hb9⟩
    obtain ⟨A5, m5, c5, rfl, hc5, hr5⟩ := id (ho9.rdn elL.len (by omega))
    have hm5 : m5 ≤ 5 := by have := hr5.len; omega
    have HL5 := Lib.hid hr5.len
    have hgr9 := gbel3 HGR8'.out hb9
    have hG9 := Lib.hid (blk_below HG8.out hb9)
    have HO9 := Lib.hid (HO8'.out.below hb9)
    have HW9 := Lib.hid ho9
    have HGR9 := Lib.hid hgr9
    clear hr5 ho9 dc0' HG8 HD8 HO8' HGR8' hgr9
    go_wp2_with fail
    go_loopw [7, 13] (fun v i wr => ∃ q : Nat, q ≤ n2 ∧ i = .int .i64 q ∧ Own cW 2 80 wr w.heap.size v (wtF t sc m j ++ wtS t m j ⟨nd, da⟩ q) ∧ (∀ g, v.ownBlock = some g → g = w.heap.size ∨ W0.heap.size ≤ g) ∧ W0.grownBy wr (some w.heap.size) ∧ Own cL 3 67 wr wc.heap.size (.slice A5 m5 c5) L) (fun _ i _ => n2 - (intOf i).toNat)
    case atStart => exact ⟨0, Nat.zero_le _, rfl, by simpa [wtS] using HO9.out, hob, HGR9.out, HW9.out⟩
    case round =>
      rename World => W2
      obtain ⟨q, hq, rfl, ho2, hob2, hgr2, hoL⟩ := hrel
      have hB2' := bog3 hbW hgr2 (Nat.le_refl _)
      have hs2' := hB2'.size
      have HW2 := Lib.hid hgr2
      by_cases hltq : q < n2
      case neg =>
        obtain rfl : q = n2 := by omega
        have HN : Hid (wtF t sc m j ++ wtS t m j ⟨nd, da⟩ q = wtF t sc m (j + 1)) := by
          show _ = _
          rw [HWS.out, ← HFUL.out, HL2.out]
        clear hoL
        go_wp2_with fail
        go_roundw
        case rel => exact ⟨j + 1, by omega, by go_num, by rw [← HN.out]; exact ho2, hob2, hgr2⟩
        case measure => simp [intOf]; omega
      have HO2' := Lib.hid ho2
      have HOL := Lib.hid hoL
      have HTB := Lib.hid (hTb0.grown hgr2 hRlt)
      have HGM := Lib.hid (blk_keep HG0.out hgr2 (by intro e; injection e with e; omega))
      clear ho2 hoL
      go_wp2_with fail
      go_loopw [14, 15] (fun v i wr => ∃ (z : Nat) (f : Bool), z ≤ m5 ∧ i = .int .i64 z ∧ v = .bool f ∧ f = (L.take z).any (fun x => decide ((q : Int) ∈ lbF m.tab j x.node x.mode)) ∧ Below W2.heap.size W2 wr) (fun _ i _ => m5 - (intOf i).toNat)
      case atStart => exact ⟨0, false, Nat.zero_le _, rfl, rfl, rfl, Below.refl _ _⟩
      case round =>
        rename World => W3
        obtain ⟨z, f, hz, rfl, rfl, hf, hbl3⟩ := hrel
        have HF := Lib.hid hf
        have hs3 := hbl3.size
        clear hf
        by_cases hltz : z < m5
        case neg =>
          obtain rfl : z = m5 := by omega
          have HFB : Hid (f = blkD t m j ⟨nd, da⟩ q) := by show _ = _; rw [HF.out, HBD.out, List.take_of_length_le (by have := HL5.out; omega)]
          have ho3 := HO2'.out.below hbl3
          have hgr3 := gbel3 hgr2 hbl3
          have hoL3 := HOL.out.below hbl3
          have HLW : Hid ((wtF t sc m j ++ wtS t m j ⟨nd, da⟩ q).length ≤ 20) := by
            show _ ≤ _
            have h1 := HWL.out
            have h2 := wtS_len (t := t) (m := m) j ⟨nd, da⟩ q
            rw [List.length_append]
            omega
          cases f with
          | false =>
            have HN : Hid (wtS t m j ⟨nd, da⟩ (q + 1) = wtS t m j ⟨nd, da⟩ q) := wtS_no HFB.out.symm
            go_wp2_with fail
            go_roundw
            case rel => exact ⟨q + 1, by omega, by go_num, by rw [HN.out]; exact ho3, hob2, hgr3, hoL3⟩
            case measure => simp [intOf]; omega
          | true =>
            have HN : Hid (wtS t m j ⟨nd, da⟩ (q + 1) = wtS t m j ⟨nd, da⟩ q ++ [⟨(j : Int), (q : Int)⟩]) := wtS_yes HFB.out.symm
            have hs0 := hgr3.size
            have HHB := Lib.hid hob2
            have HGR := Lib.hid hgr3
            have HOL3 := Lib.hid hoL3
            clear hob2 hgr3 hoL3
            go_wp2_with (at_builtin; refine wpList_append_rd elW2 _ rfl (.tmp 105) (.tmp 109) rfl rfl (ho3.alloc _) rfl (Rd_one W3 #[.int .i64 j, .int .i64 q] 80 (⟨(j : Int), (q : Int)⟩ : Wt) rfl) (by have := HLW.out; omega) (by simp; omega) ?_; intro v8 w8 ho8 hg8 ha8)
            have hgr8 := grown_own2 (gall3 HGR.out (.cells #[.int .i64 j, .int .i64 q] 80)) hg8 HHB.out
            have hob8 : ∀ g, v8.ownBlock = some g → g = w.heap.size ∨ W0.heap.size ≤ g := fun g hg => by
              rcases ha8 with e | e
              · exact HHB.out g (e.symm.trans hg)
              · have e2 := hg.symm.trans e; injection e2 with e2; right; rw [e2]; simp; omega
            have hL8 := (HOL3.out.alloc (.cells #[.int .i64 j, .int .i64 q] 80)).grown' hg8 (Own.ap (HOL3.out.alloc (.cells #[.int .i64 j, .int .i64 q] 80)) (ho3.alloc (.cells #[.int .i64 j, .int .i64 q] 80)) (by decide))
            go_roundw
            case rel => exact ⟨q + 1, by omega, by go_num, by rw [HN.out, ← List.append_assoc]; exact ho8, hob8, hgr8, hL8⟩
            case measure => simp [intOf]; omega
        obtain ⟨_, hrL⟩ := (HOL.out.below hbl3).rds elL.len (by have := HL5.out; omega)
        obtain ⟨b5, o5, x, hA5, _, hb5, hx5, l0, l1, l2⟩ := hrL.atL hltz
        subst hA5
        obtain ⟨hxw, hxa⟩ := HASKL.out x (List.mem_of_getElem? hx5)
        have HTS : Hid (L.take (z + 1) = L.take z ++ [x]) := take_snoc hx5
        obtain ⟨xw, xn, xm⟩ := x
        simp only at l0 l1 l2 hxw hxa
        subst hxw
        have hG3 := blk_below HGM.out hbl3
        have HG3 := Lib.hid hG3
        cases f with
        | true =>
          have HN : Hid (true = (L.take (z + 1)).any fun x => decide ((q : Int) ∈ lbF m.tab j x.node x.mode)) := by
            show _ = _
            rw [HTS.out, List.any_append, ← HF.out]
            rfl
          clear hrL hx5 hxa l0 l1 l2 hG3
          go_wp2_with fail
          go_region
          all_goals (
            go_wp2_with fail
            go_roundw
            case rel => exact ⟨z + 1, true, by omega, by go_num, rfl, HN.out, hbl3.drew⟩
            case measure => simp [intOf]; omega)
        | false =>
          have HLB : Hid (lbF m.tab j xn xm = blkF m.tab j xn (joinF (heldF m.tab j xn) xm)) := lbF_yes hI.tab hxa
          have HN : Hid (decide ((q : Int) ∈ blkF m.tab j xn (joinF (heldF m.tab j xn) xm)) = (L.take (z + 1)).any fun x => decide ((q : Int) ∈ lbF m.tab j x.node x.mode)) := by
            show _ = _
            rw [HTS.out, List.any_append, ← HF.out]
            simp [HLB.out]
          have HIM := Lib.hid (joinF_isM (heldF_isM hI.tab j xn) hxa.isM)
          have HB1 : Hid (∀ w', Below W3.heap.size W3 w' → Calls Tryd.prog 49 #[.slice B4 k4 d4, .int .i64 (j : Int), .int .i64 xn] w' fun e w'' => e = .returned (.int .i64 (heldF m.tab j xn)) ∧ w' = w'') := fun w' hb' => held_any _ B4 k4 d4 m.tab j xn w' ((HTB.out.below hbl3).below hb')
          have HB2 : Hid (∀ w', Calls Tryd.prog 48 #[.int .i64 (heldF m.tab j xn), .int .i64 xm] w' fun e w'' => e = .returned (.int .i64 (joinF (heldF m.tab j xn) xm)) ∧ w' = w'') := fun w' => joined_t _ _ w' (heldF_isM hI.tab j xn) hxa.isM
          have HB3 : Hid (∀ w', Below W3.heap.size W3 w' → Calls Tryd.prog 47 #[.slice B4 k4 d4, .int .i64 (j : Int), .int .i64 xn, .int .i64 (joinF (heldF m.tab j xn) xm)] w' (IntsP w' (blkF m.tab j xn (joinF (heldF m.tab j xn) xm)))) := fun w' hb' => blockers_any _ B4 k4 d4 m.tab j xn _ w' ((HTB.out.below hbl3).below hb') hI.tab HIM.out
          have hbk := blkF_len m.tab j xn (joinF (heldF m.tab j xn) xm)
          have c1 : W3.drew.cell? ⟨w2.heap.size, 1, none⟩ = some (.slice B4 k4 d4) := blk_cell hG3 (i := 1) rfl
          have c2 : W3.drew.cell? ⟨b5, o5 + z * 3 + 1, none⟩ = some (.int .i64 xn) := l1
          have c3 : W3.drew.cell? ⟨b5, o5 + z * 3 + 2, none⟩ = some (.int .i64 xm) := l2
          have HLa : w2.heap.size < W3.drew.heap.size := blk_lt hG3
          have HLb : b5 < W3.drew.heap.size := hb5
          generalize hBL : blkF m.tab j xn (joinF (heldF m.tab j xn) xm) = BL at *
          generalize hJ : joinF (heldF m.tab j xn) xm = J at *
          generalize hH : heldF m.tab j xn = H at *
          clear hrL hx5 hxa hG3 hBL hJ hH l0
          go_wp2_with fail
          go_region_held3 (fun w' => w'.cell? ⟨w2.heap.size, 1, none⟩ = some (.slice B4 k4 d4) ∧ w'.cell? ⟨b5, o5 + z * 3 + 1, none⟩ = some (.int .i64 xn) ∧ w'.cell? ⟨b5, o5 + z * 3 + 2, none⟩ = some (.int .i64 xm))
            (first | exact ⟨(hb6.cell HLa).trans c1, (hb6.cell HLb).trans c2, (hb6.cell HLb).trans c3⟩ | go_keep)
            ((first
              | (go_simp; go_at_call 49; refine (HB1.out W3.drew (Below.refl W3.heap.size W3).drew).mono ?_; rintro e w4 ⟨rfl, rfl⟩)
              | (go_simp; go_at_call 48; refine (HB2.out W3.drew).mono ?_; rintro e w5 ⟨rfl, rfl⟩)
              | (go_simp; go_at_call 47; refine (HB3.out W3.drew (Below.refl W3.heap.size W3).drew).mono ?_; rintro e w6 ⟨v6, rfl, ho6, hb6⟩; obtain ⟨A6, m6, c6, rfl, hc6, hr6⟩ := ho6.rdn elI.len (by omega))
              | (go_simp; go_at_call 46; refine (isInS_any _ A6 m6 c6 BL (q : Int) w6 hr6).mono ?_; rintro e w7 ⟨rfl, rfl⟩)))
          all_goals (
            have hb36 : Below W2.heap.size W2 w6 := (hbl3.drew).trans (hb6.mono hs3)
            go_wp2_with fail
            go_roundw
            case rel => exact ⟨z + 1, _, by omega, by go_num, rfl, HN.out, hb36⟩
            case measure => simp [intOf]; omega)

theorem bel_nx {w w1 w2 : World} (h : Below w.heap.size w w1) (hb : Below w1.heap.size w1 w2) : Below w.heap.size w w2 := h.trans (hb.mono h.size)
theorem Own.putN {e : TypeId} {w : World} {base g m cap k : Nat} {l : List Nd} (h : Own cN 3 e w base (.slice (some ⟨g, 0, none⟩) m cap) l) (hk : k < l.length) (x : Nd) :
    Own cN 3 e (((w.setCell ⟨g, k * 3, none⟩ (.int .i64 x.par)).setCell ⟨g, k * 3 + 1, none⟩ (.string x.name)).setCell ⟨g, k * 3 + 2, none⟩ (.int .i64 x.val)) base (.slice (some ⟨g, 0, none⟩) m cap) (l.set k x) := by
  have hz : l[k]? = some l[k] := List.getElem?_eq_getElem hk
  have h1 := h.set (x' := ⟨x.par, (l[k]).name, (l[k]).val⟩) (u := .int .i64 x.par) (fun _ => rfl) hz rfl (j := 0) (by omega) (q := k * 3) (by omega)
  have h2 := h1.set (x := ⟨x.par, (l[k]).name, (l[k]).val⟩) (x' := ⟨x.par, x.name, (l[k]).val⟩) (u := .string x.name) (fun _ => rfl) (List.getElem?_set_self hk) rfl (j := 1) (by omega) (q := k * 3 + 1) (by omega)
  have h3 := h2.set (x := ⟨x.par, x.name, (l[k]).val⟩) (x' := x) (u := .int .i64 x.val) (fun _ => rfl) (by rw [List.set_set]; exact List.getElem?_set_self hk) rfl (j := 2) (by omega) (q := k * 3 + 2) (by omega)
  rw [List.set_set, List.set_set] at h3
  exact h3
theorem szNode_t (x : Nd) (left : Int) (w : World) (h0 : 0 ≤ left) (h1 : left ≤ 1048576) (hm : x.name.size ≤ 9223372036854775807) :
    Calls Tryd.prog 33 #[.agg #[.int .i64 x.par, .string x.name, .int .i64 x.val], .int .i64 left] w fun e w' => e = .returned (.int .i64 (if left - (x.name.size : Int) < 0 then -1 else left - (x.name.size : Int))) ∧ Below w.heap.size w w' := by
  have hm' : (x.name.size : Int) ≤ 9223372036854775807 := by omega
  by_cases hn : left - (x.name.size : Int) < 0
  · rw [if_pos hn]
    go_enter Tryd.func33, Tryd.ntmps33
    go_wp2_with fail
    go_ret
    exact ⟨rfl, (Below.refl _ _).alloc (Nat.le_refl _) _⟩
  · rw [if_neg hn]
    go_enter Tryd.func33, Tryd.ntmps33
    go_wp2_with fail
    go_ret
    exact ⟨rfl, (Below.refl _ _).alloc (Nat.le_refl _) _⟩
/-- Too many for the size that is left. -/
theorem szNodeS_big (A : Option Addr) (n c : Nat) (left : Int) (w : World) (h0 : 0 ≤ left) (h1 : left ≤ 1048576) (hn : left < n) (h63 : n ≤ 9223372036854775807) :
    Calls Tryd.prog 7 #[.slice A n c, .int .i64 left] w fun e w' => e = .returned (.int .i64 (-1)) ∧ Below w.heap.size w w' := by
  have hn' : left - (n : Int) < 0 := by omega
  go_enter Tryd.func7, Tryd.ntmps7
  go_wp2_with fail
  go_ret
  exact ⟨rfl, Below.refl _ _⟩
theorem szNodeS_t (lo : Nat) (A : Option Addr) (n c : Nat) (t : List Nd) (left : Int) (w : World) (hr : Rd cN 3 w lo A n t) (hm : NmM t) (h0 : 0 ≤ left) (h1 : left ≤ 1048576) (hn : (n : Int) ≤ left) :
    Calls Tryd.prog 7 #[.slice A n c, .int .i64 left] w fun e w' => e = .returned (.int .i64 (szF t (left - n))) ∧ Below w.heap.size w w' := by
  have hn' : ¬ left - (n : Int) < 0 := by omega
  have HL := Lib.hid hr.len
  obtain ⟨R, hR⟩ : ∃ R, R = szF t (left - n) := ⟨_, rfl⟩
  rw [← hR]
  have HR := Lib.hid hR
  clear hR
  go_enter Tryd.func7, Tryd.ntmps7
  go_wp2_with fail
  go_loopw [1, 5] (fun v i wr => ∃ (k : Nat) (l' : Int), k ≤ n ∧ i = .int .i64 k ∧ v = .int .i64 l' ∧ 0 ≤ l' ∧ l' ≤ 1048576 ∧ R = szF (t.drop k) l' ∧ Below w.heap.size w wr) (fun _ i _ => n - (intOf i).toNat)
  case atStart => exact ⟨0, left - n, Nat.zero_le _, rfl, rfl, by omega, by omega, HR.out, Below.refl _ _⟩
  case round =>
    rename World => W1
    obtain ⟨k, l', hk, rfl, rfl, hl0, hl1, hF, hbl⟩ := hrel
    by_cases hlt : k < n
    case neg =>
      have hd : t.drop k = [] := List.drop_eq_nil_of_le (by have := HL.out; omega)
      rw [hd] at hF
      have HF : Hid (R = l') := hF
      clear hF hd
      go_wp2_with fail
      go_ret
      exact ⟨ret_int HF.out.symm, hbl⟩
    obtain ⟨b, o, x, rfl, _, hb, hx, g0, g1, g2⟩ := (hr.below hbl).atN hlt
    have hxm := hm x (List.mem_of_getElem? hx)
    rw [szF_step hx] at hF
    have HSZ := Lib.hid (szNode_t x l' W1 hl0 hl1 hxm)
    obtain ⟨z, hz⟩ : ∃ z : Int, z = l' - (x.name.size : Int) := ⟨_, rfl⟩
    rw [← hz] at hF HSZ
    have hz1 : z ≤ l' := by omega
    clear hx hz
    by_cases hneg : z < 0
    · rw [if_pos hneg] at hF HSZ
      have HF := Lib.hid hF
      clear hF
      go_wp2_with fail
      refine HSZ.out.mono ?_
      rintro e w3 ⟨rfl, hb3⟩
      go_wp2_with fail
      go_ret
      exact ⟨ret_int HF.out.symm, bel_nx hbl hb3⟩
    · rw [if_neg hneg] at hF HSZ
      have HF := Lib.hid hF
      have hz0 : 0 ≤ z := by omega
      clear hF
      go_wp2_with fail
      refine HSZ.out.mono ?_
      rintro e w3 ⟨rfl, hb3⟩
      have hbN := bel_nx hbl hb3
      go_wp2_with fail
      go_roundw
      case rel => exact ⟨k + 1, z, by omega, by go_num, rfl, hz0, by omega, HF.out, hbN⟩
      case measure => simp [intOf]; omega
theorem toNode_t (x : Nd) (w : World) :
    Calls Tryd.prog 37 #[.agg #[.int .i64 x.par, .string x.name, .int .i64 x.val]] w fun e w' => e = .returned (.agg #[.int .i64 x.par, .string x.name, .int .i64 x.val]) ∧ Below w.heap.size w w' := by
  go_enter Tryd.func37, Tryd.ntmps37
  go_wp2_with fail
  have hB := blk_alloc (heap_alloc_new (w.alloc (.cells #[.int .i64 x.par, .string x.name, .int .i64 x.val] 50)) (.cells #[.int .i64 x.par, .string x.name, .int .i64 x.val] 57)) (.cells #[.int .i64 x.par, .string x.name, .int .i64 x.val] 57)
  rw [World.size_alloc] at hB
  have r0 := blk_cell hB (i := 0) rfl
  have r1 := blk_cell hB (i := 1) rfl
  have r2 := blk_cell hB (i := 2) rfl
  refine bodyPost_ret (v := .agg #[.int .i64 x.par, .string x.name, .int .i64 x.val]) (by simp [results, Tryd.results37, go_sem, r0, r1, r2]) rfl ⟨rfl, ?_⟩
  exact (((Below.refl w.heap.size w).alloc (Nat.le_refl _) _).alloc (by simp) _).alloc (by simp; omega) _
theorem eqNode_t (x : Nd) (w : World) :
    Calls Tryd.prog 41 #[.agg #[.int .i64 x.par, .string x.name, .int .i64 x.val], .agg #[.int .i64 x.par, .string x.name, .int .i64 x.val]] w fun e w' => e = .returned (.bool true) ∧ Below w.heap.size w w' := by
  go_enter Tryd.func41, Tryd.ntmps41
  go_wp2_with fail
  go_ret
  exact ⟨rfl, ((Below.refl _ _).alloc (Nat.le_refl _) _).alloc (by simp) _⟩
theorem mkNodes (n : Nat) (hn : n ≤ 1048576) (W : World) : (Instr.makeSlice 29 (.int .i64 (n : Int)) (.int .i64 (n : Int))).run Tryd.prog W =
    .ok (.slice (some ⟨W.heap.size, 0, none⟩) n n) (W.alloc (.cells (madeCells #[.int .i64 0, .string ⟨#[]⟩, .int .i64 0] (n * 3)) 57)) :=
  make_at (z := .agg #[.int .i64 0, .string ⟨#[]⟩, .int .i64 0]) (bytes := 32) Tryd.underlying29 (by kernel_rfl) (by omega) n hn W
set_option maxHeartbeats 1000000 in
theorem toNodeS_t (lo : Nat) (A : Option Addr) (n c : Nat) (t : List Nd) (w : World) (hr : Rd cN 3 w lo A n t) (hn : n ≤ 1048576) :
    Calls Tryd.prog 10 #[.slice A n c] w fun e w' => e = .returned (.slice (some ⟨w.heap.size, 0, none⟩) n n) ∧ Own cN 3 57 w' w.heap.size (.slice (some ⟨w.heap.size, 0, none⟩) n n) t ∧ Below w.heap.size w w' := by
  have HL := Lib.hid hr.len
  have HMK := mkNodes n hn
  have hO := Own.made (cs := cN) (e := 57) (z := #[.int .i64 0, .string ⟨#[]⟩, .int .i64 0]) (x0 := ⟨0, ⟨#[]⟩, 0⟩) rfl (fun _ => rfl) (by omega : 0 < 3) n (by omega) w
  have hnI : (n : Int) ≤ 1048576 := by omega
  go_enter Tryd.func10, Tryd.ntmps10
  go_wp2_with fail
  go_loopw [4] (fun i wr => ∃ k : Nat, k ≤ n ∧ i = .int .i64 k ∧ Own cN 3 57 wr w.heap.size (.slice (some ⟨w.heap.size, 0, none⟩) n n) (fillF ⟨0, ⟨#[]⟩, 0⟩ t k) ∧ Below w.heap.size w wr) (fun i _ => n - (intOf i).toNat)
  case atStart => exact ⟨0, Nat.zero_le _, rfl, by rw [fillF_zero, HL.out]; exact hO, (Below.refl _ _).alloc (Nat.le_refl _) _⟩
  case round =>
    rename World => W1
    obtain ⟨k, hk, rfl, ho, hbl⟩ := hrel
    have hs := hbl.size
    by_cases hlt : k < n
    case neg =>
      obtain rfl : k = t.length := by have := HL.out; omega
      rw [fillF_all] at ho
      have HO := Lib.hid ho
      clear ho
      go_wp2_with fail
      go_ret
      exact ⟨rfl, HO.out, hbl⟩
    obtain ⟨b, o, x, rfl, _, hb, hx, g0, g1, g2⟩ := (hr.below hbl).atN hlt
    have hkt : k < t.length := by have := HL.out; omega
    have HT := Lib.hid (toNode_t x W1)
    have HFS := Lib.hid (fillF_set (⟨0, ⟨#[]⟩, 0⟩ : Nd) hx)
    have HFL : Hid (k < (fillF (⟨0, ⟨#[]⟩, 0⟩ : Nd) t k).length) := by show _ < _; rw [fillF_len _ _ (by omega)]; exact hkt
    have hkI : (k : Int) < (n : Int) := by omega
    have HO := Lib.hid ho
    clear hx ho
    go_wp2_with fail
    refine HT.out.mono ?_
    rintro e w3 ⟨rfl, hb3⟩
    have ho3 := HO.out.below hb3
    have hbN := bel_nx hbl hb3
    obtain ⟨_, hrd⟩ := ho3.rds (fun _ => rfl) (by rw [fillF_len _ _ (by omega)]; have := HL.out; omega)
    obtain ⟨bz, oz, z, ez, _, hbz, _, z0, z1, z2⟩ := hrd.atN hlt
    simp only [Option.some.injEq, Addr.mk.injEq, and_true] at ez
    obtain ⟨rfl, rfl⟩ := ez
    simp only [Nat.zero_add] at z0 z1 z2
    have zf := ho3.free
    have HP := Lib.hid (ho3.putN HFL.out x)
    have HBN := Lib.hid hbN
    clear hrd ho3
    go_wp2_with fail
    go_roundw
    case rel => exact ⟨k + 1, by omega, by go_num, by rw [← HFS.out]; exact HP.out, ((HBN.out.setCell (p := ⟨w.heap.size, k * 3, none⟩) (Nat.le_refl _) _).setCell (p := ⟨w.heap.size, k * 3 + 1, none⟩) (Nat.le_refl _) _).setCell (p := ⟨w.heap.size, k * 3 + 2, none⟩) (Nat.le_refl _) _⟩
    case measure => simp [intOf]; omega
theorem eqNodeS_t (lo lo2 : Nat) (A A2 : Option Addr) (n c n2 c2 : Nat) (l : List Nd) (w : World) (hr : Rd cN 3 w lo A n l) (hr2 : Rd cN 3 w lo2 A2 n2 l) :
    Calls Tryd.prog 15 #[.slice A n c, .slice A2 n2 c2] w fun e w' => e = .returned (.bool true) ∧ Below w.heap.size w w' := by
  have hn := hr.le
  obtain rfl : n2 = n := hr2.len.symm.trans hr.len
  go_enter Tryd.func15, Tryd.ntmps15
  go_wp2_with fail
  go_loopw [5] (fun i wr => ∃ k : Nat, k ≤ n2 ∧ i = .int .i64 k ∧ Below w.heap.size w wr) (fun i _ => n2 - (intOf i).toNat)
  case atStart => exact ⟨0, Nat.zero_le _, rfl, Below.refl _ _⟩
  case round =>
    rename World => W1
    obtain ⟨k, hk, rfl, hbl⟩ := hrel
    by_cases hlt : k < n2
    case neg =>
      go_wp2_with fail
      go_ret
      exact ⟨rfl, hbl⟩
    obtain ⟨b, o, x, rfl, _, hb, hx, g0, g1, g2⟩ := (hr.below hbl).atN hlt
    obtain ⟨b2, o2, y, rfl, _, hb2, hy, d0, d1, d2⟩ := (hr2.below hbl).atN hlt
    rw [hx] at hy
    injection hy with hy
    subst hy
    have a0 := aft g0
    have a1 := aft g1
    have a2 := aft g2
    have b0 := aft d0
    have b1 := aft d1
    have b2' := aft d2
    have HE := Lib.hid (fun w' => eqNode_t x w')
    clear hx hr hr2
    go_wp2_with fail
    refine wp_region_after (by kernel_rfl) (by kernel_rfl) ?_
    repeat (go_big_quiet_step ((go_at_call 41; with_reducible exact aft_call (HE.out _))))
    refine wpQuiet_nil ?_
    intro w1 hb1
    go_wp2_with fail
    go_roundw
    case rel => exact ⟨k + 1, by omega, by go_num, bel_nx hbl hb1⟩
    case measure => simp [intOf]; omega

theorem Own.putDo {e : TypeId} {w : World} {base g m cap k : Nat} {l : List Dd} (h : Own cD 2 e w base (.slice (some ⟨g, 0, none⟩) m cap) l) (hk : k < l.length) (x : Dd) :
    Own cD 2 e ((w.setCell ⟨g, k * 2, none⟩ (.int .i64 x.node)).setCell ⟨g, k * 2 + 1, none⟩ (.int .i64 x.add)) base (.slice (some ⟨g, 0, none⟩) m cap) (l.set k x) := by
  have hz : l[k]? = some l[k] := List.getElem?_eq_getElem hk
  have h1 := h.set (x' := ⟨x.node, (l[k]).add⟩) (u := .int .i64 x.node) (fun _ => rfl) hz rfl (j := 0) (by omega) (q := k * 2) (by omega)
  have h2 := h1.set (x := ⟨x.node, (l[k]).add⟩) (x' := x) (u := .int .i64 x.add) (fun _ => rfl) (List.getElem?_set_self hk) rfl (j := 1) (by omega) (q := k * 2 + 1) (by omega)
  rw [List.set_set] at h2
  exact h2
theorem toDo_t (x : Dd) (w : World) :
    Calls Tryd.prog 59 #[.agg #[.int .i64 x.node, .int .i64 x.add]] w fun e w' => e = .returned (.agg #[.int .i64 x.node, .int .i64 x.add]) ∧ Below w.heap.size w w' := by
  go_enter Tryd.func59, Tryd.ntmps59
  go_wp2_with fail
  have hB := blk_alloc (heap_alloc_new (w.alloc (.cells #[.int .i64 x.node, .int .i64 x.add] 91)) (.cells #[.int .i64 x.node, .int .i64 x.add] 73)) (.cells #[.int .i64 x.node, .int .i64 x.add] 73)
  rw [World.size_alloc] at hB
  have r0 := blk_cell hB (i := 0) rfl
  have r1 := blk_cell hB (i := 1) rfl
  refine bodyPost_ret (v := .agg #[.int .i64 x.node, .int .i64 x.add]) (by simp [results, Tryd.results59, go_sem, r0, r1]) rfl ⟨rfl, ?_⟩
  exact (((Below.refl w.heap.size w).alloc (Nat.le_refl _) _).alloc (by simp) _).alloc (by simp; omega) _
theorem mkDos (n : Nat) (hn : n ≤ 1048576) (W : World) : (Instr.makeSlice 59 (.int .i64 (n : Int)) (.int .i64 (n : Int))).run Tryd.prog W =
    .ok (.slice (some ⟨W.heap.size, 0, none⟩) n n) (W.alloc (.cells (madeCells #[.int .i64 0, .int .i64 0] (n * 2)) 73)) :=
  make_at (z := .agg #[.int .i64 0, .int .i64 0]) (bytes := 16) Tryd.underlying59 (by kernel_rfl) (by omega) n hn W
set_option maxHeartbeats 1000000 in
theorem toDoS_t (lo : Nat) (A : Option Addr) (n c : Nat) (t : List Dd) (w : World) (hr : Rd cD 2 w lo A n t) (hn : n ≤ 1048576) :
    Calls Tryd.prog 38 #[.slice A n c] w fun e w' => e = .returned (.slice (some ⟨w.heap.size, 0, none⟩) n n) ∧ Own cD 2 73 w' w.heap.size (.slice (some ⟨w.heap.size, 0, none⟩) n n) t ∧ Below w.heap.size w w' := by
  have HL := Lib.hid hr.len
  have HMK := mkDos n hn
  have hO := Own.made (cs := cD) (e := 73) (z := #[.int .i64 0, .int .i64 0]) (x0 := ⟨0, 0⟩) rfl (fun _ => rfl) (by omega : 0 < 2) n (by omega) w
  have hnI : (n : Int) ≤ 1048576 := by omega
  go_enter Tryd.func38, Tryd.ntmps38
  go_wp2_with fail
  go_loopw [4] (fun i wr => ∃ k : Nat, k ≤ n ∧ i = .int .i64 k ∧ Own cD 2 73 wr w.heap.size (.slice (some ⟨w.heap.size, 0, none⟩) n n) (fillF ⟨0, 0⟩ t k) ∧ Below w.heap.size w wr) (fun i _ => n - (intOf i).toNat)
  case atStart => exact ⟨0, Nat.zero_le _, rfl, by rw [fillF_zero, HL.out]; exact hO, (Below.refl _ _).alloc (Nat.le_refl _) _⟩
  case round =>
    rename World => W1
    obtain ⟨k, hk, rfl, ho, hbl⟩ := hrel
    have hs := hbl.size
    by_cases hlt : k < n
    case neg =>
      obtain rfl : k = t.length := by have := HL.out; omega
      rw [fillF_all] at ho
      have HO := Lib.hid ho
      clear ho
      go_wp2_with fail
      go_ret
      exact ⟨rfl, HO.out, hbl⟩
    obtain ⟨b, o, x, rfl, _, hb, hx, g0, g1⟩ := (hr.below hbl).atD hlt
    have hkt : k < t.length := by have := HL.out; omega
    have HT := Lib.hid (toDo_t x W1)
    have HFS := Lib.hid (fillF_set (⟨0, 0⟩ : Dd) hx)
    have HFL : Hid (k < (fillF (⟨0, 0⟩ : Dd) t k).length) := by show _ < _; rw [fillF_len _ _ (by omega)]; exact hkt
    have hkI : (k : Int) < (n : Int) := by omega
    have HO := Lib.hid ho
    clear hx ho
    go_wp2_with fail
    refine HT.out.mono ?_
    rintro e w3 ⟨rfl, hb3⟩
    have ho3 := HO.out.below hb3
    have hbN := bel_nx hbl hb3
    obtain ⟨_, hrd⟩ := ho3.rds (fun _ => rfl) (by rw [fillF_len _ _ (by omega)]; have := HL.out; omega)
    obtain ⟨bz, oz, z, ez, _, hbz, _, z0, z1⟩ := hrd.atD hlt
    simp only [Option.some.injEq, Addr.mk.injEq, and_true] at ez
    obtain ⟨rfl, rfl⟩ := ez
    simp only [Nat.zero_add] at z0 z1
    have zf := ho3.free
    have HP := Lib.hid (ho3.putDo HFL.out x)
    have HBN := Lib.hid hbN
    clear hrd ho3
    go_wp2_with fail
    go_roundw
    case rel => exact ⟨k + 1, by omega, by go_num, by rw [← HFS.out]; exact HP.out, ((HBN.out.setCell (p := ⟨w.heap.size, k * 2, none⟩) (Nat.le_refl _) _).setCell (p := ⟨w.heap.size, k * 2 + 1, none⟩) (Nat.le_refl _) _)⟩
    case measure => simp [intOf]; omega
theorem eqDo_t (x : Dd) (w : World) :
    Calls Tryd.prog 63 #[.agg #[.int .i64 x.node, .int .i64 x.add], .agg #[.int .i64 x.node, .int .i64 x.add]] w fun e w' => e = .returned (.bool true) ∧ Below w.heap.size w w' := by
  go_enter Tryd.func63, Tryd.ntmps63
  go_wp2_with fail
  go_ret
  exact ⟨rfl, ((Below.refl _ _).alloc (Nat.le_refl _) _).alloc (by simp) _⟩
theorem eqDoS_t (lo lo2 : Nat) (A A2 : Option Addr) (n c n2 c2 : Nat) (l : List Dd) (w : World) (hr : Rd cD 2 w lo A n l) (hr2 : Rd cD 2 w lo2 A2 n2 l) :
    Calls Tryd.prog 42 #[.slice A n c, .slice A2 n2 c2] w fun e w' => e = .returned (.bool true) ∧ Below w.heap.size w w' := by
  have hn := hr.le
  obtain rfl : n2 = n := hr2.len.symm.trans hr.len
  go_enter Tryd.func42, Tryd.ntmps42
  go_wp2_with fail
  go_loopw [5] (fun i wr => ∃ k : Nat, k ≤ n2 ∧ i = .int .i64 k ∧ Below w.heap.size w wr) (fun i _ => n2 - (intOf i).toNat)
  case atStart => exact ⟨0, Nat.zero_le _, rfl, Below.refl _ _⟩
  case round =>
    rename World => W1
    obtain ⟨k, hk, rfl, hbl⟩ := hrel
    by_cases hlt : k < n2
    case neg =>
      go_wp2_with fail
      go_ret
      exact ⟨rfl, hbl⟩
    obtain ⟨b, o, x, rfl, _, hb, hx, g0, g1⟩ := (hr.below hbl).atD hlt
    obtain ⟨b2, o2, y, rfl, _, hb2, hy, d0, d1⟩ := (hr2.below hbl).atD hlt
    rw [hx] at hy
    injection hy with hy
    subst hy
    have a0 := aft g0
    have b0' := aft d0
    have a1 := aft g1
    have b1' := aft d1
    have HE := Lib.hid (fun w' => eqDo_t x w')
    clear hx hr hr2
    go_wp2_with fail
    refine wp_region_after (by kernel_rfl) (by kernel_rfl) ?_
    repeat (go_big_quiet_step ((go_at_call 63; with_reducible exact aft_call (HE.out _))))
    refine wpQuiet_nil ?_
    intro w1 hb1
    go_wp2_with fail
    go_roundw
    case rel => exact ⟨k + 1, by omega, by go_num, bel_nx hbl hb1⟩
    case measure => simp [intOf]; omega

/-- What is left of a size behind the lengths of rows; -1 where nothing is left. -/
def szV : List Sl → Int → Int
  | [], left => left
  | x :: r, left => if left - (x.n : Int) < 0 then -1 else szV r (left - (x.n : Int))
theorem szV_le : ∀ (l : List Sl) (left : Int), 0 ≤ szV l left → szV l left ≤ left ∧ ∀ x ∈ l, (x.n : Int) ≤ left
  | [], left, _ => ⟨Int.le_refl _, fun x hx => by cases hx⟩
  | y :: r, left, h => by
    rw [szV] at h ⊢
    by_cases e : left - (y.n : Int) < 0
    · rw [if_pos e] at h; omega
    · rw [if_neg e] at h ⊢
      obtain ⟨h1, h2⟩ := szV_le r _ h
      refine ⟨by omega, fun x hx => ?_⟩
      rcases List.mem_cons.1 hx with rfl | hx
      · omega
      · have := h2 x hx; omega
theorem szV_neg : ∀ (l : List Sl) (left : Int), 0 ≤ left → -1 ≤ szV l left
  | [], left, h => by rw [szV]; omega
  | y :: r, left, h => by
    rw [szV]
    by_cases e : left - (y.n : Int) < 0
    · rw [if_pos e]; omega
    · rw [if_neg e]; exact szV_neg r _ (by omega)
theorem szV_step {l : List Sl} {k : Nat} {x : Sl} (hx : l[k]? = some x) (left : Int) : szV (l.drop k) left = if left - (x.n : Int) < 0 then -1 else szV (l.drop (k + 1)) (left - (x.n : Int)) := by
  rw [drop_cons hx, szV]
theorem Rd.atV {w : World} {lo n k : Nat} {A : Option Addr} {l : List Sl} (h : Rd cV 1 w lo A n l) (hk : k < n) : ∃ b o x, A = some ⟨b, o, none⟩ ∧ lo ≤ b ∧ b < w.heap.size ∧ l[k]? = some x ∧ w.cell? ⟨b, o + k, none⟩ = some (.slice x.a x.n x.c) := by
  obtain ⟨b, o, x, e, hlo, hb, hx, hc⟩ := h.get hk
  exact ⟨b, o, x, e, hlo, hb, hx, by simpa using hc 0 _ rfl⟩
theorem szDoS_t (A : Option Addr) (n c : Nat) (left : Int) (w : World) (h0 : 0 ≤ left) (h1 : left ≤ 1048576) (h63 : n ≤ 9223372036854775807) :
    Calls Tryd.prog 34 #[.slice A n c, .int .i64 left] w fun e w' => e = .returned (.int .i64 (if left - (n : Int) < 0 then -1 else left - (n : Int))) ∧ Below w.heap.size w w' := by
  by_cases hn : left - (n : Int) < 0
  · rw [if_pos hn]
    go_enter Tryd.func34, Tryd.ntmps34
    go_wp2_with fail
    go_ret
    exact ⟨rfl, Below.refl _ _⟩
  · rw [if_neg hn]
    go_enter Tryd.func34, Tryd.ntmps34
    go_wp2_with fail
    go_ret
    exact ⟨rfl, Below.refl _ _⟩
theorem szDoSS_big (A : Option Addr) (n c : Nat) (left : Int) (w : World) (h0 : 0 ≤ left) (h1 : left ≤ 1048576) (hn : left < n) (h63 : n ≤ 9223372036854775807) :
    Calls Tryd.prog 8 #[.slice A n c, .int .i64 left] w fun e w' => e = .returned (.int .i64 (-1)) ∧ Below w.heap.size w w' := by
  have hn' : left - (n : Int) < 0 := by omega
  go_enter Tryd.func8, Tryd.ntmps8
  go_wp2_with fail
  go_ret
  exact ⟨rfl, Below.refl _ _⟩
theorem szDoSS_t (lo : Nat) (A : Option Addr) (n c : Nat) (t : List Sl) (left : Int) (w : World) (hr : Rd cV 1 w lo A n t) (hm : ∀ x ∈ t, x.n ≤ 9223372036854775807) (h0 : 0 ≤ left) (h1 : left ≤ 1048576) (hn : (n : Int) ≤ left) :
    Calls Tryd.prog 8 #[.slice A n c, .int .i64 left] w fun e w' => e = .returned (.int .i64 (szV t (left - n))) ∧ Below w.heap.size w w' := by
  have hn' : ¬ left - (n : Int) < 0 := by omega
  have HL := Lib.hid hr.len
  obtain ⟨R, hR⟩ : ∃ R, R = szV t (left - n) := ⟨_, rfl⟩
  rw [← hR]
  have HR := Lib.hid hR
  clear hR
  go_enter Tryd.func8, Tryd.ntmps8
  go_wp2_with fail
  go_loopw [1, 5] (fun v i wr => ∃ (k : Nat) (l' : Int), k ≤ n ∧ i = .int .i64 k ∧ v = .int .i64 l' ∧ 0 ≤ l' ∧ l' ≤ 1048576 ∧ R = szV (t.drop k) l' ∧ Below w.heap.size w wr) (fun _ i _ => n - (intOf i).toNat)
  case atStart => exact ⟨0, left - n, Nat.zero_le _, rfl, rfl, by omega, by omega, HR.out, Below.refl _ _⟩
  case round =>
    rename World => W1
    obtain ⟨k, l', hk, rfl, rfl, hl0, hl1, hF, hbl⟩ := hrel
    by_cases hlt : k < n
    case neg =>
      have hd : t.drop k = [] := List.drop_eq_nil_of_le (by have := HL.out; omega)
      rw [hd] at hF
      have HF : Hid (R = l') := hF
      clear hF hd
      go_wp2_with fail
      go_ret
      exact ⟨ret_int HF.out.symm, hbl⟩
    obtain ⟨b, o, x, rfl, _, hb, hx, g0⟩ := (hr.below hbl).atV hlt
    have hxm := hm x (List.mem_of_getElem? hx)
    rw [szV_step hx] at hF
    have HSZ := Lib.hid (szDoS_t x.a x.n x.c l' W1 hl0 hl1 hxm)
    obtain ⟨z, hz⟩ : ∃ z : Int, z = l' - (x.n : Int) := ⟨_, rfl⟩
    rw [← hz] at hF HSZ
    have hz1 : z ≤ l' := by omega
    clear hx hz
    by_cases hneg : z < 0
    · rw [if_pos hneg] at hF HSZ
      have HF := Lib.hid hF
      clear hF
      go_wp2_with fail
      refine HSZ.out.mono ?_
      rintro e w3 ⟨rfl, hb3⟩
      go_wp2_with fail
      go_ret
      exact ⟨ret_int HF.out.symm, bel_nx hbl hb3⟩
    · rw [if_neg hneg] at hF HSZ
      have HF := Lib.hid hF
      have hz0 : 0 ≤ z := by omega
      clear hF
      go_wp2_with fail
      refine HSZ.out.mono ?_
      rintro e w3 ⟨rfl, hb3⟩
      have hbN := bel_nx hbl hb3
      go_wp2_with fail
      go_roundw
      case rel => exact ⟨k + 1, z, by omega, by go_num, rfl, hz0, by omega, HF.out, hbN⟩
      case measure => simp [intOf]; omega
/-- Scripts of the call's own: each row lies by itself. -/
structure Dss (w : World) (base : Nat) (v : Value) (vs : List Sl) (sc : List (List Dd)) : Prop where
  out : Own cV 1 59 w base v vs
  rows : Owd cD 2 73 w base vs sc
  apart : vs.Pairwise fun x y => ∀ i j, x.a = some i → y.a = some j → i.block ≠ j.block
theorem Dss.below {w w' : World} {base : Nat} {v : Value} {vs : List Sl} {sc : List (List Dd)} (h : Dss w base v vs sc) (hb : Below w.heap.size w w') : Dss w' base v vs sc := ⟨h.out.below hb, h.rows.below hb, h.apart⟩
theorem Dss.rds {w : World} {base : Nat} {A : Option Addr} {n c : Nat} {vs : List Sl} {sc : List (List Dd)} (h : Dss w base (.slice A n c) vs sc) (hn : n ≤ 1000000000000000) (hl : ∀ l ∈ sc, l.length ≤ 1000000000000000) : Rds cD 2 w base A n sc := by
  have h1 := h.out.rds (fun _ => rfl) (by have := h.out.lenV; simp only [lenV] at this; omega)
  exact ⟨vs, h1.2, h.rows.rdd (fun _ => rfl) hl⟩
theorem mkRows (n : Nat) (hn : n ≤ 1048576) (W : World) : (Instr.makeSlice 31 (.int .i64 (n : Int)) (.int .i64 (n : Int))).run Tryd.prog W =
    .ok (.slice (some ⟨W.heap.size, 0, none⟩) n n) (W.alloc (.cells (madeCells #[.slice none 0 0] (n * 1)) 59)) :=
  make_at (z := .slice none 0 0) (bytes := 24) Tryd.underlying31 (by kernel_rfl) (by omega) n hn W
theorem own_blk {α : Type} {cs : α → List Value} {sz : Nat} {e : TypeId} {w : World} {base g m cap : Nat} {l : List α} (h : Own cs sz e w base (.slice (some ⟨g, 0, none⟩) m cap) l) : ∃ cur, w.heap[g]? = some (.cells cur e (0, 0)) := by
  rcases h.2 with ⟨h', _⟩ | ⟨g', cap', cur, h', _, hg, _⟩
  · simp at h'
  · simp only [Value.slice.injEq, Option.some.injEq, Addr.mk.injEq, and_true] at h'
    obtain ⟨rfl, _⟩ := h'
    exact ⟨cur, hg⟩
set_option maxHeartbeats 1600000 in
theorem toDoSS_t (lo : Nat) (A : Option Addr) (n c : Nat) (sc : List (List Dd)) (w : World) (hr : Rds cD 2 w lo A n sc) (hn : n ≤ 1048576) (hrow : ∀ l ∈ sc, l.length ≤ 1048576) :
    Calls Tryd.prog 11 #[.slice A n c] w fun e w' => e = .returned (.slice (some ⟨w.heap.size, 0, none⟩) n n) ∧ (∃ vs, Dss w' w.heap.size (.slice (some ⟨w.heap.size, 0, none⟩) n n) vs sc) ∧ Below w.heap.size w w' := by
  have HL := Lib.hid hr.len
  have HMK := mkRows n hn
  have hO := Own.made (cs := cV) (e := 59) (z := #[.slice none 0 0]) (x0 := ⟨none, 0, 0⟩) rfl (fun _ => rfl) (by omega : 0 < 1) n (by omega) w
  rw [Nat.mul_one] at hO
  have hnI : (n : Int) ≤ 1048576 := by omega
  go_enter Tryd.func11, Tryd.ntmps11
  go_wp2_with fail
  go_loopw [4] (fun i wr => ∃ (k : Nat) (vs : List Sl), k ≤ n ∧ i = .int .i64 k ∧ vs.length = k ∧ Own cV 1 59 wr w.heap.size (.slice (some ⟨w.heap.size, 0, none⟩) n n) (vs ++ List.replicate (n - k) ⟨none, 0, 0⟩) ∧ Owd cD 2 73 wr w.heap.size vs (sc.take k) ∧
    (vs.Pairwise fun x y => ∀ i j, x.a = some i → y.a = some j → i.block ≠ j.block) ∧ (∀ v ∈ vs, ∀ i, v.a = some i → i.block < wr.heap.size) ∧ Below w.heap.size w wr) (fun i _ => n - (intOf i).toNat)
  case atStart => exact ⟨0, [], Nat.zero_le _, rfl, rfl, by simpa using hO, Owd.nil, List.Pairwise.nil, (fun v hv => by cases hv), (Below.refl _ _).alloc (Nat.le_refl _) _⟩
  case round =>
    rename World => W1
    obtain ⟨k, vs, hk, rfl, hvl, ho, hd, hap, hbk, hbl⟩ := hrel
    have hs := hbl.size
    by_cases hlt : k < n
    case neg =>
      obtain rfl : k = n := by omega
      have e1 : k - k = 0 := by omega
      rw [e1, List.replicate_zero, List.append_nil] at ho
      rw [List.take_of_length_le (by have := HL.out; omega)] at hd
      have HO : Hid (Dss W1 w.heap.size (.slice (some ⟨w.heap.size, 0, none⟩) k k) vs sc) := ⟨ho, hd, hap⟩
      clear ho hd hap
      go_wp2_with fail
      go_ret
      exact ⟨rfl, ⟨vs, HO.out⟩, hbl⟩
    obtain ⟨b, o, A', m', c', row, rfl, _, hb, hrx, g0, hmc, hrow'⟩ := (hr.below hbl).get hlt
    have hml : row.length ≤ 1048576 := hrow row (List.mem_of_getElem? hrx)
    have HT := Lib.hid (toDoS_t _ A' m' c' row W1 hrow' (by have := hrow'.len; omega))
    have hkI : (k : Int) < (n : Int) := by omega
    have HO := Lib.hid ho
    have HD := Lib.hid hd
    have HAP := Lib.hid hap
    have HBK := Lib.hid hbk
    have HTS : Hid (sc.take (k + 1) = sc.take k ++ [row]) := take_snoc hrx
    have HVL := Lib.hid hvl
    clear hrx ho hd hap hbk hrow' hvl
    go_wp2_with fail
    refine HT.out.mono ?_
    rintro e w3 ⟨rfl, hr3, hb3⟩
    have ho3 := HO.out.below hb3
    have hs3 := hb3.size
    obtain ⟨cur, hcur⟩ := own_blk ho3
    obtain ⟨_, hrd⟩ := ho3.rds (fun _ => rfl) (by simp; have := HVL.out; omega)
    obtain ⟨bz, oz, z, ez, _, hbz, hz, z0⟩ := hrd.atV hlt
    simp only [Option.some.injEq, Addr.mk.injEq, and_true] at ez
    obtain ⟨rfl, rfl⟩ := ez
    simp only [Nat.zero_add] at z0
    have zf := ho3.free
    have hl3 : W1.heap.size < w3.heap.size := by obtain ⟨_, hc3⟩ := own_blk hr3; exact blk_lt hc3
    have hset := ho3.set (x' := ⟨some ⟨W1.heap.size, 0, none⟩, m', m'⟩) (u := .slice (some ⟨W1.heap.size, 0, none⟩) m' m') (fun _ => rfl) hz rfl (j := 0) (by omega) (q := k) (by omega)
    have hlst : (vs ++ List.replicate (n - k) (⟨none, 0, 0⟩ : Sl)).set k ⟨some ⟨W1.heap.size, 0, none⟩, m', m'⟩ = (vs ++ [⟨some ⟨W1.heap.size, 0, none⟩, m', m'⟩]) ++ List.replicate (n - (k + 1)) ⟨none, 0, 0⟩ := by
      have := HVL.out
      rw [List.set_append_right _ _ (by omega), show k - vs.length = 0 by omega, show n - k = (n - (k + 1)) + 1 by omega, List.replicate_succ, List.set_cons_zero]
      simp
    rw [hlst] at hset
    have HSET := Lib.hid hset
    have HDN : Hid (Owd cD 2 73 (w3.setCell ⟨w.heap.size, k, none⟩ (.slice (some ⟨W1.heap.size, 0, none⟩) m' m')) w.heap.size (vs ++ [⟨some ⟨W1.heap.size, 0, none⟩, m', m'⟩]) (sc.take (k + 1))) := by
      show Owd _ _ _ _ _ _ _
      rw [HTS.out]
      exact ((HD.out.below hb3).setCell hcur (by decide) _).snoc ((hr3.low hs).keepb hcur (by decide) _ _)
    have HAN : Hid ((vs ++ [(⟨some ⟨W1.heap.size, 0, none⟩, m', m'⟩ : Sl)]).Pairwise fun x y => ∀ i j, x.a = some i → y.a = some j → i.block ≠ j.block) := by
      show List.Pairwise _ _
      refine List.pairwise_append.2 ⟨HAP.out, List.pairwise_singleton _ _, fun x hx y hy i j hi hj => ?_⟩
      simp only [List.mem_singleton] at hy
      subst hy
      simp only [Option.some.injEq] at hj
      subst hj
      have := HBK.out x hx i hi
      simp only
      omega
    have HBN : Hid (∀ v ∈ vs ++ [(⟨some ⟨W1.heap.size, 0, none⟩, m', m'⟩ : Sl)], ∀ i, v.a = some i → i.block < (w3.setCell ⟨w.heap.size, k, none⟩ (.slice (some ⟨W1.heap.size, 0, none⟩) m' m')).heap.size) := fun v hv i hi => by
      have e : (w3.setCell ⟨w.heap.size, k, none⟩ (.slice (some ⟨W1.heap.size, 0, none⟩) m' m')).heap.size = w3.heap.size := by simp [World.setCell]
      rw [e]
      rcases List.mem_append.1 hv with hv | hv
      · have := HBK.out v hv i hi; omega
      · simp only [List.mem_singleton] at hv
        subst hv
        simp only [Option.some.injEq] at hi
        subst hi
        exact hl3
    have HBL := Lib.hid ((bel_nx hbl hb3).setCell (p := ⟨w.heap.size, k, none⟩) (Nat.le_refl _) (.slice (some ⟨W1.heap.size, 0, none⟩) m' m'))
    clear hrd ho3 hset hlst hr3 hz hcur
    go_wp2_with fail
    go_roundw
    case rel => exact ⟨k + 1, _, by omega, by go_num, by rw [List.length_append, HVL.out]; rfl, HSET.out, HDN.out, HAN.out, HBN.out, HBL.out⟩
    case measure => simp [intOf]; omega
theorem eqDoSS_t (lo lo2 : Nat) (A A2 : Option Addr) (n c n2 c2 : Nat) (l : List (List Dd)) (w : World) (hr : Rds cD 2 w lo A n l) (hr2 : Rds cD 2 w lo2 A2 n2 l) :
    Calls Tryd.prog 16 #[.slice A n c, .slice A2 n2 c2] w fun e w' => e = .returned (.bool true) ∧ Below w.heap.size w w' := by
  have hn := hr.le
  obtain rfl : n2 = n := hr2.len.symm.trans hr.len
  go_enter Tryd.func16, Tryd.ntmps16
  go_wp2_with fail
  go_loopw [5] (fun i wr => ∃ k : Nat, k ≤ n2 ∧ i = .int .i64 k ∧ Below w.heap.size w wr) (fun i _ => n2 - (intOf i).toNat)
  case atStart => exact ⟨0, Nat.zero_le _, rfl, Below.refl _ _⟩
  case round =>
    rename World => W1
    obtain ⟨k, hk, rfl, hbl⟩ := hrel
    by_cases hlt : k < n2
    case neg =>
      go_wp2_with fail
      go_ret
      exact ⟨rfl, hbl⟩
    obtain ⟨b, o, A', m', c', x, rfl, _, hb, hx, g0, hmc, hrx⟩ := (hr.below hbl).get hlt
    obtain ⟨b2, o2, B', m2, d', y, rfl, _, hb2, hy, d0, hmd, hry⟩ := (hr2.below hbl).get hlt
    rw [hx] at hy
    injection hy with hy
    subst hy
    have a0 := aft g0
    have b0 := aft d0
    have HE := Lib.hid (fun w' (hb' : Below W1.heap.size W1 w') => eqDoS_t _ _ A' B' m' c' m2 d' x w' (hrx.below hb') (hry.below hb'))
    clear hx hr hr2 hrx hry
    go_wp2_with fail
    refine wp_region_after (by kernel_rfl) (by kernel_rfl) ?_
    repeat (go_big_quiet_step ((go_at_call 42; with_reducible exact aft_call (HE.out _ (After.below _)))))
    refine wpQuiet_nil ?_
    intro w1 hb1
    go_wp2_with fail
    go_roundw
    case rel => exact ⟨k + 1, by omega, by go_num, bel_nx hbl hb1⟩
    case measure => simp [intOf]; omega
theorem mkInts2 (n : Nat) (hn : n ≤ 1048576) (W : World) : (Instr.makeSlice 24 (.int .i64 (n : Int)) (.int .i64 (n : Int))).run Tryd.prog W =
    .ok (.slice (some ⟨W.heap.size, 0, none⟩) n n) (W.alloc (.cells (madeCells #[.int .i64 0] (n * 1)) 3)) :=
  make_at (z := .int .i64 0) (bytes := 8) Tryd.underlying24 (by kernel_rfl) (by omega) n hn W
theorem toIntS_t (lo : Nat) (A : Option Addr) (n c : Nat) (t : List Int) (w : World) (hr : Rd cI 1 w lo A n t) (hn : n ≤ 1048576) :
    Calls Tryd.prog 12 #[.slice A n c] w fun e w' => e = .returned (.slice (some ⟨w.heap.size, 0, none⟩) n n) ∧ Own cI 1 3 w' w.heap.size (.slice (some ⟨w.heap.size, 0, none⟩) n n) t ∧ Below w.heap.size w w' := by
  have HL := Lib.hid hr.len
  have HMK := mkInts2 n hn
  have hO := Own.made (cs := cI) (e := 3) (z := #[.int .i64 0]) (x0 := (0 : Int)) rfl (fun _ => rfl) (by omega : 0 < 1) n (by omega) w
  rw [Nat.mul_one] at hO
  have hnI : (n : Int) ≤ 1048576 := by omega
  go_enter Tryd.func12, Tryd.ntmps12
  go_wp2_with fail
  go_loopw [4] (fun i wr => ∃ k : Nat, k ≤ n ∧ i = .int .i64 k ∧ Own cI 1 3 wr w.heap.size (.slice (some ⟨w.heap.size, 0, none⟩) n n) (fillF (0 : Int) t k) ∧ Below w.heap.size w wr) (fun i _ => n - (intOf i).toNat)
  case atStart => exact ⟨0, Nat.zero_le _, rfl, by rw [fillF_zero, HL.out]; exact hO, (Below.refl _ _).alloc (Nat.le_refl _) _⟩
  case round =>
    rename World => W1
    obtain ⟨k, hk, rfl, ho, hbl⟩ := hrel
    have hs := hbl.size
    by_cases hlt : k < n
    case neg =>
      obtain rfl : k = t.length := by have := HL.out; omega
      rw [fillF_all] at ho
      have HO := Lib.hid ho
      clear ho
      go_wp2_with fail
      go_ret
      exact ⟨rfl, HO.out, hbl⟩
    obtain ⟨b, o, x, rfl, _, hb, hx, g0⟩ := (hr.below hbl).atI hlt
    have hkt : k < t.length := by have := HL.out; omega
    have HFS := Lib.hid (fillF_set (0 : Int) hx)
    have hkI : (k : Int) < (n : Int) := by omega
    obtain ⟨_, hrd⟩ := ho.rds (fun _ => rfl) (by rw [fillF_len _ _ (by omega)]; have := HL.out; omega)
    obtain ⟨bz, oz, z, ez, _, hbz, hz, z0⟩ := hrd.atI hlt
    simp only [Option.some.injEq, Addr.mk.injEq, and_true] at ez
    obtain ⟨rfl, rfl⟩ := ez
    simp only [Nat.zero_add] at z0
    have zf := ho.free
    have HP := Lib.hid (ho.set (x' := x) (u := .int .i64 x) (fun _ => rfl) hz rfl (j := 0) (by omega) (q := k) (by omega))
    have HBN := Lib.hid hbl
    clear hrd ho hx hz
    go_wp2_with fail
    go_roundw
    case rel => exact ⟨k + 1, by omega, by go_num, by rw [← HFS.out]; exact HP.out, HBN.out.setCell (p := ⟨w.heap.size, k, none⟩) (Nat.le_refl _) _⟩
    case measure => simp [intOf]; omega
theorem eqIntS_t (lo lo2 : Nat) (A A2 : Option Addr) (n c n2 c2 : Nat) (l : List Int) (w : World) (hr : Rd cI 1 w lo A n l) (hr2 : Rd cI 1 w lo2 A2 n2 l) :
    Calls Tryd.prog 17 #[.slice A n c, .slice A2 n2 c2] w fun e w' => e = .returned (.bool true) ∧ Below w.heap.size w w' := by
  have hn := hr.le
  obtain rfl : n2 = n := hr2.len.symm.trans hr.len
  go_enter Tryd.func17, Tryd.ntmps17
  go_wp2_with fail
  go_loopw [5] (fun i wr => ∃ k : Nat, k ≤ n2 ∧ i = .int .i64 k ∧ Below w.heap.size w wr) (fun i _ => n2 - (intOf i).toNat)
  case atStart => exact ⟨0, Nat.zero_le _, rfl, Below.refl _ _⟩
  case round =>
    rename World => W1
    obtain ⟨k, hk, rfl, hbl⟩ := hrel
    by_cases hlt : k < n2
    case neg =>
      go_wp2_with fail
      go_ret
      exact ⟨rfl, hbl⟩
    obtain ⟨b, o, x, rfl, _, hb, hx, g0⟩ := (hr.below hbl).atI hlt
    obtain ⟨b2, o2, y, rfl, _, hb2, hy, d0⟩ := (hr2.below hbl).atI hlt
    rw [hx] at hy
    injection hy with hy
    subst hy
    have a0 := aft g0
    have b0 := aft d0
    clear hx hr hr2
    go_wp2_with fail
    refine wp_region_after (by kernel_rfl) (by kernel_rfl) ?_
    repeat (go_big_quiet_step (fail))
    refine wpQuiet_nil ?_
    intro w1 hb1
    go_wp2_with fail
    go_roundw
    case rel => exact ⟨k + 1, by omega, by go_num, bel_nx hbl hb1⟩
    case measure => simp [intOf]; omega

theorem Own.putLock {e : TypeId} {w : World} {base g m cap k : Nat} {l : List Lk} (h : Own cL 3 e w base (.slice (some ⟨g, 0, none⟩) m cap) l) (hk : k < l.length) (x : Lk) :
    Own cL 3 e (((w.setCell ⟨g, k * 3, none⟩ (.int .i64 x.who)).setCell ⟨g, k * 3 + 1, none⟩ (.int .i64 x.node)).setCell ⟨g, k * 3 + 2, none⟩ (.int .i64 x.mode)) base (.slice (some ⟨g, 0, none⟩) m cap) (l.set k x) := by
  have hz : l[k]? = some l[k] := List.getElem?_eq_getElem hk
  have h1 := h.set (x' := ⟨x.who, (l[k]).node, (l[k]).mode⟩) (u := .int .i64 x.who) (fun _ => rfl) hz rfl (j := 0) (by omega) (q := k * 3) (by omega)
  have h2 := h1.set (x := ⟨x.who, (l[k]).node, (l[k]).mode⟩) (x' := ⟨x.who, x.node, (l[k]).mode⟩) (u := .int .i64 x.node) (fun _ => rfl) (List.getElem?_set_self hk) rfl (j := 1) (by omega) (q := k * 3 + 1) (by omega)
  have h3 := h2.set (x := ⟨x.who, x.node, (l[k]).mode⟩) (x' := x) (u := .int .i64 x.mode) (fun _ => rfl) (by rw [List.set_set]; exact List.getElem?_set_self hk) rfl (j := 2) (by omega) (q := k * 3 + 2) (by omega)
  rw [List.set_set, List.set_set] at h3
  exact h3
theorem Own.putWait {e : TypeId} {w : World} {base g m cap k : Nat} {l : List Wt} (h : Own cW 2 e w base (.slice (some ⟨g, 0, none⟩) m cap) l) (hk : k < l.length) (x : Wt) :
    Own cW 2 e ((w.setCell ⟨g, k * 2, none⟩ (.int .i64 x.who)).setCell ⟨g, k * 2 + 1, none⟩ (.int .i64 x.tgt)) base (.slice (some ⟨g, 0, none⟩) m cap) (l.set k x) := by
  have hz : l[k]? = some l[k] := List.getElem?_eq_getElem hk
  have h1 := h.set (x' := ⟨x.who, (l[k]).tgt⟩) (u := .int .i64 x.who) (fun _ => rfl) hz rfl (j := 0) (by omega) (q := k * 2) (by omega)
  have h2 := h1.set (x := ⟨x.who, (l[k]).tgt⟩) (x' := x) (u := .int .i64 x.tgt) (fun _ => rfl) (List.getElem?_set_self hk) rfl (j := 1) (by omega) (q := k * 2 + 1) (by omega)
  rw [List.set_set] at h2
  exact h2
theorem eqLock_t (x : Lk) (w : World) :
    Calls Tryd.prog 40 #[.agg #[.int .i64 x.who, .int .i64 x.node, .int .i64 x.mode], .agg #[.int .i64 x.who, .int .i64 x.node, .int .i64 x.mode]] w fun e w' => e = .returned (.bool true) ∧ Below w.heap.size w w' := by
  go_enter Tryd.func40, Tryd.ntmps40
  go_wp2_with fail
  go_ret
  exact ⟨rfl, ((Below.refl _ _).alloc (Nat.le_refl _) _).alloc (by simp) _⟩
theorem eqLockS_t (lo lo2 : Nat) (A A2 : Option Addr) (n c n2 c2 : Nat) (l : List Lk) (w : World) (hr : Rd cL 3 w lo A n l) (hr2 : Rd cL 3 w lo2 A2 n2 l) :
    Calls Tryd.prog 14 #[.slice A n c, .slice A2 n2 c2] w fun e w' => e = .returned (.bool true) ∧ Below w.heap.size w w' := by
  have hn := hr.le
  obtain rfl : n2 = n := hr2.len.symm.trans hr.len
  go_enter Tryd.func14, Tryd.ntmps14
  go_wp2_with fail
  go_loopw [5] (fun i wr => ∃ k : Nat, k ≤ n2 ∧ i = .int .i64 k ∧ Below w.heap.size w wr) (fun i _ => n2 - (intOf i).toNat)
  case atStart => exact ⟨0, Nat.zero_le _, rfl, Below.refl _ _⟩
  case round =>
    rename World => W1
    obtain ⟨k, hk, rfl, hbl⟩ := hrel
    by_cases hlt : k < n2
    case neg =>
      go_wp2_with fail
      go_ret
      exact ⟨rfl, hbl⟩
    obtain ⟨b, o, x, rfl, _, hb, hx, g0, g1, g2⟩ := (hr.below hbl).atL hlt
    obtain ⟨b2, o2, y, rfl, _, hb2, hy, d0, d1, d2⟩ := (hr2.below hbl).atL hlt
    rw [hx] at hy
    injection hy with hy
    subst hy
    have a0 := aft g0
    have b0' := aft d0
    have a1 := aft g1
    have b1' := aft d1
    have a2 := aft g2
    have b2' := aft d2
    have HE := Lib.hid (fun w' => eqLock_t x w')
    clear hx hr hr2
    go_wp2_with fail
    refine wp_region_after (by kernel_rfl) (by kernel_rfl) ?_
    repeat (go_big_quiet_step ((go_at_call 40; with_reducible exact aft_call (HE.out _))))
    refine wpQuiet_nil ?_
    intro w1 hb1
    go_wp2_with fail
    go_roundw
    case rel => exact ⟨k + 1, by omega, by go_num, bel_nx hbl hb1⟩
    case measure => simp [intOf]; omega
theorem eqWait_t (x : Wt) (w : World) :
    Calls Tryd.prog 53 #[.agg #[.int .i64 x.who, .int .i64 x.tgt], .agg #[.int .i64 x.who, .int .i64 x.tgt]] w fun e w' => e = .returned (.bool true) ∧ Below w.heap.size w w' := by
  go_enter Tryd.func53, Tryd.ntmps53
  go_wp2_with fail
  go_ret
  exact ⟨rfl, ((Below.refl _ _).alloc (Nat.le_refl _) _).alloc (by simp) _⟩
theorem eqWaitS_t (lo lo2 : Nat) (A A2 : Option Addr) (n c n2 c2 : Nat) (l : List Wt) (w : World) (hr : Rd cW 2 w lo A n l) (hr2 : Rd cW 2 w lo2 A2 n2 l) :
    Calls Tryd.prog 25 #[.slice A n c, .slice A2 n2 c2] w fun e w' => e = .returned (.bool true) ∧ Below w.heap.size w w' := by
  have hn := hr.le
  obtain rfl : n2 = n := hr2.len.symm.trans hr.len
  go_enter Tryd.func25, Tryd.ntmps25
  go_wp2_with fail
  go_loopw [5] (fun i wr => ∃ k : Nat, k ≤ n2 ∧ i = .int .i64 k ∧ Below w.heap.size w wr) (fun i _ => n2 - (intOf i).toNat)
  case atStart => exact ⟨0, Nat.zero_le _, rfl, Below.refl _ _⟩
  case round =>
    rename World => W1
    obtain ⟨k, hk, rfl, hbl⟩ := hrel
    by_cases hlt : k < n2
    case neg =>
      go_wp2_with fail
      go_ret
      exact ⟨rfl, hbl⟩
    obtain ⟨b, o, x, rfl, _, hb, hx, g0, g1⟩ := (hr.below hbl).atW hlt
    obtain ⟨b2, o2, y, rfl, _, hb2, hy, d0, d1⟩ := (hr2.below hbl).atW hlt
    rw [hx] at hy
    injection hy with hy
    subst hy
    have a0 := aft g0
    have b0' := aft d0
    have a1 := aft g1
    have b1' := aft d1
    have HE := Lib.hid (fun w' => eqWait_t x w')
    clear hx hr hr2
    go_wp2_with fail
    refine wp_region_after (by kernel_rfl) (by kernel_rfl) ?_
    repeat (go_big_quiet_step ((go_at_call 53; with_reducible exact aft_call (HE.out _))))
    refine wpQuiet_nil ?_
    intro w1 hb1
    go_wp2_with fail
    go_roundw
    case rel => exact ⟨k + 1, by omega, by go_num, bel_nx hbl hb1⟩
    case measure => simp [intOf]; omega

theorem gst {a w : World} {g i : Nat} {u : Value} (h : a.grownBy w (some g)) : a.grownBy (w.setCell ⟨g, i, none⟩ u) (some g) :=
  ⟨h.os, h.tape, h.output, by simpa [World.setCell] using h.size, fun b hb hne => (Below.heap_setCell _ _ _ _ (by rintro rfl; exact hne rfl)).trans (h.block b hb hne)⟩
/-- The marks that markIntS lays. -/
def mkIntF (k : Int) (n : Nat) : List Int := (List.range n).map fun (j : Nat) => (k + (j : Int) : Int)
theorem mkIntF_len (k : Int) (n : Nat) : (mkIntF k n).length = n := by simp [mkIntF]
theorem mkIntF_at (k : Int) {n j : Nat} (h : j < n) : (mkIntF k n)[j]? = some (k + (j : Int) : Int) := by unfold mkIntF; rw [List.getElem?_map, List.getElem?_range h]; rfl
/-- The marks that markDoS lays. -/
def mkDoF (k : Int) (n : Nat) : List Dd := (List.range n).map fun (j : Nat) => (⟨k + 2 * (j : Int), k + 2 * (j : Int) + 1⟩ : Dd)
theorem mkDoF_len (k : Int) (n : Nat) : (mkDoF k n).length = n := by simp [mkDoF]
theorem mkDoF_at (k : Int) {n j : Nat} (h : j < n) : (mkDoF k n)[j]? = some (⟨k + 2 * (j : Int), k + 2 * (j : Int) + 1⟩ : Dd) := by unfold mkDoF; rw [List.getElem?_map, List.getElem?_range h]; rfl
/-- The marks that markLockS lays. -/
def mkLockF (k : Int) (n : Nat) : List Lk := (List.range n).map fun (j : Nat) => (⟨k + 3 * (j : Int), k + 3 * (j : Int) + 1, k + 3 * (j : Int) + 1 + 1⟩ : Lk)
theorem mkLockF_len (k : Int) (n : Nat) : (mkLockF k n).length = n := by simp [mkLockF]
theorem mkLockF_at (k : Int) {n j : Nat} (h : j < n) : (mkLockF k n)[j]? = some (⟨k + 3 * (j : Int), k + 3 * (j : Int) + 1, k + 3 * (j : Int) + 1 + 1⟩ : Lk) := by unfold mkLockF; rw [List.getElem?_map, List.getElem?_range h]; rfl
/-- The marks that markWaitS lays. -/
def mkWaitF (k : Int) (n : Nat) : List Wt := (List.range n).map fun (j : Nat) => (⟨k + 2 * (j : Int), k + 2 * (j : Int) + 1⟩ : Wt)
theorem mkWaitF_len (k : Int) (n : Nat) : (mkWaitF k n).length = n := by simp [mkWaitF]
theorem mkWaitF_at (k : Int) {n j : Nat} (h : j < n) : (mkWaitF k n)[j]? = some (⟨k + 2 * (j : Int), k + 2 * (j : Int) + 1⟩ : Wt) := by unfold mkWaitF; rw [List.getElem?_map, List.getElem?_range h]; rfl
set_option maxHeartbeats 1600000 in
theorem markIntS_t (base : Nat) (A : Option Addr) (n c : Nat) (l : List Int) (k0 : Int) (w : World) (ho : Own cI 1 3 w base (.slice A n c) l) (h0 : 0 ≤ k0) (h1 : k0 ≤ 100000000000000000) (hn : n ≤ 1048576) :
    Calls Tryd.prog 20 #[.slice A n c, .int .i64 k0] w fun e w' => e = .returned (.int .i64 (k0 + n)) ∧ Own cI 1 3 w' base (.slice A n c) (mkIntF k0 n) ∧ w.grownBy w' (Value.slice A n c).ownBlock := by
  have hln : l.length = n := by have := ho.lenV; exact this.symm
  have HLN := Lib.hid hln
  have hnI : (n : Int) ≤ 1048576 := by omega
  have hst : Own cI 1 3 w base (.slice A n c) ((mkIntF k0 n).take 0 ++ l.drop 0) := by simpa using ho
  have HST := Lib.hid hst
  clear hst ho hln
  go_enter Tryd.func20, Tryd.ntmps20
  go_wp2_with fail
  go_loopw [1, 5] (fun v i wr => ∃ j : Nat, j ≤ n ∧ i = .int .i64 j ∧ v = .int .i64 (k0 + j) ∧ Own cI 1 3 wr base (.slice A n c) ((mkIntF k0 n).take j ++ l.drop j) ∧ w.grownBy wr (Value.slice A n c).ownBlock) (fun _ i _ => n - (intOf i).toNat)
  case atStart => exact ⟨0, Nat.zero_le _, rfl, by simp, HST.out, World.grownBy.refl _ _⟩
  case round =>
    rename World => W1
    obtain ⟨j, hj, rfl, rfl, ho, hg⟩ := hrel
    by_cases hlt : j < n
    case neg =>
      obtain rfl : j = n := by omega
      rw [List.take_of_length_le (by rw [mkIntF_len]; exact Nat.le_refl _), List.drop_eq_nil_of_le (by have := HLN.out; omega), List.append_nil] at ho
      have HO := Lib.hid ho
      have HG := Lib.hid hg
      clear ho hg
      go_wp2_with fail
      go_ret
      exact ⟨rfl, HO.out, HG.out⟩
    have hll : ((mkIntF k0 n).take j ++ l.drop j).length = n := by rw [List.length_append, List.length_take, mkIntF_len, List.length_drop, HLN.out]; omega
    obtain ⟨g, m, cap, hv, _, hgl, _, hml⟩ := ho.form (by omega)
    clear hml
    injection hv with hA hm hc
    subst hA hm hc
    obtain ⟨_, hrd⟩ := ho.rds (fun _ => rfl) (by rw [hll]; omega)
    obtain ⟨bz, oz, z, ez, _, hbz, hz, z0⟩ := hrd.atI hlt
    simp only [Option.some.injEq, Addr.mk.injEq, and_true] at ez
    obtain ⟨rfl, rfl⟩ := ez
    simp only [Nat.zero_add] at z0
    have zf := ho.free
    have hjI : (j : Int) < (n : Int) := by omega
    have HFS : Hid (((mkIntF k0 n).take j ++ l.drop j).set j (k0 + (j : Int) : Int) = (mkIntF k0 n).take (j + 1) ++ l.drop (j + 1)) := by
      show _ = _
      rw [take_snoc (mkIntF_at k0 hlt), drop_cons (List.getElem?_eq_getElem (show j < l.length by have := HLN.out; omega)), List.set_append_right _ _ (by rw [List.length_take, mkIntF_len]; omega), List.length_take, mkIntF_len, Nat.min_eq_left hj, Nat.sub_self, List.set_cons_zero]
      simp
    have HP := Lib.hid (ho.set (x' := (k0 + (j : Int) : Int)) (u := .int .i64 (k0 + (j : Int))) (fun _ => rfl) hz rfl (j := 0) (by omega) (q := j) (by omega))
    have HG := Lib.hid hg
    clear hrd ho hg hll hz
    go_wp2_with fail
    go_roundw
    case rel => exact ⟨j + 1, by omega, by go_num, by go_num, by rw [← HFS.out]; exact HP.out, (gst HG.out)⟩
    case measure => simp [intOf]; omega
set_option maxHeartbeats 1600000 in
theorem markDoS_t (base : Nat) (A : Option Addr) (n c : Nat) (l : List Dd) (k0 : Int) (w : World) (ho : Own cD 2 73 w base (.slice A n c) l) (h0 : 0 ≤ k0) (h1 : k0 ≤ 100000000000000000) (hn : n ≤ 1048576) :
    Calls Tryd.prog 44 #[.slice A n c, .int .i64 k0] w fun e w' => e = .returned (.int .i64 (k0 + 2 * n)) ∧ Own cD 2 73 w' base (.slice A n c) (mkDoF k0 n) ∧ w.grownBy w' (Value.slice A n c).ownBlock := by
  have hln : l.length = n := by have := ho.lenV; exact this.symm
  have HLN := Lib.hid hln
  have hnI : (n : Int) ≤ 1048576 := by omega
  have hst : Own cD 2 73 w base (.slice A n c) ((mkDoF k0 n).take 0 ++ l.drop 0) := by simpa using ho
  have HST := Lib.hid hst
  clear hst ho hln
  go_enter Tryd.func44, Tryd.ntmps44
  go_wp2_with fail
  go_loopw [1, 5] (fun v i wr => ∃ j : Nat, j ≤ n ∧ i = .int .i64 j ∧ v = .int .i64 (k0 + 2 * j) ∧ Own cD 2 73 wr base (.slice A n c) ((mkDoF k0 n).take j ++ l.drop j) ∧ w.grownBy wr (Value.slice A n c).ownBlock) (fun _ i _ => n - (intOf i).toNat)
  case atStart => exact ⟨0, Nat.zero_le _, rfl, by simp, HST.out, World.grownBy.refl _ _⟩
  case round =>
    rename World => W1
    obtain ⟨j, hj, rfl, rfl, ho, hg⟩ := hrel
    by_cases hlt : j < n
    case neg =>
      obtain rfl : j = n := by omega
      rw [List.take_of_length_le (by rw [mkDoF_len]; exact Nat.le_refl _), List.drop_eq_nil_of_le (by have := HLN.out; omega), List.append_nil] at ho
      have HO := Lib.hid ho
      have HG := Lib.hid hg
      clear ho hg
      go_wp2_with fail
      go_ret
      exact ⟨rfl, HO.out, HG.out⟩
    have hll : ((mkDoF k0 n).take j ++ l.drop j).length = n := by rw [List.length_append, List.length_take, mkDoF_len, List.length_drop, HLN.out]; omega
    obtain ⟨g, m, cap, hv, _, hgl, _, hml⟩ := ho.form (by omega)
    clear hml
    injection hv with hA hm hc
    subst hA hm hc
    obtain ⟨_, hrd⟩ := ho.rds (fun _ => rfl) (by rw [hll]; omega)
    obtain ⟨bz, oz, z, ez, _, hbz, hz, z0, z1⟩ := hrd.atD hlt
    simp only [Option.some.injEq, Addr.mk.injEq, and_true] at ez
    obtain ⟨rfl, rfl⟩ := ez
    simp only [Nat.zero_add] at z0 z1
    have zf := ho.free
    have hjI : (j : Int) < (n : Int) := by omega
    have HFS : Hid (((mkDoF k0 n).take j ++ l.drop j).set j (⟨k0 + 2 * (j : Int), k0 + 2 * (j : Int) + 1⟩ : Dd) = (mkDoF k0 n).take (j + 1) ++ l.drop (j + 1)) := by
      show _ = _
      rw [take_snoc (mkDoF_at k0 hlt), drop_cons (List.getElem?_eq_getElem (show j < l.length by have := HLN.out; omega)), List.set_append_right _ _ (by rw [List.length_take, mkDoF_len]; omega), List.length_take, mkDoF_len, Nat.min_eq_left hj, Nat.sub_self, List.set_cons_zero]
      simp
    have HP := Lib.hid (ho.putDo (k := j) (by rw [hll]; exact hlt) (⟨k0 + 2 * (j : Int), k0 + 2 * (j : Int) + 1⟩ : Dd))
    have HG := Lib.hid hg
    clear hrd ho hg hll hz
    go_wp2_with fail
    go_roundw
    case rel => exact ⟨j + 1, by omega, by go_num, by go_num, by rw [← HFS.out]; exact HP.out, (gst (gst HG.out))⟩
    case measure => simp [intOf]; omega
set_option maxHeartbeats 1600000 in
theorem markLockS_t (base : Nat) (A : Option Addr) (n c : Nat) (l : List Lk) (k0 : Int) (w : World) (ho : Own cL 3 67 w base (.slice A n c) l) (h0 : 0 ≤ k0) (h1 : k0 ≤ 100000000000000000) (hn : n ≤ 1048576) :
    Calls Tryd.prog 21 #[.slice A n c, .int .i64 k0] w fun e w' => e = .returned (.int .i64 (k0 + 3 * n)) ∧ Own cL 3 67 w' base (.slice A n c) (mkLockF k0 n) ∧ w.grownBy w' (Value.slice A n c).ownBlock := by
  have hln : l.length = n := by have := ho.lenV; exact this.symm
  have HLN := Lib.hid hln
  have hnI : (n : Int) ≤ 1048576 := by omega
  have hst : Own cL 3 67 w base (.slice A n c) ((mkLockF k0 n).take 0 ++ l.drop 0) := by simpa using ho
  have HST := Lib.hid hst
  clear hst ho hln
  go_enter Tryd.func21, Tryd.ntmps21
  go_wp2_with fail
  go_loopw [1, 5] (fun v i wr => ∃ j : Nat, j ≤ n ∧ i = .int .i64 j ∧ v = .int .i64 (k0 + 3 * j) ∧ Own cL 3 67 wr base (.slice A n c) ((mkLockF k0 n).take j ++ l.drop j) ∧ w.grownBy wr (Value.slice A n c).ownBlock) (fun _ i _ => n - (intOf i).toNat)
  case atStart => exact ⟨0, Nat.zero_le _, rfl, by simp, HST.out, World.grownBy.refl _ _⟩
  case round =>
    rename World => W1
    obtain ⟨j, hj, rfl, rfl, ho, hg⟩ := hrel
    by_cases hlt : j < n
    case neg =>
      obtain rfl : j = n := by omega
      rw [List.take_of_length_le (by rw [mkLockF_len]; exact Nat.le_refl _), List.drop_eq_nil_of_le (by have := HLN.out; omega), List.append_nil] at ho
      have HO := Lib.hid ho
      have HG := Lib.hid hg
      clear ho hg
      go_wp2_with fail
      go_ret
      exact ⟨rfl, HO.out, HG.out⟩
    have hll : ((mkLockF k0 n).take j ++ l.drop j).length = n := by rw [List.length_append, List.length_take, mkLockF_len, List.length_drop, HLN.out]; omega
    obtain ⟨g, m, cap, hv, _, hgl, _, hml⟩ := ho.form (by omega)
    clear hml
    injection hv with hA hm hc
    subst hA hm hc
    obtain ⟨_, hrd⟩ := ho.rds (fun _ => rfl) (by rw [hll]; omega)
    obtain ⟨bz, oz, z, ez, _, hbz, hz, z0, z1, z2⟩ := hrd.atL hlt
    simp only [Option.some.injEq, Addr.mk.injEq, and_true] at ez
    obtain ⟨rfl, rfl⟩ := ez
    simp only [Nat.zero_add] at z0 z1 z2
    have zf := ho.free
    have hjI : (j : Int) < (n : Int) := by omega
    have HFS : Hid (((mkLockF k0 n).take j ++ l.drop j).set j (⟨k0 + 3 * (j : Int), k0 + 3 * (j : Int) + 1, k0 + 3 * (j : Int) + 1 + 1⟩ : Lk) = (mkLockF k0 n).take (j + 1) ++ l.drop (j + 1)) := by
      show _ = _
      rw [take_snoc (mkLockF_at k0 hlt), drop_cons (List.getElem?_eq_getElem (show j < l.length by have := HLN.out; omega)), List.set_append_right _ _ (by rw [List.length_take, mkLockF_len]; omega), List.length_take, mkLockF_len, Nat.min_eq_left hj, Nat.sub_self, List.set_cons_zero]
      simp
    have HP := Lib.hid (ho.putLock (k := j) (by rw [hll]; exact hlt) (⟨k0 + 3 * (j : Int), k0 + 3 * (j : Int) + 1, k0 + 3 * (j : Int) + 1 + 1⟩ : Lk))
    have HG := Lib.hid hg
    clear hrd ho hg hll hz
    go_wp2_with fail
    go_roundw
    case rel => exact ⟨j + 1, by omega, by go_num, by go_num, by rw [← HFS.out]; exact HP.out, (gst (gst (gst HG.out)))⟩
    case measure => simp [intOf]; omega
set_option maxHeartbeats 1600000 in
theorem markWaitS_t (base : Nat) (A : Option Addr) (n c : Nat) (l : List Wt) (k0 : Int) (w : World) (ho : Own cW 2 80 w base (.slice A n c) l) (h0 : 0 ≤ k0) (h1 : k0 ≤ 100000000000000000) (hn : n ≤ 1048576) :
    Calls Tryd.prog 26 #[.slice A n c, .int .i64 k0] w fun e w' => e = .returned (.int .i64 (k0 + 2 * n)) ∧ Own cW 2 80 w' base (.slice A n c) (mkWaitF k0 n) ∧ w.grownBy w' (Value.slice A n c).ownBlock := by
  have hln : l.length = n := by have := ho.lenV; exact this.symm
  have HLN := Lib.hid hln
  have hnI : (n : Int) ≤ 1048576 := by omega
  have hst : Own cW 2 80 w base (.slice A n c) ((mkWaitF k0 n).take 0 ++ l.drop 0) := by simpa using ho
  have HST := Lib.hid hst
  clear hst ho hln
  go_enter Tryd.func26, Tryd.ntmps26
  go_wp2_with fail
  go_loopw [1, 5] (fun v i wr => ∃ j : Nat, j ≤ n ∧ i = .int .i64 j ∧ v = .int .i64 (k0 + 2 * j) ∧ Own cW 2 80 wr base (.slice A n c) ((mkWaitF k0 n).take j ++ l.drop j) ∧ w.grownBy wr (Value.slice A n c).ownBlock) (fun _ i _ => n - (intOf i).toNat)
  case atStart => exact ⟨0, Nat.zero_le _, rfl, by simp, HST.out, World.grownBy.refl _ _⟩
  case round =>
    rename World => W1
    obtain ⟨j, hj, rfl, rfl, ho, hg⟩ := hrel
    by_cases hlt : j < n
    case neg =>
      obtain rfl : j = n := by omega
      rw [List.take_of_length_le (by rw [mkWaitF_len]; exact Nat.le_refl _), List.drop_eq_nil_of_le (by have := HLN.out; omega), List.append_nil] at ho
      have HO := Lib.hid ho
      have HG := Lib.hid hg
      clear ho hg
      go_wp2_with fail
      go_ret
      exact ⟨rfl, HO.out, HG.out⟩
    have hll : ((mkWaitF k0 n).take j ++ l.drop j).length = n := by rw [List.length_append, List.length_take, mkWaitF_len, List.length_drop, HLN.out]; omega
    obtain ⟨g, m, cap, hv, _, hgl, _, hml⟩ := ho.form (by omega)
    clear hml
    injection hv with hA hm hc
    subst hA hm hc
    obtain ⟨_, hrd⟩ := ho.rds (fun _ => rfl) (by rw [hll]; omega)
    obtain ⟨bz, oz, z, ez, _, hbz, hz, z0, z1⟩ := hrd.atW hlt
    simp only [Option.some.injEq, Addr.mk.injEq, and_true] at ez
    obtain ⟨rfl, rfl⟩ := ez
    simp only [Nat.zero_add] at z0 z1
    have zf := ho.free
    have hjI : (j : Int) < (n : Int) := by omega
    have HFS : Hid (((mkWaitF k0 n).take j ++ l.drop j).set j (⟨k0 + 2 * (j : Int), k0 + 2 * (j : Int) + 1⟩ : Wt) = (mkWaitF k0 n).take (j + 1) ++ l.drop (j + 1)) := by
      show _ = _
      rw [take_snoc (mkWaitF_at k0 hlt), drop_cons (List.getElem?_eq_getElem (show j < l.length by have := HLN.out; omega)), List.set_append_right _ _ (by rw [List.length_take, mkWaitF_len]; omega), List.length_take, mkWaitF_len, Nat.min_eq_left hj, Nat.sub_self, List.set_cons_zero]
      simp
    have HP := Lib.hid (ho.putWait (k := j) (by rw [hll]; exact hlt) (⟨k0 + 2 * (j : Int), k0 + 2 * (j : Int) + 1⟩ : Wt))
    have HG := Lib.hid hg
    clear hrd ho hg hll hz
    go_wp2_with fail
    go_roundw
    case rel => exact ⟨j + 1, by omega, by go_num, by go_num, by rw [← HFS.out]; exact HP.out, (gst (gst HG.out))⟩
    case measure => simp [intOf]; omega
theorem heldIntS_t (lo : Nat) (A : Option Addr) (n c : Nat) (k0 : Int) (w : World) (hr : Rd cI 1 w lo A n (mkIntF k0 n)) (h0 : 0 ≤ k0) (h1 : k0 ≤ 100000000000000000) (hn : n ≤ 1048576) :
    Calls Tryd.prog 30 #[.slice A n c, .int .i64 k0] w fun e w' => e = .returned (.int .i64 (k0 + n)) ∧ Below w.heap.size w w' := by
  have hnI : (n : Int) ≤ 1048576 := by omega
  go_enter Tryd.func30, Tryd.ntmps30
  go_wp2_with fail
  go_loopw [1, 5] (fun v i wr => ∃ j : Nat, j ≤ n ∧ i = .int .i64 j ∧ v = .int .i64 (k0 + j) ∧ Below w.heap.size w wr) (fun _ i _ => n - (intOf i).toNat)
  case atStart => exact ⟨0, Nat.zero_le _, rfl, by simp, Below.refl _ _⟩
  case round =>
    rename World => W1
    obtain ⟨j, hj, rfl, rfl, hbl⟩ := hrel
    by_cases hlt : j < n
    case neg =>
      obtain rfl : j = n := by omega
      go_wp2_with fail
      go_ret
      exact ⟨rfl, hbl⟩
    obtain ⟨b, o, x, rfl, _, hb, hx, z0⟩ := (hr.below hbl).atI hlt
    rw [mkIntF_at k0 hlt] at hx
    injection hx with hx
    subst hx
    have hjI : (j : Int) < (n : Int) := by omega
    clear hr
    go_wp2_with fail
    go_roundw
    case rel => exact ⟨j + 1, by omega, by go_num, by go_num, hbl⟩
    case measure => simp [intOf]; omega
theorem heldLockS_t (lo : Nat) (A : Option Addr) (n c : Nat) (k0 : Int) (w : World) (hr : Rd cL 3 w lo A n (mkLockF k0 n)) (h0 : 0 ≤ k0) (h1 : k0 ≤ 100000000000000000) (hn : n ≤ 1048576) :
    Calls Tryd.prog 22 #[.slice A n c, .int .i64 k0] w fun e w' => e = .returned (.int .i64 (k0 + 3 * n)) ∧ Below w.heap.size w w' := by
  have hnI : (n : Int) ≤ 1048576 := by omega
  go_enter Tryd.func22, Tryd.ntmps22
  go_wp2_with fail
  go_loopw [1, 5] (fun v i wr => ∃ j : Nat, j ≤ n ∧ i = .int .i64 j ∧ v = .int .i64 (k0 + 3 * j) ∧ Below w.heap.size w wr) (fun _ i _ => n - (intOf i).toNat)
  case atStart => exact ⟨0, Nat.zero_le _, rfl, by simp, Below.refl _ _⟩
  case round =>
    rename World => W1
    obtain ⟨j, hj, rfl, rfl, hbl⟩ := hrel
    by_cases hlt : j < n
    case neg =>
      obtain rfl : j = n := by omega
      go_wp2_with fail
      go_ret
      exact ⟨rfl, hbl⟩
    obtain ⟨b, o, x, rfl, _, hb, hx, z0, z1, z2⟩ := (hr.below hbl).atL hlt
    rw [mkLockF_at k0 hlt] at hx
    injection hx with hx
    subst hx
    have hjI : (j : Int) < (n : Int) := by omega
    clear hr
    go_wp2_with fail
    go_roundw
    case rel => exact ⟨j + 1, by omega, by go_num, by go_num, hbl⟩
    case measure => simp [intOf]; omega
theorem heldWaitS_t (lo : Nat) (A : Option Addr) (n c : Nat) (k0 : Int) (w : World) (hr : Rd cW 2 w lo A n (mkWaitF k0 n)) (h0 : 0 ≤ k0) (h1 : k0 ≤ 100000000000000000) (hn : n ≤ 1048576) :
    Calls Tryd.prog 27 #[.slice A n c, .int .i64 k0] w fun e w' => e = .returned (.int .i64 (k0 + 2 * n)) ∧ Below w.heap.size w w' := by
  have hnI : (n : Int) ≤ 1048576 := by omega
  go_enter Tryd.func27, Tryd.ntmps27
  go_wp2_with fail
  go_loopw [1, 5] (fun v i wr => ∃ j : Nat, j ≤ n ∧ i = .int .i64 j ∧ v = .int .i64 (k0 + 2 * j) ∧ Below w.heap.size w wr) (fun _ i _ => n - (intOf i).toNat)
  case atStart => exact ⟨0, Nat.zero_le _, rfl, by simp, Below.refl _ _⟩
  case round =>
    rename World => W1
    obtain ⟨j, hj, rfl, rfl, hbl⟩ := hrel
    by_cases hlt : j < n
    case neg =>
      obtain rfl : j = n := by omega
      go_wp2_with fail
      go_ret
      exact ⟨rfl, hbl⟩
    obtain ⟨b, o, x, rfl, _, hb, hx, z0, z1⟩ := (hr.below hbl).atW hlt
    rw [mkWaitF_at k0 hlt] at hx
    injection hx with hx
    subst hx
    have hjI : (j : Int) < (n : Int) := by omega
    clear hr
    go_wp2_with fail
    go_roundw
    case rel => exact ⟨j + 1, by omega, by go_num, by go_num, hbl⟩
    case measure => simp [intOf]; omega

set_option maxRecDepth 100000 in
set_option maxHeartbeats 1000000 in
theorem markText_t (k : Int) (w : World) (h0 : 0 ≤ k) (h1 : k ≤ 1000000000) :
    Calls Tryd.prog 43 #[.int .i64 k] w fun e w' => ∃ s : ByteArray, e = .returned (.string s) ∧ Below w.heap.size w w' := by
  by_cases hz : k = 0
  · subst hz
    go_enter Tryd.func43, Tryd.ntmps43
    go_wp2_with fail
    go_ret
    exact ⟨_, rfl, Below.refl _ _⟩
  have hk : ¬ k ≤ 0 := by omega
  go_enter Tryd.func43, Tryd.ntmps43
  go_wp2_with fail
  go_loopw [0, 3] (fun v s wr => ∃ (q : Int) (b : ByteArray), v = .int .i64 q ∧ s = .string b ∧ 0 ≤ q ∧ (b.size : Int) + q ≤ 1000000000 ∧ Below w.heap.size w wr) (fun v _ _ => (intOf v).toNat)
  case atStart => exact ⟨k, ⟨#[]⟩, rfl, rfl, h0, (by have : (⟨#[]⟩ : ByteArray).size = 0 := rfl; omega), Below.refl _ _⟩
  case round =>
    rename World => W1
    obtain ⟨q, b, rfl, rfl, hq0, hqb, hbl⟩ := hrel
    have hbs : (b.size : Int) ≤ 1000000000 := by omega
    by_cases hq : q = 0
    case pos =>
      subst hq
      go_wp2_with fail
      go_ret
      exact ⟨_, rfl, hbl⟩
    have hq' : (0 : Int) < q := by omega
    have hcv : (convert 95 9 (.slice (some ⟨W1.heap.size, 0, none⟩) 1 1)).run Tryd.prog (W1.alloc (.cells #[.int .u8 (48 + q % 10)] 5)) = .ok (.string (strOfNums [48 + q % 10])) (W1.alloc (.cells #[.int .u8 (48 + q % 10)] 5)) :=
      run_convert_bytes_arg _ 95 5 Tryd.underlying95 Tryd.underlying5 W1.heap.size 0 1 1 [48 + q % 10] rfl (fun i hi => by
        obtain rfl : i = 0 := by omega
        exact blk_cell (heap_alloc_new W1 (.cells #[.int .u8 (48 + q % 10)] 5)) (i := 0) rfl) 9 Tryd.underlying9
    have hs1 : (strOfNums [48 + q % 10]).size = 1 := strOfNums_size _
    have hsz : (strOfNums [48 + q % 10] ++ b).size = 1 + b.size := by rw [ByteArray.size_append, hs1]
    have HSZ := Lib.hid hsz
    have hbN := hbl.alloc hbl.size (.cells #[.int .u8 (48 + q % 10)] 5)
    generalize hS : strOfNums [48 + q % 10] = S at *
    clear hS hsz
    go_wp2_with fail
    go_roundw
    case rel => exact ⟨q / 10, S ++ b, rfl, rfl, by omega, by rw [HSZ.out]; omega, hbN⟩
    case measure => simp [intOf]; omega
set_option maxRecDepth 100000 in
set_option maxHeartbeats 1600000 in
theorem markNodeS_t (base : Nat) (A : Option Addr) (n c : Nat) (l : List Nd) (k0 : Int) (w : World) (ho : Own cN 3 57 w base (.slice A n c) l) (h0 : 0 ≤ k0) (h1 : k0 ≤ 100000000) (hn : n ≤ 1048576) :
    Calls Tryd.prog 18 #[.slice A n c, .int .i64 k0] w fun e w' => e = .returned (.int .i64 (k0 + 3 * n)) ∧ w.grownBy w' (Value.slice A n c).ownBlock := by
  have hln : l.length = n := by have := ho.lenV; exact this.symm
  have HLN := Lib.hid hln
  have HO := Lib.hid ho
  have hnI : (n : Int) ≤ 1048576 := by omega
  clear ho hln
  go_enter Tryd.func18, Tryd.ntmps18
  go_wp2_with fail
  go_loopw [1, 5] (fun v i wr => ∃ (j : Nat) (l' : List Nd), j ≤ n ∧ i = .int .i64 j ∧ v = .int .i64 (k0 + 3 * j) ∧ l'.length = n ∧ Own cN 3 57 wr base (.slice A n c) l' ∧ w.grownBy wr (Value.slice A n c).ownBlock) (fun _ i _ => n - (intOf i).toNat)
  case atStart => exact ⟨0, l, Nat.zero_le _, rfl, by simp, HLN.out, HO.out, World.grownBy.refl _ _⟩
  case round =>
    rename World => W1
    obtain ⟨j, l', hj, rfl, rfl, hll, ho, hg⟩ := hrel
    by_cases hlt : j < n
    case neg =>
      obtain rfl : j = n := by omega
      have HG := Lib.hid hg
      clear ho hg hll
      go_wp2_with fail
      go_ret
      exact ⟨rfl, HG.out⟩
    obtain ⟨g, m, cap, hv, _, hgl, _, hml⟩ := ho.form (by omega)
    clear hml
    injection hv with hA hm hc
    subst hA hm hc
    obtain ⟨_, hrd⟩ := ho.rds (fun _ => rfl) (by rw [hll]; omega)
    obtain ⟨bz, oz, z, ez, _, hbz, hz, z0, z1, z2⟩ := hrd.atN hlt
    simp only [Option.some.injEq, Addr.mk.injEq, and_true] at ez
    obtain ⟨rfl, rfl⟩ := ez
    simp only [Nat.zero_add] at z0 z1 z2
    have zf := ho.free
    have hjI : (j : Int) < (n : Int) := by omega
    have hj3 : k0 + 3 * (j : Int) ≤ 200000000 := by omega
    have hj0 : 0 ≤ k0 + 3 * (j : Int) := by omega
    have HL' := Lib.hid hll
    have HZ := Lib.hid hz
    have ho1 := ho.set (x' := ⟨k0 + 3 * (j : Int), z.name, z.val⟩) (u := .int .i64 (k0 + 3 * (j : Int))) (fun _ => rfl) hz rfl (j := 0) (by omega) (q := j * 3) (by omega)
    have HO1 := Lib.hid ho1
    have HG := Lib.hid hg
    have hlj : j < l'.length := by omega
    have HMT := Lib.hid (markText_t (k0 + 3 * (j : Int) + 1) (W1.setCell ⟨g, j * 3, none⟩ (.int .i64 (k0 + 3 * (j : Int)))) (by omega) (by omega))
    clear hrd ho hg hll hz ho1
    go_wp2_with fail
    refine HMT.out.mono ?_
    rintro e w3 ⟨s, rfl, hb3⟩
    have ho3 := HO1.out.below hb3
    have hg3 : w.grownBy w3 (some g) := by
      have := gst (i := j * 3) (u := .int .i64 (k0 + 3 * (j : Int))) HG.out
      exact ⟨hb3.os.trans this.os, hb3.tape.trans this.tape, hb3.output.trans this.output, Nat.le_trans this.size hb3.size, fun b hb hne => (hb3.block b (Nat.lt_of_lt_of_le hb this.size)).trans (this.block b hb hne)⟩
    obtain ⟨_, hrd3⟩ := ho3.rds (fun _ => rfl) (by rw [List.length_set, HL'.out]; omega)
    obtain ⟨bz, oz, z', ez, _, hbz', hz', y0, y1, y2⟩ := hrd3.atN hlt
    simp only [Option.some.injEq, Addr.mk.injEq, and_true] at ez
    obtain ⟨rfl, rfl⟩ := ez
    simp only [Nat.zero_add] at y0 y1 y2
    have yf := ho3.free
    have hx2 : (l'.set j ⟨k0 + 3 * (j : Int), z.name, z.val⟩)[j]? = some ⟨k0 + 3 * (j : Int), z.name, z.val⟩ := List.getElem?_set_self hlj
    have ho4 := ho3.set (x := ⟨k0 + 3 * (j : Int), z.name, z.val⟩) (x' := ⟨k0 + 3 * (j : Int), s, z.val⟩) (u := .string s) (fun _ => rfl) hx2 rfl (j := 1) (by omega) (q := j * 3 + 1) (by omega)
    have ho5 := ho4.set (x := ⟨k0 + 3 * (j : Int), s, z.val⟩) (x' := ⟨k0 + 3 * (j : Int), s, k0 + 3 * (j : Int) + 1 + 1⟩) (u := .int .i64 (k0 + 3 * (j : Int) + 1 + 1)) (fun _ => rfl) (by rw [List.set_set]; exact List.getElem?_set_self hlj) rfl (j := 2) (by omega) (q := j * 3 + 2) (by omega)
    have HO5 := Lib.hid ho5
    have HG5 := Lib.hid (gst (i := j * 3 + 2) (u := .int .i64 (k0 + 3 * (j : Int) + 1 + 1)) (gst (i := j * 3 + 1) (u := .string s) hg3))
    have HLN5 : Hid ((((l'.set j ⟨k0 + 3 * (j : Int), z.name, z.val⟩).set j ⟨k0 + 3 * (j : Int), s, z.val⟩).set j ⟨k0 + 3 * (j : Int), s, k0 + 3 * (j : Int) + 1 + 1⟩).length = n) := by show _ = _; rw [List.length_set, List.length_set, List.length_set, HL'.out]
    clear hrd3 ho3 hx2 ho4 ho5 hg3 hz' y0 z0 z1 z2 zf
    go_wp2_with fail
    go_roundw
    case rel => exact ⟨j + 1, _, by omega, by go_num, by go_num, HLN5.out, HO5.out, HG5.out⟩
    case measure => simp [intOf]; omega
/-- Only blocks from lo to below hi are changed, and memory is made. -/
structure Btw (lo hi : Nat) (w w' : World) : Prop where
  os : w'.os = w.os
  tape : w'.tape = w.tape
  output : w'.output = w.output
  size : w.heap.size ≤ w'.heap.size
  block : ∀ b, b < w.heap.size → (b < lo ∨ hi ≤ b) → w'.heap[b]? = w.heap[b]?
theorem Btw.refl (lo hi : Nat) (w : World) : Btw lo hi w w := ⟨rfl, rfl, rfl, Nat.le_refl _, fun _ _ _ => rfl⟩
theorem Btw.grown {lo hi : Nat} {a w w' : World} {row : Option Nat} (h : Btw lo hi a w) (hg : w.grownBy w' row) (hr : ∀ g, row = some g → lo ≤ g ∧ g < hi) : Btw lo hi a w' :=
  ⟨hg.os.trans h.os, hg.tape.trans h.tape, hg.output.trans h.output, Nat.le_trans h.size hg.size, fun b hb hx => (hg.block b (Nat.lt_of_lt_of_le hb h.size) (fun e => by have := hr b e.symm; omega)).trans (h.block b hb hx)⟩
theorem Below.btw {B lo hi : Nat} {a w w' : World} (h : Below B a w) (hb : Btw lo hi w w') (hl : B ≤ lo) (hs : B ≤ w.heap.size) : Below B a w' :=
  ⟨hb.os.trans h.os, hb.tape.trans h.tape, hb.output.trans h.output, Nat.le_trans h.size hb.size, fun b hlt => (hb.block b (by omega) (.inl (by omega))).trans (h.block b hlt)⟩
theorem Own.btw {α : Type} {cs : α → List Value} {sz : Nat} {e : TypeId} {w w' : World} {base lo hi : Nat} {v : Value} {l : List α} (h : Own cs sz e w base v l) (hb : Btw lo hi w w') (hl : hi ≤ base) : Own cs sz e w' base v l :=
  h.keep fun b hlo hlt _ => hb.block b hlt (.inr (by omega))
set_option maxHeartbeats 1000000 in
theorem markDoSS_t (base hi : Nat) (A : Option Addr) (n c : Nat) (vs : List Sl) (sc : List (List Dd)) (k0 : Int) (w : World) (hd : Dss w base (.slice A n c) vs sc) (hrow : ∀ l ∈ sc, l.length ≤ 1048576) (hbk : ∀ v ∈ vs, ∀ i, v.a = some i → base ≤ i.block ∧ i.block < hi) (h0 : 0 ≤ k0) (h1 : k0 ≤ 100000000) (hn : n ≤ 1048576) :
    Calls Tryd.prog 19 #[.slice A n c, .int .i64 k0] w fun e w' => (∃ k : Int, e = .returned (.int .i64 k) ∧ 0 ≤ k ∧ k ≤ 10000000000000) ∧ Btw base hi w w' := by
  have hlv : vs.length = n := by have := hd.out.lenV; exact this.symm
  have HLV := Lib.hid hlv
  have hnI : (n : Int) ≤ 1048576 := by omega
  have hap := hd.apart
  have HD := Lib.hid hd
  have HAP := Lib.hid hap
  have HBK := Lib.hid hbk
  have HR := Lib.hid hrow
  clear hlv hd hap hbk hrow
  go_enter Tryd.func19, Tryd.ntmps19
  go_wp2_with fail
  go_loopw [1, 5] (fun v i wr => ∃ (j : Nat) (q : Int), j ≤ n ∧ i = .int .i64 j ∧ v = .int .i64 q ∧ 0 ≤ q ∧ q ≤ 100000000 + 2097152 * (j : Int) ∧ Own cV 1 59 wr base (.slice A n c) vs ∧ (∀ (r : Nat) (v : Sl) (l : List Dd), j ≤ r → vs[r]? = some v → sc[r]? = some l → Own cD 2 73 wr base (.slice v.a v.n v.c) l) ∧ Btw base hi w wr) (fun _ i _ => n - (intOf i).toNat)
  case atStart => exact ⟨0, k0, Nat.zero_le _, rfl, rfl, h0, by omega, HD.out.out, fun r v l _ hv hl => HD.out.rows.2 r v l hv hl, Btw.refl _ _ _⟩
  case round =>
    rename World => W1
    obtain ⟨j, q, hj, rfl, rfl, hq0, hq1, ho, hrows, hbt⟩ := hrel
    by_cases hlt : j < n
    case neg =>
      go_wp2_with fail
      go_ret
      exact ⟨⟨q, rfl, hq0, by omega⟩, hbt⟩
    obtain ⟨_, hrd⟩ := ho.rds (fun _ => rfl) (by have := HLV.out; omega)
    obtain ⟨b, o, x, hA, _, hb, hx, g0⟩ := hrd.atV hlt
    subst hA
    have hjs : j < sc.length := by have := HD.out.rows.1; have := HLV.out; omega
    have hrj := hrows j x _ (Nat.le_refl _) hx (List.getElem?_eq_getElem hjs)
    have hlen := HR.out _ (List.getElem_mem hjs)
    have hxn : x.n = sc[j].length := by have := hrj.lenV; exact this
    have HMK := Lib.hid (markDoS_t base x.a x.n x.c _ q W1 hrj hq0 (by omega) (by omega))
    have hxni : (x.n : Int) ≤ 1048576 := by omega
    have hjI : (j : Int) < (n : Int) := by omega
    have HX := Lib.hid hx
    have HO := Lib.hid ho
    have HRW := Lib.hid hrows
    have HBT := Lib.hid hbt
    have HRJ := Lib.hid hrj
    have hxb : Hid (∀ g, (Value.slice x.a x.n x.c).ownBlock = some g → base ≤ g ∧ g < hi) := fun g hg => by
      cases hxa : x.a with
      | none => rw [hxa] at hg; simp [Value.ownBlock] at hg
      | some i =>
        rw [hxa] at hg
        simp only [Value.ownBlock, Option.some.injEq] at hg
        have := HBK.out x (List.mem_of_getElem? HX.out) i hxa
        omega
    clear hrd hx ho hrows hbt hrj hxn hlen
    go_wp2_with fail
    refine HMK.out.mono ?_
    rintro e w3 ⟨rfl, _, hg3⟩
    have hbN := HBT.out.grown hg3 hxb.out
    have hoN := HO.out.grown' hg3 (Own.ap HO.out HRJ.out (by decide))
    have hRN : Hid (∀ (r : Nat) (v : Sl) (l : List Dd), j + 1 ≤ r → vs[r]? = some v → sc[r]? = some l → Own cD 2 73 w3 base (.slice v.a v.n v.c) l) := fun r v l hr hv hl => by
      refine (HRW.out r v l (by omega) hv hl).grown' hg3 ?_
      cases hva : v.a with
      | none => left; simp [Value.ownBlock]
      | some i =>
        right
        intro hc
        cases hxa : x.a with
        | none => rw [hxa] at hc; simp [Value.ownBlock] at hc
        | some i2 =>
          rw [hxa] at hc
          simp only [Value.ownBlock, Option.some.injEq] at hc
          have hlt1 := (List.getElem?_eq_some_iff.1 HX.out)
          have hlt2 := (List.getElem?_eq_some_iff.1 hv)
          have := List.pairwise_iff_getElem.1 HAP.out j r hlt1.1 hlt2.1 (by omega) i2 i (by rw [hlt1.2]; exact hxa) (by rw [hlt2.2]; exact hva)
          exact this hc.symm
    clear hg3
    go_wp2_with fail
    go_roundw
    case rel => exact ⟨j + 1, q + 2 * (x.n : Int), by omega, by go_num, rfl, by omega, by omega, hoN, hRN.out, hbN⟩
    case measure => simp [intOf]; omega

theorem rdd_of {w : World} : ∀ vs : List Sl, (∀ v ∈ vs, v.n ≤ v.c ∧ ∃ l, Rd cD 2 w 0 v.a v.n l) → ∃ sc, Rdd cD 2 w 0 vs sc ∧ ∀ l ∈ sc, ∃ v ∈ vs, l.length = v.n
  | [], _ => ⟨[], Rdd.nil _ _, fun l hl => by cases hl⟩
  | v :: r, h => by
    obtain ⟨sc, h1, h2⟩ := rdd_of r fun x hx => h x (List.mem_cons_of_mem _ hx)
    obtain ⟨hc, l, hl⟩ := h v (List.mem_cons_self ..)
    refine ⟨l :: sc, ⟨by simp [h1.1], fun k x y hx hy => ?_⟩, fun y hy => ?_⟩
    · cases k with
      | zero =>
        simp only [List.getElem?_cons_zero, Option.some.injEq] at hx hy
        subst hx hy
        exact ⟨hc, hl⟩
      | succ k => exact h1.2 k x y (by simpa using hx) (by simpa using hy)
    · rcases List.mem_cons.1 hy with rfl | hy
      · exact ⟨v, List.mem_cons_self .., hl.len⟩
      · obtain ⟨u, hu, e⟩ := h2 y hy
        exact ⟨u, List.mem_cons_of_mem _ hu, e⟩
theorem Dss.blk {w : World} {base : Nat} {v : Value} {vs : List Sl} {sc : List (List Dd)} (h : Dss w base v vs sc) : ∀ u ∈ vs, ∀ i, u.a = some i → base ≤ i.block ∧ i.block < w.heap.size := fun u hu i hi => by
  obtain ⟨k, hk⟩ := List.mem_iff_getElem?.1 hu
  have hks : k < sc.length := by rw [← h.rows.1]; exact (List.getElem?_eq_some_iff.1 hk).1
  refine (h.rows.2 k u _ hk (List.getElem?_eq_getElem hks)).blk i.block ?_
  rw [hi]
  rfl
theorem Dss.grown {w w' : World} {base R : Nat} {v : Value} {vs : List Sl} {sc : List (List Dd)} (h : Dss w base v vs sc) (hg : w.grownBy w' (some R)) (hR : R < base) : Dss w' base v vs sc := ⟨h.out.grown hg hR, h.rows.grown hg hR, h.apart⟩
theorem bel_grow {w w1 w2 : World} {B : Nat} (h1 : Below B w w1) {R : Nat} (h2 : w1.grownBy w2 (some R)) (hs : B ≤ w1.heap.size) (hR : B ≤ R) : Below B w w2 :=
  h1.grown h2 hs fun k hk => by injection hk with hk; omega
theorem bel_step {w w1 w2 : World} {B : Nat} (h1 : Below B w w1) (h2 : Below w1.heap.size w1 w2) (hs : B ≤ w1.heap.size) : Below B w w2 := h1.trans (h2.mono hs)
/-- What is handed over, as far as it can be read. -/
structure ExR (w : World) (A : Option Addr) (n c : Nat) (t : List Nd) (A2 : Option Addr) (n2 c2 : Nat) (sc : List (List Dd)) (A3 : Option Addr) (n3 c3 : Nat) (ps : List Int) : Prop where
  rt : Rd cN 3 w 0 A n t
  hn : n ≤ 1048576
  nm : NmB t
  rs : Rds cD 2 w 0 A2 n2 sc
  hn2 : n2 ≤ 1048576
  row : ∀ l ∈ sc, l.length ≤ 1048576
  rp : Rd cI 1 w 0 A3 n3 ps
  hn3 : n3 ≤ 1048576
  tb : Tb w
section
variable {w w' : World} {A : Option Addr} {n c : Nat} {t : List Nd} {A2 : Option Addr} {n2 c2 : Nat} {sc : List (List Dd)} {A3 : Option Addr} {n3 c3 : Nat} {ps : List Int}
theorem ExR.below (h : ExR w A n c t A2 n2 c2 sc A3 n3 c3 ps) (hb : Below w.heap.size w w') : ExR w' A n c t A2 n2 c2 sc A3 n3 c3 ps := ⟨h.rt.below hb, h.hn, h.nm, h.rs.below hb, h.hn2, h.row, h.rp.below hb, h.hn3, h.tb.below hb⟩
theorem ExR.toN (h : ExR w A n c t A2 n2 c2 sc A3 n3 c3 ps) : Calls Tryd.prog 10 #[.slice A n c] w fun e w' => e = .returned (.slice (some ⟨w.heap.size, 0, none⟩) n n) ∧ Own cN 3 57 w' w.heap.size (.slice (some ⟨w.heap.size, 0, none⟩) n n) t ∧ Below w.heap.size w w' := toNodeS_t 0 A n c t w h.rt h.hn
theorem ExR.toD (h : ExR w A n c t A2 n2 c2 sc A3 n3 c3 ps) : Calls Tryd.prog 11 #[.slice A2 n2 c2] w fun e w' => e = .returned (.slice (some ⟨w.heap.size, 0, none⟩) n2 n2) ∧ (∃ vs, Dss w' w.heap.size (.slice (some ⟨w.heap.size, 0, none⟩) n2 n2) vs sc) ∧ Below w.heap.size w w' := toDoSS_t 0 A2 n2 c2 sc w h.rs h.hn2 h.row
theorem ExR.toI (h : ExR w A n c t A2 n2 c2 sc A3 n3 c3 ps) : Calls Tryd.prog 12 #[.slice A3 n3 c3] w fun e w' => e = .returned (.slice (some ⟨w.heap.size, 0, none⟩) n3 n3) ∧ Own cI 1 3 w' w.heap.size (.slice (some ⟨w.heap.size, 0, none⟩) n3 n3) ps ∧ Below w.heap.size w w' := toIntS_t 0 A3 n3 c3 ps w h.rp h.hn3
end
theorem Own.rN {e : TypeId} {w : World} {base : Nat} {A : Option Addr} {n c : Nat} {l : List Nd} (h : Own cN 3 e w base (.slice A n c) l) (hn : n ≤ 1048576) : Rd cN 3 w base A n l := (h.rds (fun _ => rfl) (by have e : n = l.length := h.lenV; omega)).2
theorem Own.rI {e : TypeId} {w : World} {base : Nat} {A : Option Addr} {n c : Nat} {l : List Int} (h : Own cI 1 e w base (.slice A n c) l) (hn : n ≤ 1048576) : Rd cI 1 w base A n l := (h.rds (fun _ => rfl) (by have e : n = l.length := h.lenV; omega)).2
theorem Own.rL {e : TypeId} {w : World} {base : Nat} {A : Option Addr} {n c : Nat} {l : List Lk} (h : Own cL 3 e w base (.slice A n c) l) (hn : n ≤ 1048576) : Rd cL 3 w base A n l := (h.rds (fun _ => rfl) (by have e : n = l.length := h.lenV; omega)).2
theorem Own.rW {e : TypeId} {w : World} {base : Nat} {A : Option Addr} {n c : Nat} {l : List Wt} (h : Own cW 2 e w base (.slice A n c) l) (hn : n ≤ 1048576) : Rd cW 2 w base A n l := (h.rds (fun _ => rfl) (by have e : n = l.length := h.lenV; omega)).2
theorem Dss.rd {w : World} {base : Nat} {A : Option Addr} {n c : Nat} {vs : List Sl} {sc : List (List Dd)} (h : Dss w base (.slice A n c) vs sc) (hn : n ≤ 1048576) (hl : ∀ l ∈ sc, l.length ≤ 1048576) : Rds cD 2 w base A n sc := h.rds (by omega) fun l hm => by have := hl l hm; omega

set_option maxRecDepth 100000 in
set_option maxHeartbeats 6400000 in
theorem lawExactRunValues (A A2 A3 : Option Addr) (n c n2 c2 n3 c3 : Nat) (t : List Nd) (rows : List Sl) (ps : List Int) (w : World) (hn : n ≤ 9223372036854775807) (hr : n ≤ 1048576 → Rd cN 3 w 0 A n t) (hm : NmM t)
    (hn2 : n2 ≤ 9223372036854775807) (hr2 : n2 ≤ 1048576 → Rd cV 1 w 0 A2 n2 rows) (hrow : ∀ v ∈ rows, v.n ≤ 9223372036854775807 ∧ v.n ≤ v.c ∧ (v.n ≤ 1048576 → ∃ l, Rd cD 2 w 0 v.a v.n l))
    (hr3 : n3 ≤ 1048576 → Rd cI 1 w 0 A3 n3 ps) (hT : Tb w) :
    Calls Tryd.prog 6 #[.slice A n c, .slice A2 n2 c2, .slice A3 n3 c3] w fun e w' => e = .returned (.bool true) ∧ Below w.heap.size w w' := by
  by_cases h3 : n3 ≤ 1048576
  case neg =>
    have h3' : (1048576 : Int) < (n3 : Int) := by omega
    clear hr hr2 hrow hr3
    go_enter Tryd.func6, Tryd.ntmps6
    go_wp2_with fail
    go_ret
    exact ⟨rfl, Below.refl _ _⟩
  have h3' : (n3 : Int) ≤ 1048576 := by omega
  by_cases hb : n ≤ 1048576
  case neg =>
    have HS := Lib.hid (szNodeS_big A n c 1048576 w (by omega) (by omega) (by omega) hn)
    clear hr hr2 hrow hr3
    go_enter Tryd.func6, Tryd.ntmps6
    go_wp2_with fail
    refine HS.out.mono ?_
    rintro e w1 ⟨rfl, hb1⟩
    go_wp2_with fail
    go_ret
    exact ⟨rfl, hb1⟩
  have hrd := hr hb
  have HS := Lib.hid (szNodeS_t 0 A n c t 1048576 w hrd hm (by omega) (by omega) (by omega))
  have HZN := szF_neg t (1048576 - (n : Int)) (by omega)
  obtain ⟨z, hz⟩ : ∃ z, z = szF t (1048576 - (n : Int)) := ⟨_, rfl⟩
  rw [← hz] at HS HZN
  have HZ := Lib.hid hz
  clear hz hr
  by_cases hneg : z < 0
  · clear hr2 hrow hr3
    go_enter Tryd.func6, Tryd.ntmps6
    go_wp2_with fail
    refine HS.out.mono ?_
    rintro e w1 ⟨rfl, hb1⟩
    go_wp2_with fail
    go_ret
    exact ⟨rfl, hb1⟩
  have hz0 : 0 ≤ z := by omega
  obtain ⟨hz1, hzn⟩ := szF_le t _ (by rw [HZ.out] at hz0; exact hz0)
  rw [← HZ.out] at hz1
  have hz2 : z ≤ 1048576 := by omega
  have HNB : Hid (NmB t) := fun i x hx => by have := hzn x (List.mem_of_getElem? hx); omega
  have HRD := Lib.hid hrd
  clear hzn hrd hneg HZN
  by_cases hneg2 : z < (n2 : Int)
  · clear hr2 hrow hr3
    go_enter Tryd.func6, Tryd.ntmps6
    go_wp2_with fail
    refine HS.out.mono ?_
    rintro e w1 ⟨rfl, hb1⟩
    have HS2 := Lib.hid (szDoSS_big A2 n2 c2 z w1 hz0 hz2 hneg2 hn2)
    go_wp2_with fail
    refine HS2.out.mono ?_
    rintro e w2 ⟨rfl, hb2⟩
    go_wp2_with fail
    go_ret
    exact ⟨rfl, bel_nx hb1 hb2⟩
  have hb2 : n2 ≤ 1048576 := by omega
  have hz2n : (n2 : Int) ≤ z := by omega
  have HRV := Lib.hid (hr2 hb2)
  have HYN := szV_neg rows (z - (n2 : Int)) (by omega)
  obtain ⟨y, hy⟩ : ∃ y, y = szV rows (z - (n2 : Int)) := ⟨_, rfl⟩
  have HY := Lib.hid hy
  rw [← hy] at HYN
  have HROW := Lib.hid hrow
  have HR3 := Lib.hid (hr3 h3)
  have HS2 : Hid (∀ w', Below w.heap.size w w' → Calls Tryd.prog 8 #[.slice A2 n2 c2, .int .i64 z] w' fun e w'' => e = .returned (.int .i64 y) ∧ Below w'.heap.size w' w'') := fun w' hb' => by
    have := szDoSS_t 0 A2 n2 c2 rows z w' (HRV.out.below hb') (fun x hx => (HROW.out x hx).1) hz0 hz2 hz2n
    rw [← HY.out] at this
    exact this
  clear hr2 hrow hr3 hy hneg2
  by_cases hyneg : y < 0
  · go_enter Tryd.func6, Tryd.ntmps6
    go_wp2_with fail
    refine HS.out.mono ?_
    rintro e w1 ⟨rfl, hb1⟩
    go_wp2_with fail
    refine (HS2.out w1 hb1).mono ?_
    rintro e w2 ⟨rfl, hb2⟩
    go_wp2_with fail
    go_ret
    exact ⟨rfl, bel_nx hb1 hb2⟩
  have hy0 : 0 ≤ y := by omega
  obtain ⟨_, hyn⟩ := szV_le rows _ (by rw [HY.out] at hy0; exact hy0)
  obtain ⟨sc, hsc, hscl⟩ := rdd_of (w := w) rows fun v hv => ⟨(HROW.out v hv).2.1, (HROW.out v hv).2.2 (by have := hyn v hv; omega)⟩
  have HX0 : Hid (ExR w A n c t A2 n2 c2 sc A3 n3 c3 ps) := ⟨HRD.out, hb, HNB.out, ⟨rows, HRV.out, hsc⟩, hb2, fun l hl => by obtain ⟨v, hv, e⟩ := hscl l hl; have := hyn v hv; omega, HR3.out, h3, hT⟩
  clear hyn hsc hscl hyneg HYN
  have hnI : (n : Int) ≤ 1048576 := by omega
  have hn2I : (n2 : Int) ≤ 1048576 := by omega
  have hfl : (rvF t sc ps).length ≤ 48 := by have := rvF_len (t := t) (sc := sc) (ps := ps); omega
  go_enter Tryd.func6, Tryd.ntmps6
  go_wp2_with fail
  refine HS.out.mono ?_
  rintro e w1 ⟨rfl, hb1⟩
  go_wp2_with fail
  refine (HS2.out w1 hb1).mono ?_
  rintro e w2 ⟨rfl, hb2'⟩
  have HB2 : Hid (Below w.heap.size w w2) := bel_nx hb1 hb2'
  have HX2 := Lib.hid (HX0.out.below HB2.out)
  clear HS HS2 HRV HROW HR3 HRD hb1 hb2'
  go_wp2_with fail
  refine HX2.out.toN.mono ?_
  rintro e a1 ⟨rfl, ao1, ab1⟩
  have aX1 := Lib.hid (HX2.out.below ab1)
  have aO1 := Lib.hid ao1
  clear ao1
  go_wp2_with fail
  refine aX1.out.toD.mono ?_
  rintro e a2 ⟨rfl, ⟨avs, ao2⟩, ab2⟩
  have aX2 := Lib.hid (aX1.out.below ab2)
  have aO2 := Lib.hid ao2
  clear ao2
  go_wp2_with fail
  refine aX2.out.toI.mono ?_
  rintro e a3 ⟨rfl, ao3, ab3⟩
  have aX3 := Lib.hid (aX2.out.below ab3)
  have aO3 := Lib.hid ao3
  clear ao3
  have as1 := ab1.size
  have as2 := ab2.size
  have as3 := ab3.size
  have HSP := Lib.hid (RunValuesS_any _ _ _ _ _ _ n n n2 n2 n3 n3 t sc ps a3 ((aO1.out.below ab2).below ab3 |>.rN hb) (Nat.le_refl _) HX2.out.nm ((aO2.out.below ab3).rd hb2 HX2.out.row) (aO3.out.rI h3))
  go_wp2_with fail
  refine HSP.out.mono ?_
  rintro e wS ⟨Bs, ks, ds, rfl, hds, hrs, hbS⟩
  have HB3 : Hid (Below w.heap.size w a3) := bel_nx (bel_nx (bel_nx HB2.out ab1) ab2) ab3
  have HBS : Hid (Below w.heap.size w wS) := bel_nx HB3.out hbS
  have HW0 := Lib.hid (hrs.low (Nat.zero_le _))
  have hks : ks ≤ 48 := by have := hrs.len; omega
  have HXS := Lib.hid (aX3.out.below hbS)
  clear hrs HSP aO1 aO2 aO3 aX1 aX2 aX3 ab1 ab2 ab3 as1 as2 as3 hbS
  go_wp2_with fail
  refine HXS.out.toN.mono ?_
  rintro e x1 ⟨rfl, xo1, xb1⟩
  have xX1 := Lib.hid (HXS.out.below xb1)
  have xO1 := Lib.hid xo1
  clear xo1
  go_wp2_with fail
  refine xX1.out.toD.mono ?_
  rintro e x2 ⟨rfl, ⟨xvs, xo2⟩, xb2⟩
  have xX2 := Lib.hid (xX1.out.below xb2)
  have xO2 := Lib.hid xo2
  clear xo2
  go_wp2_with fail
  refine xX2.out.toI.mono ?_
  rintro e x3 ⟨rfl, xo3, xb3⟩
  have xX3 := Lib.hid (xX2.out.below xb3)
  have xO3 := Lib.hid xo3
  clear xo3
  have xs1 := xb1.size
  have xs2 := xb2.size
  have xs3 := xb3.size
  have HG := Lib.hid (RunValues_own _ _ _ _ _ _ n n n2 n2 n3 n3 t sc ps x3 ((xO1.out.below xb2).below xb3 |>.rN hb) (Nat.le_refl _) ((xO2.out.below xb3).rd hb2 HX2.out.row) (xO3.out.rI h3) xX3.out.tb)
  have HX3b : Hid (Below wS.heap.size wS x3) := (xb1.trans (xb2.mono xs1)).trans (xb3.mono (by omega))
  have HN3 := Lib.hid ((xO1.out.below xb2).below xb3)
  have HD3 := Lib.hid (xO2.out.below xb3)
  have HDB := Lib.hid xO2.out.blk
  have hx3s : wS.heap.size ≤ x3.heap.size := by omega
  have HLT1 : Hid (wS.heap.size < x1.heap.size) := by obtain ⟨_, h⟩ := own_blk xO1.out; exact blk_lt h
  have HLT2 : Hid (x1.heap.size < x2.heap.size) := by obtain ⟨_, h⟩ := own_blk xO2.out.out; exact blk_lt h
  have HLT3 : Hid (x2.heap.size < x3.heap.size) := by obtain ⟨_, h⟩ := own_blk xO3.out; exact blk_lt h
  go_wp2_with fail
  refine HG.out.mono ?_
  rintro e w4 ⟨v4, rfl, ho4, hb4⟩
  obtain ⟨B4, k4, d4, rfl, hd4, _⟩ := id (ho4.rdn elI.len (by omega))
  have hk4 : k4 ≤ 48 := by have := ho4.lenV; simp only [lenV] at this; omega
  have hs4 := hb4.size
  have HS4 : Hid (Below wS.heap.size wS w4) := HX3b.out.trans (hb4.mono hx3s)
  have HN4 := Lib.hid (HN3.out.below hb4)
  have HD4 := Lib.hid (HD3.out.below hb4)
  have HI4 := Lib.hid (xO3.out.below hb4)
  have HG4 := Lib.hid ho4
  have HB4 : Hid (Below w.heap.size w w4) := bel_nx HBS.out HS4.out
  have HX4 := Lib.hid (HX0.out.below HB4.out)
  clear ho4
  clear HN3 HD3 xO1 xO2 xO3 xX1 xX2 xX3 HG
  have hl1 : wS.heap.size < x1.heap.size := HLT1.out
  have hl2 : x1.heap.size < x2.heap.size := HLT2.out
  have hl3 : x2.heap.size < x3.heap.size := HLT3.out
  have HE4 := Lib.hid (eqIntS_t _ _ B4 Bs k4 d4 ks ds _ w4 (HG4.out.rI (by omega)) (HW0.out.below HS4.out))
  go_wp2_with fail
  refine HE4.out.mono ?_
  rintro e w5 ⟨rfl, hb5⟩
  have HN5 := Lib.hid (HN4.out.below hb5)
  have HD5 := Lib.hid (HD4.out.below hb5)
  have HI5 := Lib.hid (HI4.out.below hb5)
  have HG5 := Lib.hid (HG4.out.below hb5)
  have HS5 : Hid (Below wS.heap.size wS w5) := bel_step HS4.out hb5 HS4.out.size
  clear HN4 HD4 HI4 HG4
  have HX5 := Lib.hid (HX0.out.below (bel_nx HBS.out HS5.out))
  go_wp2_with fail
  refine HX5.out.toN.mono ?_
  rintro e w6 ⟨rfl, o6, hb6⟩
  have HN6 := Lib.hid (HN5.out.below hb6)
  have HD6 := Lib.hid (HD5.out.below hb6)
  have HI6 := Lib.hid (HI5.out.below hb6)
  have HG6 := Lib.hid (HG5.out.below hb6)
  have HS6 : Hid (Below wS.heap.size wS w6) := bel_step HS5.out hb6 HS5.out.size
  clear HN5 HD5 HI5 HG5
  have HE6 := Lib.hid (eqNodeS_t _ _ _ _ n n n n t w6 (HN6.out.rN hb) (o6.rN hb))
  clear o6 HX5
  go_wp2_with fail
  refine HE6.out.mono ?_
  rintro e w7 ⟨rfl, hb7⟩
  have HN7 := Lib.hid (HN6.out.below hb7)
  have HD7 := Lib.hid (HD6.out.below hb7)
  have HI7 := Lib.hid (HI6.out.below hb7)
  have HG7 := Lib.hid (HG6.out.below hb7)
  have HS7 : Hid (Below wS.heap.size wS w7) := bel_step HS6.out hb7 HS6.out.size
  clear HN6 HD6 HI6 HG6
  have HX7 := Lib.hid (HX0.out.below (bel_nx HBS.out HS7.out))
  go_wp2_with fail
  refine HX7.out.toD.mono ?_
  rintro e w8 ⟨rfl, ⟨vs8, o8⟩, hb8⟩
  have HN8 := Lib.hid (HN7.out.below hb8)
  have HD8 := Lib.hid (HD7.out.below hb8)
  have HI8 := Lib.hid (HI7.out.below hb8)
  have HG8 := Lib.hid (HG7.out.below hb8)
  have HS8 : Hid (Below wS.heap.size wS w8) := bel_step HS7.out hb8 HS7.out.size
  clear HN7 HD7 HI7 HG7
  have HE8 := Lib.hid (eqDoSS_t _ _ _ _ n2 n2 n2 n2 sc w8 (HD8.out.rd hb2 HX0.out.row) (o8.rd hb2 HX0.out.row))
  clear o8 HX7
  go_wp2_with fail
  refine HE8.out.mono ?_
  rintro e w9 ⟨rfl, hb9⟩
  have HN9 := Lib.hid (HN8.out.below hb9)
  have HD9 := Lib.hid (HD8.out.below hb9)
  have HI9 := Lib.hid (HI8.out.below hb9)
  have HG9 := Lib.hid (HG8.out.below hb9)
  have HS9 : Hid (Below wS.heap.size wS w9) := bel_step HS8.out hb9 HS8.out.size
  clear HN8 HD8 HI8 HG8
  have HX9 := Lib.hid (HX0.out.below (bel_nx HBS.out HS9.out))
  go_wp2_with fail
  refine HX9.out.toI.mono ?_
  rintro e w10 ⟨rfl, o10, hb10⟩
  have HN10 := Lib.hid (HN9.out.below hb10)
  have HD10 := Lib.hid (HD9.out.below hb10)
  have HI10 := Lib.hid (HI9.out.below hb10)
  have HG10 := Lib.hid (HG9.out.below hb10)
  have HS10 : Hid (Below wS.heap.size wS w10) := bel_step HS9.out hb10 HS9.out.size
  clear HN9 HD9 HI9 HG9
  have HE10 := Lib.hid (eqIntS_t _ _ _ _ n3 n3 n3 n3 ps w10 (HI10.out.rI h3) (o10.rI h3))
  clear o10 HX9
  go_wp2_with fail
  refine HE10.out.mono ?_
  rintro e w11 ⟨rfl, hb11⟩
  have HN11 := Lib.hid (HN10.out.below hb11)
  have HD11 := Lib.hid (HD10.out.below hb11)
  have HI11 := Lib.hid (HI10.out.below hb11)
  have HG11 := Lib.hid (HG10.out.below hb11)
  have HS11 : Hid (Below wS.heap.size wS w11) := bel_step HS10.out hb11 HS10.out.size
  clear HN10 HD10 HI10 HG10
  have HM11 := Lib.hid (markNodeS_t _ _ n n t 1 w11 HN11.out (by omega) (by omega) hb)
  go_wp2_with fail
  refine HM11.out.mono ?_
  rintro e w12 ⟨rfl, hg12⟩
  have HG12' : Hid (w11.grownBy w12 (some wS.heap.size)) := hg12
  have HS12 : Hid (Below wS.heap.size wS w12) := bel_grow HS11.out HG12'.out HS11.out.size (Nat.le_refl _)
  have HD12 := Lib.hid (HD11.out.grown HG12'.out hl1)
  have HI12 := Lib.hid (HI11.out.grown HG12'.out (by omega))
  have HG12 := Lib.hid (HG11.out.grown HG12'.out (by omega))
  have HM12 := Lib.hid (markDoSS_t _ x2.heap.size _ n2 n2 xvs sc (1 + 3 * (n : Int)) w12 HD12.out HX0.out.row HDB.out (by omega) (by omega) hb2)
  clear hg12 HN11 HD11 HI11 HG11
  go_wp2_with fail
  refine HM12.out.mono ?_
  rintro e w13 ⟨⟨q, rfl, hq0, hq1⟩, hbt13⟩
  have HS13 : Hid (Below wS.heap.size wS w13) := Below.btw HS12.out hbt13 (by omega) HS12.out.size
  have HI13 := Lib.hid (HI12.out.btw hbt13 (Nat.le_refl _))
  have HG13 := Lib.hid (HG12.out.btw hbt13 (by omega))
  have HM13 := Lib.hid (markIntS_t _ _ n3 n3 ps q w13 HI13.out hq0 (by omega) h3)
  clear HD12 HI12 HG12 hbt13
  go_wp2_with fail
  refine HM13.out.mono ?_
  rintro e w14 ⟨rfl, _, hg14⟩
  have HG14' : Hid (w13.grownBy w14 (some x2.heap.size)) := hg14
  have HS14 : Hid (Below wS.heap.size wS w14) := bel_grow HS13.out HG14'.out HS13.out.size (by omega)
  have HG14 := Lib.hid (HG13.out.grown HG14'.out (by omega))
  have HE14 := Lib.hid (eqIntS_t _ _ B4 Bs k4 d4 ks ds _ w14 (HG14.out.rI (by omega)) (HW0.out.below HS14.out))
  clear hg14 HI13 HG13
  go_wp2_with fail
  refine HE14.out.mono ?_
  rintro e w15 ⟨rfl, hb15⟩
  have HS15 : Hid (Below wS.heap.size wS w15) := bel_step HS14.out hb15 HS14.out.size
  have HG15 := Lib.hid (HG14.out.below hb15)
  have HM15 := Lib.hid (markIntS_t _ B4 k4 d4 _ 1 w15 HG15.out (by omega) (by omega) (by omega))
  go_wp2_with fail
  refine HM15.out.mono ?_
  rintro e w16 ⟨rfl, ho16, hg16⟩
  have HS16 : Hid (Below wS.heap.size wS w16) := below_own HS15.out HG15.out hg16 (by omega) HS15.out.size
  have HG16 := Lib.hid ho16
  have HH16 := Lib.hid (heldIntS_t _ B4 k4 d4 1 w16 (HG16.out.rI (by omega)) (by omega) (by omega) (by omega))
  clear ho16 hg16 HG14 HG15
  go_wp2_with fail
  refine HH16.out.mono ?_
  rintro e w17 ⟨rfl, hb17⟩
  have HS17 : Hid (Below wS.heap.size wS w17) := bel_step HS16.out hb17 HS16.out.size
  have HG17 := Lib.hid (HG16.out.below hb17)
  have HX17 := Lib.hid (HX0.out.below (bel_nx HBS.out HS17.out))
  go_wp2_with fail
  refine HX17.out.toN.mono ?_
  rintro e r1 ⟨rfl, ro1, rb1⟩
  have rX1 := Lib.hid (HX17.out.below rb1)
  have rO1 := Lib.hid ro1
  clear ro1
  go_wp2_with fail
  refine rX1.out.toD.mono ?_
  rintro e r2 ⟨rfl, ⟨rvs, ro2⟩, rb2⟩
  have rX2 := Lib.hid (rX1.out.below rb2)
  have rO2 := Lib.hid ro2
  clear ro2
  go_wp2_with fail
  refine rX2.out.toI.mono ?_
  rintro e r3 ⟨rfl, ro3, rb3⟩
  have rX3 := Lib.hid (rX2.out.below rb3)
  have rO3 := Lib.hid ro3
  clear ro3
  have rs1 := rb1.size
  have rs2 := rb2.size
  have rs3 := rb3.size
  have HR18 := Lib.hid (RunValues_own _ _ _ _ _ _ n n n2 n2 n3 n3 t sc ps r3 ((rO1.out.below rb2).below rb3 |>.rN hb) (Nat.le_refl _) ((rO2.out.below rb3).rd hb2 HX0.out.row) (rO3.out.rI h3) rX3.out.tb)
  go_wp2_with fail
  refine HR18.out.mono ?_
  rintro e w18 ⟨v18, rfl, ho18, hb18⟩
  obtain ⟨B18, k18, d18, rfl, hd18, _⟩ := id (ho18.rdn elI.len (by omega))
  have hk18 : k18 ≤ 48 := by have := ho18.lenV; simp only [lenV] at this; omega
  have hgb : Below w17.heap.size w17 w18 := (rb1.trans (rb2.mono rs1)).trans ((rb3.mono (by omega)).trans (hb18.mono (by omega)))
  have HS18 : Hid (Below wS.heap.size wS w18) := bel_step HS17.out hgb HS17.out.size
  have HG18 := Lib.hid (HG17.out.below hgb)
  have HE18 := Lib.hid (eqIntS_t _ _ B18 Bs k18 d18 ks ds _ w18 (ho18.rI (by omega)) (HW0.out.below HS18.out))
  clear ho18 hgb
  go_wp2_with fail
  refine HE18.out.mono ?_
  rintro e w19 ⟨rfl, hb19⟩
  have HS19 : Hid (Below wS.heap.size wS w19) := bel_step HS18.out hb19 HS18.out.size
  have HH19 := Lib.hid (heldIntS_t _ B4 k4 d4 1 w19 ((HG18.out.below hb19).rI (by omega)) (by omega) (by omega) (by omega))
  go_wp2_with fail
  refine HH19.out.mono ?_
  rintro e w20 ⟨rfl, hb20⟩
  have HS20 : Hid (Below wS.heap.size wS w20) := bel_step HS19.out hb20 HS19.out.size
  go_wp2_with fail
  go_ret
  exact ⟨rfl, bel_nx HBS.out HS20.out⟩

set_option maxRecDepth 100000 in
set_option maxHeartbeats 6400000 in
theorem lawExactRunOrder (A A2 A3 : Option Addr) (n c n2 c2 n3 c3 : Nat) (t : List Nd) (rows : List Sl) (ps : List Int) (w : World) (hn : n ≤ 9223372036854775807) (hr : n ≤ 1048576 → Rd cN 3 w 0 A n t) (hm : NmM t)
    (hn2 : n2 ≤ 9223372036854775807) (hr2 : n2 ≤ 1048576 → Rd cV 1 w 0 A2 n2 rows) (hrow : ∀ v ∈ rows, v.n ≤ 9223372036854775807 ∧ v.n ≤ v.c ∧ (v.n ≤ 1048576 → ∃ l, Rd cD 2 w 0 v.a v.n l))
    (hr3 : n3 ≤ 1048576 → Rd cI 1 w 0 A3 n3 ps) (hT : Tb w) :
    Calls Tryd.prog 5 #[.slice A n c, .slice A2 n2 c2, .slice A3 n3 c3] w fun e w' => e = .returned (.bool true) ∧ Below w.heap.size w w' := by
  by_cases h3 : n3 ≤ 1048576
  case neg =>
    have h3' : (1048576 : Int) < (n3 : Int) := by omega
    clear hr hr2 hrow hr3
    go_enter Tryd.func5, Tryd.ntmps5
    go_wp2_with fail
    go_ret
    exact ⟨rfl, Below.refl _ _⟩
  have h3' : (n3 : Int) ≤ 1048576 := by omega
  by_cases hb : n ≤ 1048576
  case neg =>
    have HS := Lib.hid (szNodeS_big A n c 1048576 w (by omega) (by omega) (by omega) hn)
    clear hr hr2 hrow hr3
    go_enter Tryd.func5, Tryd.ntmps5
    go_wp2_with fail
    refine HS.out.mono ?_
    rintro e w1 ⟨rfl, hb1⟩
    go_wp2_with fail
    go_ret
    exact ⟨rfl, hb1⟩
  have hrd := hr hb
  have HS := Lib.hid (szNodeS_t 0 A n c t 1048576 w hrd hm (by omega) (by omega) (by omega))
  have HZN := szF_neg t (1048576 - (n : Int)) (by omega)
  obtain ⟨z, hz⟩ : ∃ z, z = szF t (1048576 - (n : Int)) := ⟨_, rfl⟩
  rw [← hz] at HS HZN
  have HZ := Lib.hid hz
  clear hz hr
  by_cases hneg : z < 0
  · clear hr2 hrow hr3
    go_enter Tryd.func5, Tryd.ntmps5
    go_wp2_with fail
    refine HS.out.mono ?_
    rintro e w1 ⟨rfl, hb1⟩
    go_wp2_with fail
    go_ret
    exact ⟨rfl, hb1⟩
  have hz0 : 0 ≤ z := by omega
  obtain ⟨hz1, hzn⟩ := szF_le t _ (by rw [HZ.out] at hz0; exact hz0)
  rw [← HZ.out] at hz1
  have hz2 : z ≤ 1048576 := by omega
  have HNB : Hid (NmB t) := fun i x hx => by have := hzn x (List.mem_of_getElem? hx); omega
  have HRD := Lib.hid hrd
  clear hzn hrd hneg HZN
  by_cases hneg2 : z < (n2 : Int)
  · clear hr2 hrow hr3
    go_enter Tryd.func5, Tryd.ntmps5
    go_wp2_with fail
    refine HS.out.mono ?_
    rintro e w1 ⟨rfl, hb1⟩
    have HS2 := Lib.hid (szDoSS_big A2 n2 c2 z w1 hz0 hz2 hneg2 hn2)
    go_wp2_with fail
    refine HS2.out.mono ?_
    rintro e w2 ⟨rfl, hb2⟩
    go_wp2_with fail
    go_ret
    exact ⟨rfl, bel_nx hb1 hb2⟩
  have hb2 : n2 ≤ 1048576 := by omega
  have hz2n : (n2 : Int) ≤ z := by omega
  have HRV := Lib.hid (hr2 hb2)
  have HYN := szV_neg rows (z - (n2 : Int)) (by omega)
  obtain ⟨y, hy⟩ : ∃ y, y = szV rows (z - (n2 : Int)) := ⟨_, rfl⟩
  have HY := Lib.hid hy
  rw [← hy] at HYN
  have HROW := Lib.hid hrow
  have HR3 := Lib.hid (hr3 h3)
  have HS2 : Hid (∀ w', Below w.heap.size w w' → Calls Tryd.prog 8 #[.slice A2 n2 c2, .int .i64 z] w' fun e w'' => e = .returned (.int .i64 y) ∧ Below w'.heap.size w' w'') := fun w' hb' => by
    have := szDoSS_t 0 A2 n2 c2 rows z w' (HRV.out.below hb') (fun x hx => (HROW.out x hx).1) hz0 hz2 hz2n
    rw [← HY.out] at this
    exact this
  clear hr2 hrow hr3 hy hneg2
  by_cases hyneg : y < 0
  · go_enter Tryd.func5, Tryd.ntmps5
    go_wp2_with fail
    refine HS.out.mono ?_
    rintro e w1 ⟨rfl, hb1⟩
    go_wp2_with fail
    refine (HS2.out w1 hb1).mono ?_
    rintro e w2 ⟨rfl, hb2⟩
    go_wp2_with fail
    go_ret
    exact ⟨rfl, bel_nx hb1 hb2⟩
  have hy0 : 0 ≤ y := by omega
  obtain ⟨_, hyn⟩ := szV_le rows _ (by rw [HY.out] at hy0; exact hy0)
  obtain ⟨sc, hsc, hscl⟩ := rdd_of (w := w) rows fun v hv => ⟨(HROW.out v hv).2.1, (HROW.out v hv).2.2 (by have := hyn v hv; omega)⟩
  have HX0 : Hid (ExR w A n c t A2 n2 c2 sc A3 n3 c3 ps) := ⟨HRD.out, hb, HNB.out, ⟨rows, HRV.out, hsc⟩, hb2, fun l hl => by obtain ⟨v, hv, e⟩ := hscl l hl; have := hyn v hv; omega, HR3.out, h3, hT⟩
  clear hyn hsc hscl hyneg HYN
  have hnI : (n : Int) ≤ 1048576 := by omega
  have hn2I : (n2 : Int) ≤ 1048576 := by omega
  have hfl : (roF t sc ps).length ≤ 48 := by have := roF_len (t := t) (sc := sc) (ps := ps); omega
  go_enter Tryd.func5, Tryd.ntmps5
  go_wp2_with fail
  refine HS.out.mono ?_
  rintro e w1 ⟨rfl, hb1⟩
  go_wp2_with fail
  refine (HS2.out w1 hb1).mono ?_
  rintro e w2 ⟨rfl, hb2'⟩
  have HB2 : Hid (Below w.heap.size w w2) := bel_nx hb1 hb2'
  have HX2 := Lib.hid (HX0.out.below HB2.out)
  clear HS HS2 HRV HROW HR3 HRD hb1 hb2'
  go_wp2_with fail
  refine HX2.out.toN.mono ?_
  rintro e a1 ⟨rfl, ao1, ab1⟩
  have aX1 := Lib.hid (HX2.out.below ab1)
  have aO1 := Lib.hid ao1
  clear ao1
  go_wp2_with fail
  refine aX1.out.toD.mono ?_
  rintro e a2 ⟨rfl, ⟨avs, ao2⟩, ab2⟩
  have aX2 := Lib.hid (aX1.out.below ab2)
  have aO2 := Lib.hid ao2
  clear ao2
  go_wp2_with fail
  refine aX2.out.toI.mono ?_
  rintro e a3 ⟨rfl, ao3, ab3⟩
  have aX3 := Lib.hid (aX2.out.below ab3)
  have aO3 := Lib.hid ao3
  clear ao3
  have as1 := ab1.size
  have as2 := ab2.size
  have as3 := ab3.size
  have HSP := Lib.hid (RunOrderS_any _ _ _ _ _ _ n n n2 n2 n3 n3 t sc ps a3 ((aO1.out.below ab2).below ab3 |>.rN hb) (Nat.le_refl _) HX2.out.nm ((aO2.out.below ab3).rd hb2 HX2.out.row) (aO3.out.rI h3))
  go_wp2_with fail
  refine HSP.out.mono ?_
  rintro e wS ⟨Bs, ks, ds, rfl, hds, hrs, hbS⟩
  have HB3 : Hid (Below w.heap.size w a3) := bel_nx (bel_nx (bel_nx HB2.out ab1) ab2) ab3
  have HBS : Hid (Below w.heap.size w wS) := bel_nx HB3.out hbS
  have HW0 := Lib.hid (hrs.low (Nat.zero_le _))
  have hks : ks ≤ 48 := by have := hrs.len; omega
  have HXS := Lib.hid (aX3.out.below hbS)
  clear hrs HSP aO1 aO2 aO3 aX1 aX2 aX3 ab1 ab2 ab3 as1 as2 as3 hbS
  go_wp2_with fail
  refine HXS.out.toN.mono ?_
  rintro e x1 ⟨rfl, xo1, xb1⟩
  have xX1 := Lib.hid (HXS.out.below xb1)
  have xO1 := Lib.hid xo1
  clear xo1
  go_wp2_with fail
  refine xX1.out.toD.mono ?_
  rintro e x2 ⟨rfl, ⟨xvs, xo2⟩, xb2⟩
  have xX2 := Lib.hid (xX1.out.below xb2)
  have xO2 := Lib.hid xo2
  clear xo2
  go_wp2_with fail
  refine xX2.out.toI.mono ?_
  rintro e x3 ⟨rfl, xo3, xb3⟩
  have xX3 := Lib.hid (xX2.out.below xb3)
  have xO3 := Lib.hid xo3
  clear xo3
  have xs1 := xb1.size
  have xs2 := xb2.size
  have xs3 := xb3.size
  have HG := Lib.hid (RunOrder_own _ _ _ _ _ _ n n n2 n2 n3 n3 t sc ps x3 ((xO1.out.below xb2).below xb3 |>.rN hb) (Nat.le_refl _) ((xO2.out.below xb3).rd hb2 HX2.out.row) (xO3.out.rI h3) xX3.out.tb)
  have HX3b : Hid (Below wS.heap.size wS x3) := (xb1.trans (xb2.mono xs1)).trans (xb3.mono (by omega))
  have HN3 := Lib.hid ((xO1.out.below xb2).below xb3)
  have HD3 := Lib.hid (xO2.out.below xb3)
  have HDB := Lib.hid xO2.out.blk
  have hx3s : wS.heap.size ≤ x3.heap.size := by omega
  have HLT1 : Hid (wS.heap.size < x1.heap.size) := by obtain ⟨_, h⟩ := own_blk xO1.out; exact blk_lt h
  have HLT2 : Hid (x1.heap.size < x2.heap.size) := by obtain ⟨_, h⟩ := own_blk xO2.out.out; exact blk_lt h
  have HLT3 : Hid (x2.heap.size < x3.heap.size) := by obtain ⟨_, h⟩ := own_blk xO3.out; exact blk_lt h
  go_wp2_with fail
  refine HG.out.mono ?_
  rintro e w4 ⟨v4, rfl, ho4, hb4⟩
  obtain ⟨B4, k4, d4, rfl, hd4, _⟩ := id (ho4.rdn elI.len (by omega))
  have hk4 : k4 ≤ 48 := by have := ho4.lenV; simp only [lenV] at this; omega
  have hs4 := hb4.size
  have HS4 : Hid (Below wS.heap.size wS w4) := HX3b.out.trans (hb4.mono hx3s)
  have HN4 := Lib.hid (HN3.out.below hb4)
  have HD4 := Lib.hid (HD3.out.below hb4)
  have HI4 := Lib.hid (xO3.out.below hb4)
  have HG4 := Lib.hid ho4
  have HB4 : Hid (Below w.heap.size w w4) := bel_nx HBS.out HS4.out
  have HX4 := Lib.hid (HX0.out.below HB4.out)
  clear ho4
  clear HN3 HD3 xO1 xO2 xO3 xX1 xX2 xX3 HG
  have hl1 : wS.heap.size < x1.heap.size := HLT1.out
  have hl2 : x1.heap.size < x2.heap.size := HLT2.out
  have hl3 : x2.heap.size < x3.heap.size := HLT3.out
  have HE4 := Lib.hid (eqIntS_t _ _ B4 Bs k4 d4 ks ds _ w4 (HG4.out.rI (by omega)) (HW0.out.below HS4.out))
  go_wp2_with fail
  refine HE4.out.mono ?_
  rintro e w5 ⟨rfl, hb5⟩
  have HN5 := Lib.hid (HN4.out.below hb5)
  have HD5 := Lib.hid (HD4.out.below hb5)
  have HI5 := Lib.hid (HI4.out.below hb5)
  have HG5 := Lib.hid (HG4.out.below hb5)
  have HS5 : Hid (Below wS.heap.size wS w5) := bel_step HS4.out hb5 HS4.out.size
  clear HN4 HD4 HI4 HG4
  have HX5 := Lib.hid (HX0.out.below (bel_nx HBS.out HS5.out))
  go_wp2_with fail
  refine HX5.out.toN.mono ?_
  rintro e w6 ⟨rfl, o6, hb6⟩
  have HN6 := Lib.hid (HN5.out.below hb6)
  have HD6 := Lib.hid (HD5.out.below hb6)
  have HI6 := Lib.hid (HI5.out.below hb6)
  have HG6 := Lib.hid (HG5.out.below hb6)
  have HS6 : Hid (Below wS.heap.size wS w6) := bel_step HS5.out hb6 HS5.out.size
  clear HN5 HD5 HI5 HG5
  have HE6 := Lib.hid (eqNodeS_t _ _ _ _ n n n n t w6 (HN6.out.rN hb) (o6.rN hb))
  clear o6 HX5
  go_wp2_with fail
  refine HE6.out.mono ?_
  rintro e w7 ⟨rfl, hb7⟩
  have HN7 := Lib.hid (HN6.out.below hb7)
  have HD7 := Lib.hid (HD6.out.below hb7)
  have HI7 := Lib.hid (HI6.out.below hb7)
  have HG7 := Lib.hid (HG6.out.below hb7)
  have HS7 : Hid (Below wS.heap.size wS w7) := bel_step HS6.out hb7 HS6.out.size
  clear HN6 HD6 HI6 HG6
  have HX7 := Lib.hid (HX0.out.below (bel_nx HBS.out HS7.out))
  go_wp2_with fail
  refine HX7.out.toD.mono ?_
  rintro e w8 ⟨rfl, ⟨vs8, o8⟩, hb8⟩
  have HN8 := Lib.hid (HN7.out.below hb8)
  have HD8 := Lib.hid (HD7.out.below hb8)
  have HI8 := Lib.hid (HI7.out.below hb8)
  have HG8 := Lib.hid (HG7.out.below hb8)
  have HS8 : Hid (Below wS.heap.size wS w8) := bel_step HS7.out hb8 HS7.out.size
  clear HN7 HD7 HI7 HG7
  have HE8 := Lib.hid (eqDoSS_t _ _ _ _ n2 n2 n2 n2 sc w8 (HD8.out.rd hb2 HX0.out.row) (o8.rd hb2 HX0.out.row))
  clear o8 HX7
  go_wp2_with fail
  refine HE8.out.mono ?_
  rintro e w9 ⟨rfl, hb9⟩
  have HN9 := Lib.hid (HN8.out.below hb9)
  have HD9 := Lib.hid (HD8.out.below hb9)
  have HI9 := Lib.hid (HI8.out.below hb9)
  have HG9 := Lib.hid (HG8.out.below hb9)
  have HS9 : Hid (Below wS.heap.size wS w9) := bel_step HS8.out hb9 HS8.out.size
  clear HN8 HD8 HI8 HG8
  have HX9 := Lib.hid (HX0.out.below (bel_nx HBS.out HS9.out))
  go_wp2_with fail
  refine HX9.out.toI.mono ?_
  rintro e w10 ⟨rfl, o10, hb10⟩
  have HN10 := Lib.hid (HN9.out.below hb10)
  have HD10 := Lib.hid (HD9.out.below hb10)
  have HI10 := Lib.hid (HI9.out.below hb10)
  have HG10 := Lib.hid (HG9.out.below hb10)
  have HS10 : Hid (Below wS.heap.size wS w10) := bel_step HS9.out hb10 HS9.out.size
  clear HN9 HD9 HI9 HG9
  have HE10 := Lib.hid (eqIntS_t _ _ _ _ n3 n3 n3 n3 ps w10 (HI10.out.rI h3) (o10.rI h3))
  clear o10 HX9
  go_wp2_with fail
  refine HE10.out.mono ?_
  rintro e w11 ⟨rfl, hb11⟩
  have HN11 := Lib.hid (HN10.out.below hb11)
  have HD11 := Lib.hid (HD10.out.below hb11)
  have HI11 := Lib.hid (HI10.out.below hb11)
  have HG11 := Lib.hid (HG10.out.below hb11)
  have HS11 : Hid (Below wS.heap.size wS w11) := bel_step HS10.out hb11 HS10.out.size
  clear HN10 HD10 HI10 HG10
  have HM11 := Lib.hid (markNodeS_t _ _ n n t 1 w11 HN11.out (by omega) (by omega) hb)
  go_wp2_with fail
  refine HM11.out.mono ?_
  rintro e w12 ⟨rfl, hg12⟩
  have HG12' : Hid (w11.grownBy w12 (some wS.heap.size)) := hg12
  have HS12 : Hid (Below wS.heap.size wS w12) := bel_grow HS11.out HG12'.out HS11.out.size (Nat.le_refl _)
  have HD12 := Lib.hid (HD11.out.grown HG12'.out hl1)
  have HI12 := Lib.hid (HI11.out.grown HG12'.out (by omega))
  have HG12 := Lib.hid (HG11.out.grown HG12'.out (by omega))
  have HM12 := Lib.hid (markDoSS_t _ x2.heap.size _ n2 n2 xvs sc (1 + 3 * (n : Int)) w12 HD12.out HX0.out.row HDB.out (by omega) (by omega) hb2)
  clear hg12 HN11 HD11 HI11 HG11
  go_wp2_with fail
  refine HM12.out.mono ?_
  rintro e w13 ⟨⟨q, rfl, hq0, hq1⟩, hbt13⟩
  have HS13 : Hid (Below wS.heap.size wS w13) := Below.btw HS12.out hbt13 (by omega) HS12.out.size
  have HI13 := Lib.hid (HI12.out.btw hbt13 (Nat.le_refl _))
  have HG13 := Lib.hid (HG12.out.btw hbt13 (by omega))
  have HM13 := Lib.hid (markIntS_t _ _ n3 n3 ps q w13 HI13.out hq0 (by omega) h3)
  clear HD12 HI12 HG12 hbt13
  go_wp2_with fail
  refine HM13.out.mono ?_
  rintro e w14 ⟨rfl, _, hg14⟩
  have HG14' : Hid (w13.grownBy w14 (some x2.heap.size)) := hg14
  have HS14 : Hid (Below wS.heap.size wS w14) := bel_grow HS13.out HG14'.out HS13.out.size (by omega)
  have HG14 := Lib.hid (HG13.out.grown HG14'.out (by omega))
  have HE14 := Lib.hid (eqIntS_t _ _ B4 Bs k4 d4 ks ds _ w14 (HG14.out.rI (by omega)) (HW0.out.below HS14.out))
  clear hg14 HI13 HG13
  go_wp2_with fail
  refine HE14.out.mono ?_
  rintro e w15 ⟨rfl, hb15⟩
  have HS15 : Hid (Below wS.heap.size wS w15) := bel_step HS14.out hb15 HS14.out.size
  have HG15 := Lib.hid (HG14.out.below hb15)
  have HM15 := Lib.hid (markIntS_t _ B4 k4 d4 _ 1 w15 HG15.out (by omega) (by omega) (by omega))
  go_wp2_with fail
  refine HM15.out.mono ?_
  rintro e w16 ⟨rfl, ho16, hg16⟩
  have HS16 : Hid (Below wS.heap.size wS w16) := below_own HS15.out HG15.out hg16 (by omega) HS15.out.size
  have HG16 := Lib.hid ho16
  have HH16 := Lib.hid (heldIntS_t _ B4 k4 d4 1 w16 (HG16.out.rI (by omega)) (by omega) (by omega) (by omega))
  clear ho16 hg16 HG14 HG15
  go_wp2_with fail
  refine HH16.out.mono ?_
  rintro e w17 ⟨rfl, hb17⟩
  have HS17 : Hid (Below wS.heap.size wS w17) := bel_step HS16.out hb17 HS16.out.size
  have HG17 := Lib.hid (HG16.out.below hb17)
  have HX17 := Lib.hid (HX0.out.below (bel_nx HBS.out HS17.out))
  go_wp2_with fail
  refine HX17.out.toN.mono ?_
  rintro e r1 ⟨rfl, ro1, rb1⟩
  have rX1 := Lib.hid (HX17.out.below rb1)
  have rO1 := Lib.hid ro1
  clear ro1
  go_wp2_with fail
  refine rX1.out.toD.mono ?_
  rintro e r2 ⟨rfl, ⟨rvs, ro2⟩, rb2⟩
  have rX2 := Lib.hid (rX1.out.below rb2)
  have rO2 := Lib.hid ro2
  clear ro2
  go_wp2_with fail
  refine rX2.out.toI.mono ?_
  rintro e r3 ⟨rfl, ro3, rb3⟩
  have rX3 := Lib.hid (rX2.out.below rb3)
  have rO3 := Lib.hid ro3
  clear ro3
  have rs1 := rb1.size
  have rs2 := rb2.size
  have rs3 := rb3.size
  have HR18 := Lib.hid (RunOrder_own _ _ _ _ _ _ n n n2 n2 n3 n3 t sc ps r3 ((rO1.out.below rb2).below rb3 |>.rN hb) (Nat.le_refl _) ((rO2.out.below rb3).rd hb2 HX0.out.row) (rO3.out.rI h3) rX3.out.tb)
  go_wp2_with fail
  refine HR18.out.mono ?_
  rintro e w18 ⟨v18, rfl, ho18, hb18⟩
  obtain ⟨B18, k18, d18, rfl, hd18, _⟩ := id (ho18.rdn elI.len (by omega))
  have hk18 : k18 ≤ 48 := by have := ho18.lenV; simp only [lenV] at this; omega
  have hgb : Below w17.heap.size w17 w18 := (rb1.trans (rb2.mono rs1)).trans ((rb3.mono (by omega)).trans (hb18.mono (by omega)))
  have HS18 : Hid (Below wS.heap.size wS w18) := bel_step HS17.out hgb HS17.out.size
  have HG18 := Lib.hid (HG17.out.below hgb)
  have HE18 := Lib.hid (eqIntS_t _ _ B18 Bs k18 d18 ks ds _ w18 (ho18.rI (by omega)) (HW0.out.below HS18.out))
  clear ho18 hgb
  go_wp2_with fail
  refine HE18.out.mono ?_
  rintro e w19 ⟨rfl, hb19⟩
  have HS19 : Hid (Below wS.heap.size wS w19) := bel_step HS18.out hb19 HS18.out.size
  have HH19 := Lib.hid (heldIntS_t _ B4 k4 d4 1 w19 ((HG18.out.below hb19).rI (by omega)) (by omega) (by omega) (by omega))
  go_wp2_with fail
  refine HH19.out.mono ?_
  rintro e w20 ⟨rfl, hb20⟩
  have HS20 : Hid (Below wS.heap.size wS w20) := bel_step HS19.out hb20 HS19.out.size
  go_wp2_with fail
  go_ret
  exact ⟨rfl, bel_nx HBS.out HS20.out⟩

set_option maxRecDepth 100000 in
set_option maxHeartbeats 6400000 in
theorem lawExactRunLocks (A A2 A3 : Option Addr) (n c n2 c2 n3 c3 : Nat) (t : List Nd) (rows : List Sl) (ps : List Int) (w : World) (hn : n ≤ 9223372036854775807) (hr : n ≤ 1048576 → Rd cN 3 w 0 A n t) (hm : NmM t)
    (hn2 : n2 ≤ 9223372036854775807) (hr2 : n2 ≤ 1048576 → Rd cV 1 w 0 A2 n2 rows) (hrow : ∀ v ∈ rows, v.n ≤ 9223372036854775807 ∧ v.n ≤ v.c ∧ (v.n ≤ 1048576 → ∃ l, Rd cD 2 w 0 v.a v.n l))
    (hr3 : n3 ≤ 1048576 → Rd cI 1 w 0 A3 n3 ps) (hT : Tb w) :
    Calls Tryd.prog 3 #[.slice A n c, .slice A2 n2 c2, .slice A3 n3 c3] w fun e w' => e = .returned (.bool true) ∧ Below w.heap.size w w' := by
  by_cases h3 : n3 ≤ 1048576
  case neg =>
    have h3' : (1048576 : Int) < (n3 : Int) := by omega
    clear hr hr2 hrow hr3
    go_enter Tryd.func3, Tryd.ntmps3
    go_wp2_with fail
    go_ret
    exact ⟨rfl, Below.refl _ _⟩
  have h3' : (n3 : Int) ≤ 1048576 := by omega
  by_cases hb : n ≤ 1048576
  case neg =>
    have HS := Lib.hid (szNodeS_big A n c 1048576 w (by omega) (by omega) (by omega) hn)
    clear hr hr2 hrow hr3
    go_enter Tryd.func3, Tryd.ntmps3
    go_wp2_with fail
    refine HS.out.mono ?_
    rintro e w1 ⟨rfl, hb1⟩
    go_wp2_with fail
    go_ret
    exact ⟨rfl, hb1⟩
  have hrd := hr hb
  have HS := Lib.hid (szNodeS_t 0 A n c t 1048576 w hrd hm (by omega) (by omega) (by omega))
  have HZN := szF_neg t (1048576 - (n : Int)) (by omega)
  obtain ⟨z, hz⟩ : ∃ z, z = szF t (1048576 - (n : Int)) := ⟨_, rfl⟩
  rw [← hz] at HS HZN
  have HZ := Lib.hid hz
  clear hz hr
  by_cases hneg : z < 0
  · clear hr2 hrow hr3
    go_enter Tryd.func3, Tryd.ntmps3
    go_wp2_with fail
    refine HS.out.mono ?_
    rintro e w1 ⟨rfl, hb1⟩
    go_wp2_with fail
    go_ret
    exact ⟨rfl, hb1⟩
  have hz0 : 0 ≤ z := by omega
  obtain ⟨hz1, hzn⟩ := szF_le t _ (by rw [HZ.out] at hz0; exact hz0)
  rw [← HZ.out] at hz1
  have hz2 : z ≤ 1048576 := by omega
  have HNB : Hid (NmB t) := fun i x hx => by have := hzn x (List.mem_of_getElem? hx); omega
  have HRD := Lib.hid hrd
  clear hzn hrd hneg HZN
  by_cases hneg2 : z < (n2 : Int)
  · clear hr2 hrow hr3
    go_enter Tryd.func3, Tryd.ntmps3
    go_wp2_with fail
    refine HS.out.mono ?_
    rintro e w1 ⟨rfl, hb1⟩
    have HS2 := Lib.hid (szDoSS_big A2 n2 c2 z w1 hz0 hz2 hneg2 hn2)
    go_wp2_with fail
    refine HS2.out.mono ?_
    rintro e w2 ⟨rfl, hb2⟩
    go_wp2_with fail
    go_ret
    exact ⟨rfl, bel_nx hb1 hb2⟩
  have hb2 : n2 ≤ 1048576 := by omega
  have hz2n : (n2 : Int) ≤ z := by omega
  have HRV := Lib.hid (hr2 hb2)
  have HYN := szV_neg rows (z - (n2 : Int)) (by omega)
  obtain ⟨y, hy⟩ : ∃ y, y = szV rows (z - (n2 : Int)) := ⟨_, rfl⟩
  have HY := Lib.hid hy
  rw [← hy] at HYN
  have HROW := Lib.hid hrow
  have HR3 := Lib.hid (hr3 h3)
  have HS2 : Hid (∀ w', Below w.heap.size w w' → Calls Tryd.prog 8 #[.slice A2 n2 c2, .int .i64 z] w' fun e w'' => e = .returned (.int .i64 y) ∧ Below w'.heap.size w' w'') := fun w' hb' => by
    have := szDoSS_t 0 A2 n2 c2 rows z w' (HRV.out.below hb') (fun x hx => (HROW.out x hx).1) hz0 hz2 hz2n
    rw [← HY.out] at this
    exact this
  clear hr2 hrow hr3 hy hneg2
  by_cases hyneg : y < 0
  · go_enter Tryd.func3, Tryd.ntmps3
    go_wp2_with fail
    refine HS.out.mono ?_
    rintro e w1 ⟨rfl, hb1⟩
    go_wp2_with fail
    refine (HS2.out w1 hb1).mono ?_
    rintro e w2 ⟨rfl, hb2⟩
    go_wp2_with fail
    go_ret
    exact ⟨rfl, bel_nx hb1 hb2⟩
  have hy0 : 0 ≤ y := by omega
  obtain ⟨_, hyn⟩ := szV_le rows _ (by rw [HY.out] at hy0; exact hy0)
  obtain ⟨sc, hsc, hscl⟩ := rdd_of (w := w) rows fun v hv => ⟨(HROW.out v hv).2.1, (HROW.out v hv).2.2 (by have := hyn v hv; omega)⟩
  have HX0 : Hid (ExR w A n c t A2 n2 c2 sc A3 n3 c3 ps) := ⟨HRD.out, hb, HNB.out, ⟨rows, HRV.out, hsc⟩, hb2, fun l hl => by obtain ⟨v, hv, e⟩ := hscl l hl; have := hyn v hv; omega, HR3.out, h3, hT⟩
  clear hyn hsc hscl hyneg HYN
  have hnI : (n : Int) ≤ 1048576 := by omega
  have hn2I : (n2 : Int) ≤ 1048576 := by omega
  have hfl : (rlF t sc ps).length ≤ 48 := by have := rlF_len (t := t) (sc := sc) (ps := ps); omega
  go_enter Tryd.func3, Tryd.ntmps3
  go_wp2_with fail
  refine HS.out.mono ?_
  rintro e w1 ⟨rfl, hb1⟩
  go_wp2_with fail
  refine (HS2.out w1 hb1).mono ?_
  rintro e w2 ⟨rfl, hb2'⟩
  have HB2 : Hid (Below w.heap.size w w2) := bel_nx hb1 hb2'
  have HX2 := Lib.hid (HX0.out.below HB2.out)
  clear HS HS2 HRV HROW HR3 HRD hb1 hb2'
  go_wp2_with fail
  refine HX2.out.toN.mono ?_
  rintro e a1 ⟨rfl, ao1, ab1⟩
  have aX1 := Lib.hid (HX2.out.below ab1)
  have aO1 := Lib.hid ao1
  clear ao1
  go_wp2_with fail
  refine aX1.out.toD.mono ?_
  rintro e a2 ⟨rfl, ⟨avs, ao2⟩, ab2⟩
  have aX2 := Lib.hid (aX1.out.below ab2)
  have aO2 := Lib.hid ao2
  clear ao2
  go_wp2_with fail
  refine aX2.out.toI.mono ?_
  rintro e a3 ⟨rfl, ao3, ab3⟩
  have aX3 := Lib.hid (aX2.out.below ab3)
  have aO3 := Lib.hid ao3
  clear ao3
  have as1 := ab1.size
  have as2 := ab2.size
  have as3 := ab3.size
  have HSP := Lib.hid (RunLocksS_any _ _ _ _ _ _ n n n2 n2 n3 n3 t sc ps a3 ((aO1.out.below ab2).below ab3 |>.rN hb) (Nat.le_refl _) HX2.out.nm ((aO2.out.below ab3).rd hb2 HX2.out.row) (aO3.out.rI h3))
  go_wp2_with fail
  refine HSP.out.mono ?_
  rintro e wS ⟨Bs, ks, ds, rfl, hds, hrs, hbS⟩
  have HB3 : Hid (Below w.heap.size w a3) := bel_nx (bel_nx (bel_nx HB2.out ab1) ab2) ab3
  have HBS : Hid (Below w.heap.size w wS) := bel_nx HB3.out hbS
  have HW0 := Lib.hid (hrs.low (Nat.zero_le _))
  have hks : ks ≤ 48 := by have := hrs.len; omega
  have HXS := Lib.hid (aX3.out.below hbS)
  clear hrs HSP aO1 aO2 aO3 aX1 aX2 aX3 ab1 ab2 ab3 as1 as2 as3 hbS
  go_wp2_with fail
  refine HXS.out.toN.mono ?_
  rintro e x1 ⟨rfl, xo1, xb1⟩
  have xX1 := Lib.hid (HXS.out.below xb1)
  have xO1 := Lib.hid xo1
  clear xo1
  go_wp2_with fail
  refine xX1.out.toD.mono ?_
  rintro e x2 ⟨rfl, ⟨xvs, xo2⟩, xb2⟩
  have xX2 := Lib.hid (xX1.out.below xb2)
  have xO2 := Lib.hid xo2
  clear xo2
  go_wp2_with fail
  refine xX2.out.toI.mono ?_
  rintro e x3 ⟨rfl, xo3, xb3⟩
  have xX3 := Lib.hid (xX2.out.below xb3)
  have xO3 := Lib.hid xo3
  clear xo3
  have xs1 := xb1.size
  have xs2 := xb2.size
  have xs3 := xb3.size
  have HG := Lib.hid (RunLocks_own _ _ _ _ _ _ n n n2 n2 n3 n3 t sc ps x3 ((xO1.out.below xb2).below xb3 |>.rN hb) (Nat.le_refl _) ((xO2.out.below xb3).rd hb2 HX2.out.row) (xO3.out.rI h3) xX3.out.tb)
  have HX3b : Hid (Below wS.heap.size wS x3) := (xb1.trans (xb2.mono xs1)).trans (xb3.mono (by omega))
  have HN3 := Lib.hid ((xO1.out.below xb2).below xb3)
  have HD3 := Lib.hid (xO2.out.below xb3)
  have HDB := Lib.hid xO2.out.blk
  have hx3s : wS.heap.size ≤ x3.heap.size := by omega
  have HLT1 : Hid (wS.heap.size < x1.heap.size) := by obtain ⟨_, h⟩ := own_blk xO1.out; exact blk_lt h
  have HLT2 : Hid (x1.heap.size < x2.heap.size) := by obtain ⟨_, h⟩ := own_blk xO2.out.out; exact blk_lt h
  have HLT3 : Hid (x2.heap.size < x3.heap.size) := by obtain ⟨_, h⟩ := own_blk xO3.out; exact blk_lt h
  go_wp2_with fail
  refine HG.out.mono ?_
  rintro e w4 ⟨v4, rfl, ho4, hb4⟩
  obtain ⟨B4, k4, d4, rfl, hd4, _⟩ := id (ho4.rdn elL.len (by omega))
  have hk4 : k4 ≤ 48 := by have := ho4.lenV; simp only [lenV] at this; omega
  have hs4 := hb4.size
  have HS4 : Hid (Below wS.heap.size wS w4) := HX3b.out.trans (hb4.mono hx3s)
  have HN4 := Lib.hid (HN3.out.below hb4)
  have HD4 := Lib.hid (HD3.out.below hb4)
  have HI4 := Lib.hid (xO3.out.below hb4)
  have HG4 := Lib.hid ho4
  have HB4 : Hid (Below w.heap.size w w4) := bel_nx HBS.out HS4.out
  have HX4 := Lib.hid (HX0.out.below HB4.out)
  clear ho4
  clear HN3 HD3 xO1 xO2 xO3 xX1 xX2 xX3 HG
  have hl1 : wS.heap.size < x1.heap.size := HLT1.out
  have hl2 : x1.heap.size < x2.heap.size := HLT2.out
  have hl3 : x2.heap.size < x3.heap.size := HLT3.out
  have HE4 := Lib.hid (eqLockS_t _ _ B4 Bs k4 d4 ks ds _ w4 (HG4.out.rL (by omega)) (HW0.out.below HS4.out))
  go_wp2_with fail
  refine HE4.out.mono ?_
  rintro e w5 ⟨rfl, hb5⟩
  have HN5 := Lib.hid (HN4.out.below hb5)
  have HD5 := Lib.hid (HD4.out.below hb5)
  have HI5 := Lib.hid (HI4.out.below hb5)
  have HG5 := Lib.hid (HG4.out.below hb5)
  have HS5 : Hid (Below wS.heap.size wS w5) := bel_step HS4.out hb5 HS4.out.size
  clear HN4 HD4 HI4 HG4
  have HX5 := Lib.hid (HX0.out.below (bel_nx HBS.out HS5.out))
  go_wp2_with fail
  refine HX5.out.toN.mono ?_
  rintro e w6 ⟨rfl, o6, hb6⟩
  have HN6 := Lib.hid (HN5.out.below hb6)
  have HD6 := Lib.hid (HD5.out.below hb6)
  have HI6 := Lib.hid (HI5.out.below hb6)
  have HG6 := Lib.hid (HG5.out.below hb6)
  have HS6 : Hid (Below wS.heap.size wS w6) := bel_step HS5.out hb6 HS5.out.size
  clear HN5 HD5 HI5 HG5
  have HE6 := Lib.hid (eqNodeS_t _ _ _ _ n n n n t w6 (HN6.out.rN hb) (o6.rN hb))
  clear o6 HX5
  go_wp2_with fail
  refine HE6.out.mono ?_
  rintro e w7 ⟨rfl, hb7⟩
  have HN7 := Lib.hid (HN6.out.below hb7)
  have HD7 := Lib.hid (HD6.out.below hb7)
  have HI7 := Lib.hid (HI6.out.below hb7)
  have HG7 := Lib.hid (HG6.out.below hb7)
  have HS7 : Hid (Below wS.heap.size wS w7) := bel_step HS6.out hb7 HS6.out.size
  clear HN6 HD6 HI6 HG6
  have HX7 := Lib.hid (HX0.out.below (bel_nx HBS.out HS7.out))
  go_wp2_with fail
  refine HX7.out.toD.mono ?_
  rintro e w8 ⟨rfl, ⟨vs8, o8⟩, hb8⟩
  have HN8 := Lib.hid (HN7.out.below hb8)
  have HD8 := Lib.hid (HD7.out.below hb8)
  have HI8 := Lib.hid (HI7.out.below hb8)
  have HG8 := Lib.hid (HG7.out.below hb8)
  have HS8 : Hid (Below wS.heap.size wS w8) := bel_step HS7.out hb8 HS7.out.size
  clear HN7 HD7 HI7 HG7
  have HE8 := Lib.hid (eqDoSS_t _ _ _ _ n2 n2 n2 n2 sc w8 (HD8.out.rd hb2 HX0.out.row) (o8.rd hb2 HX0.out.row))
  clear o8 HX7
  go_wp2_with fail
  refine HE8.out.mono ?_
  rintro e w9 ⟨rfl, hb9⟩
  have HN9 := Lib.hid (HN8.out.below hb9)
  have HD9 := Lib.hid (HD8.out.below hb9)
  have HI9 := Lib.hid (HI8.out.below hb9)
  have HG9 := Lib.hid (HG8.out.below hb9)
  have HS9 : Hid (Below wS.heap.size wS w9) := bel_step HS8.out hb9 HS8.out.size
  clear HN8 HD8 HI8 HG8
  have HX9 := Lib.hid (HX0.out.below (bel_nx HBS.out HS9.out))
  go_wp2_with fail
  refine HX9.out.toI.mono ?_
  rintro e w10 ⟨rfl, o10, hb10⟩
  have HN10 := Lib.hid (HN9.out.below hb10)
  have HD10 := Lib.hid (HD9.out.below hb10)
  have HI10 := Lib.hid (HI9.out.below hb10)
  have HG10 := Lib.hid (HG9.out.below hb10)
  have HS10 : Hid (Below wS.heap.size wS w10) := bel_step HS9.out hb10 HS9.out.size
  clear HN9 HD9 HI9 HG9
  have HE10 := Lib.hid (eqIntS_t _ _ _ _ n3 n3 n3 n3 ps w10 (HI10.out.rI h3) (o10.rI h3))
  clear o10 HX9
  go_wp2_with fail
  refine HE10.out.mono ?_
  rintro e w11 ⟨rfl, hb11⟩
  have HN11 := Lib.hid (HN10.out.below hb11)
  have HD11 := Lib.hid (HD10.out.below hb11)
  have HI11 := Lib.hid (HI10.out.below hb11)
  have HG11 := Lib.hid (HG10.out.below hb11)
  have HS11 : Hid (Below wS.heap.size wS w11) := bel_step HS10.out hb11 HS10.out.size
  clear HN10 HD10 HI10 HG10
  have HM11 := Lib.hid (markNodeS_t _ _ n n t 1 w11 HN11.out (by omega) (by omega) hb)
  go_wp2_with fail
  refine HM11.out.mono ?_
  rintro e w12 ⟨rfl, hg12⟩
  have HG12' : Hid (w11.grownBy w12 (some wS.heap.size)) := hg12
  have HS12 : Hid (Below wS.heap.size wS w12) := bel_grow HS11.out HG12'.out HS11.out.size (Nat.le_refl _)
  have HD12 := Lib.hid (HD11.out.grown HG12'.out hl1)
  have HI12 := Lib.hid (HI11.out.grown HG12'.out (by omega))
  have HG12 := Lib.hid (HG11.out.grown HG12'.out (by omega))
  have HM12 := Lib.hid (markDoSS_t _ x2.heap.size _ n2 n2 xvs sc (1 + 3 * (n : Int)) w12 HD12.out HX0.out.row HDB.out (by omega) (by omega) hb2)
  clear hg12 HN11 HD11 HI11 HG11
  go_wp2_with fail
  refine HM12.out.mono ?_
  rintro e w13 ⟨⟨q, rfl, hq0, hq1⟩, hbt13⟩
  have HS13 : Hid (Below wS.heap.size wS w13) := Below.btw HS12.out hbt13 (by omega) HS12.out.size
  have HI13 := Lib.hid (HI12.out.btw hbt13 (Nat.le_refl _))
  have HG13 := Lib.hid (HG12.out.btw hbt13 (by omega))
  have HM13 := Lib.hid (markIntS_t _ _ n3 n3 ps q w13 HI13.out hq0 (by omega) h3)
  clear HD12 HI12 HG12 hbt13
  go_wp2_with fail
  refine HM13.out.mono ?_
  rintro e w14 ⟨rfl, _, hg14⟩
  have HG14' : Hid (w13.grownBy w14 (some x2.heap.size)) := hg14
  have HS14 : Hid (Below wS.heap.size wS w14) := bel_grow HS13.out HG14'.out HS13.out.size (by omega)
  have HG14 := Lib.hid (HG13.out.grown HG14'.out (by omega))
  have HE14 := Lib.hid (eqLockS_t _ _ B4 Bs k4 d4 ks ds _ w14 (HG14.out.rL (by omega)) (HW0.out.below HS14.out))
  clear hg14 HI13 HG13
  go_wp2_with fail
  refine HE14.out.mono ?_
  rintro e w15 ⟨rfl, hb15⟩
  have HS15 : Hid (Below wS.heap.size wS w15) := bel_step HS14.out hb15 HS14.out.size
  have HG15 := Lib.hid (HG14.out.below hb15)
  have HM15 := Lib.hid (markLockS_t _ B4 k4 d4 _ 1 w15 HG15.out (by omega) (by omega) (by omega))
  go_wp2_with fail
  refine HM15.out.mono ?_
  rintro e w16 ⟨rfl, ho16, hg16⟩
  have HS16 : Hid (Below wS.heap.size wS w16) := below_own HS15.out HG15.out hg16 (by omega) HS15.out.size
  have HG16 := Lib.hid ho16
  have HH16 := Lib.hid (heldLockS_t _ B4 k4 d4 1 w16 (HG16.out.rL (by omega)) (by omega) (by omega) (by omega))
  clear ho16 hg16 HG14 HG15
  go_wp2_with fail
  refine HH16.out.mono ?_
  rintro e w17 ⟨rfl, hb17⟩
  have HS17 : Hid (Below wS.heap.size wS w17) := bel_step HS16.out hb17 HS16.out.size
  have HG17 := Lib.hid (HG16.out.below hb17)
  have HX17 := Lib.hid (HX0.out.below (bel_nx HBS.out HS17.out))
  go_wp2_with fail
  refine HX17.out.toN.mono ?_
  rintro e r1 ⟨rfl, ro1, rb1⟩
  have rX1 := Lib.hid (HX17.out.below rb1)
  have rO1 := Lib.hid ro1
  clear ro1
  go_wp2_with fail
  refine rX1.out.toD.mono ?_
  rintro e r2 ⟨rfl, ⟨rvs, ro2⟩, rb2⟩
  have rX2 := Lib.hid (rX1.out.below rb2)
  have rO2 := Lib.hid ro2
  clear ro2
  go_wp2_with fail
  refine rX2.out.toI.mono ?_
  rintro e r3 ⟨rfl, ro3, rb3⟩
  have rX3 := Lib.hid (rX2.out.below rb3)
  have rO3 := Lib.hid ro3
  clear ro3
  have rs1 := rb1.size
  have rs2 := rb2.size
  have rs3 := rb3.size
  have HR18 := Lib.hid (RunLocks_own _ _ _ _ _ _ n n n2 n2 n3 n3 t sc ps r3 ((rO1.out.below rb2).below rb3 |>.rN hb) (Nat.le_refl _) ((rO2.out.below rb3).rd hb2 HX0.out.row) (rO3.out.rI h3) rX3.out.tb)
  go_wp2_with fail
  refine HR18.out.mono ?_
  rintro e w18 ⟨v18, rfl, ho18, hb18⟩
  obtain ⟨B18, k18, d18, rfl, hd18, _⟩ := id (ho18.rdn elL.len (by omega))
  have hk18 : k18 ≤ 48 := by have := ho18.lenV; simp only [lenV] at this; omega
  have hgb : Below w17.heap.size w17 w18 := (rb1.trans (rb2.mono rs1)).trans ((rb3.mono (by omega)).trans (hb18.mono (by omega)))
  have HS18 : Hid (Below wS.heap.size wS w18) := bel_step HS17.out hgb HS17.out.size
  have HG18 := Lib.hid (HG17.out.below hgb)
  have HE18 := Lib.hid (eqLockS_t _ _ B18 Bs k18 d18 ks ds _ w18 (ho18.rL (by omega)) (HW0.out.below HS18.out))
  clear ho18 hgb
  go_wp2_with fail
  refine HE18.out.mono ?_
  rintro e w19 ⟨rfl, hb19⟩
  have HS19 : Hid (Below wS.heap.size wS w19) := bel_step HS18.out hb19 HS18.out.size
  have HH19 := Lib.hid (heldLockS_t _ B4 k4 d4 1 w19 ((HG18.out.below hb19).rL (by omega)) (by omega) (by omega) (by omega))
  go_wp2_with fail
  refine HH19.out.mono ?_
  rintro e w20 ⟨rfl, hb20⟩
  have HS20 : Hid (Below wS.heap.size wS w20) := bel_step HS19.out hb20 HS19.out.size
  go_wp2_with fail
  go_ret
  exact ⟨rfl, bel_nx HBS.out HS20.out⟩

set_option maxRecDepth 100000 in
set_option maxHeartbeats 6400000 in
theorem lawExactRunWaits (A A2 A3 : Option Addr) (n c n2 c2 n3 c3 : Nat) (t : List Nd) (rows : List Sl) (ps : List Int) (w : World) (hn : n ≤ 9223372036854775807) (hr : n ≤ 1048576 → Rd cN 3 w 0 A n t) (hm : NmM t)
    (hn2 : n2 ≤ 9223372036854775807) (hr2 : n2 ≤ 1048576 → Rd cV 1 w 0 A2 n2 rows) (hrow : ∀ v ∈ rows, v.n ≤ 9223372036854775807 ∧ v.n ≤ v.c ∧ (v.n ≤ 1048576 → ∃ l, Rd cD 2 w 0 v.a v.n l))
    (hr3 : n3 ≤ 1048576 → Rd cI 1 w 0 A3 n3 ps) (hT : Tb w) :
    Calls Tryd.prog 4 #[.slice A n c, .slice A2 n2 c2, .slice A3 n3 c3] w fun e w' => e = .returned (.bool true) ∧ Below w.heap.size w w' := by
  by_cases h3 : n3 ≤ 1048576
  case neg =>
    have h3' : (1048576 : Int) < (n3 : Int) := by omega
    clear hr hr2 hrow hr3
    go_enter Tryd.func4, Tryd.ntmps4
    go_wp2_with fail
    go_ret
    exact ⟨rfl, Below.refl _ _⟩
  have h3' : (n3 : Int) ≤ 1048576 := by omega
  by_cases hb : n ≤ 1048576
  case neg =>
    have HS := Lib.hid (szNodeS_big A n c 1048576 w (by omega) (by omega) (by omega) hn)
    clear hr hr2 hrow hr3
    go_enter Tryd.func4, Tryd.ntmps4
    go_wp2_with fail
    refine HS.out.mono ?_
    rintro e w1 ⟨rfl, hb1⟩
    go_wp2_with fail
    go_ret
    exact ⟨rfl, hb1⟩
  have hrd := hr hb
  have HS := Lib.hid (szNodeS_t 0 A n c t 1048576 w hrd hm (by omega) (by omega) (by omega))
  have HZN := szF_neg t (1048576 - (n : Int)) (by omega)
  obtain ⟨z, hz⟩ : ∃ z, z = szF t (1048576 - (n : Int)) := ⟨_, rfl⟩
  rw [← hz] at HS HZN
  have HZ := Lib.hid hz
  clear hz hr
  by_cases hneg : z < 0
  · clear hr2 hrow hr3
    go_enter Tryd.func4, Tryd.ntmps4
    go_wp2_with fail
    refine HS.out.mono ?_
    rintro e w1 ⟨rfl, hb1⟩
    go_wp2_with fail
    go_ret
    exact ⟨rfl, hb1⟩
  have hz0 : 0 ≤ z := by omega
  obtain ⟨hz1, hzn⟩ := szF_le t _ (by rw [HZ.out] at hz0; exact hz0)
  rw [← HZ.out] at hz1
  have hz2 : z ≤ 1048576 := by omega
  have HNB : Hid (NmB t) := fun i x hx => by have := hzn x (List.mem_of_getElem? hx); omega
  have HRD := Lib.hid hrd
  clear hzn hrd hneg HZN
  by_cases hneg2 : z < (n2 : Int)
  · clear hr2 hrow hr3
    go_enter Tryd.func4, Tryd.ntmps4
    go_wp2_with fail
    refine HS.out.mono ?_
    rintro e w1 ⟨rfl, hb1⟩
    have HS2 := Lib.hid (szDoSS_big A2 n2 c2 z w1 hz0 hz2 hneg2 hn2)
    go_wp2_with fail
    refine HS2.out.mono ?_
    rintro e w2 ⟨rfl, hb2⟩
    go_wp2_with fail
    go_ret
    exact ⟨rfl, bel_nx hb1 hb2⟩
  have hb2 : n2 ≤ 1048576 := by omega
  have hz2n : (n2 : Int) ≤ z := by omega
  have HRV := Lib.hid (hr2 hb2)
  have HYN := szV_neg rows (z - (n2 : Int)) (by omega)
  obtain ⟨y, hy⟩ : ∃ y, y = szV rows (z - (n2 : Int)) := ⟨_, rfl⟩
  have HY := Lib.hid hy
  rw [← hy] at HYN
  have HROW := Lib.hid hrow
  have HR3 := Lib.hid (hr3 h3)
  have HS2 : Hid (∀ w', Below w.heap.size w w' → Calls Tryd.prog 8 #[.slice A2 n2 c2, .int .i64 z] w' fun e w'' => e = .returned (.int .i64 y) ∧ Below w'.heap.size w' w'') := fun w' hb' => by
    have := szDoSS_t 0 A2 n2 c2 rows z w' (HRV.out.below hb') (fun x hx => (HROW.out x hx).1) hz0 hz2 hz2n
    rw [← HY.out] at this
    exact this
  clear hr2 hrow hr3 hy hneg2
  by_cases hyneg : y < 0
  · go_enter Tryd.func4, Tryd.ntmps4
    go_wp2_with fail
    refine HS.out.mono ?_
    rintro e w1 ⟨rfl, hb1⟩
    go_wp2_with fail
    refine (HS2.out w1 hb1).mono ?_
    rintro e w2 ⟨rfl, hb2⟩
    go_wp2_with fail
    go_ret
    exact ⟨rfl, bel_nx hb1 hb2⟩
  have hy0 : 0 ≤ y := by omega
  obtain ⟨_, hyn⟩ := szV_le rows _ (by rw [HY.out] at hy0; exact hy0)
  obtain ⟨sc, hsc, hscl⟩ := rdd_of (w := w) rows fun v hv => ⟨(HROW.out v hv).2.1, (HROW.out v hv).2.2 (by have := hyn v hv; omega)⟩
  have HX0 : Hid (ExR w A n c t A2 n2 c2 sc A3 n3 c3 ps) := ⟨HRD.out, hb, HNB.out, ⟨rows, HRV.out, hsc⟩, hb2, fun l hl => by obtain ⟨v, hv, e⟩ := hscl l hl; have := hyn v hv; omega, HR3.out, h3, hT⟩
  clear hyn hsc hscl hyneg HYN
  have hnI : (n : Int) ≤ 1048576 := by omega
  have hn2I : (n2 : Int) ≤ 1048576 := by omega
  have hfl : (rwF t sc ps).length ≤ 48 := by have := rwF_len (t := t) (sc := sc) (ps := ps); omega
  go_enter Tryd.func4, Tryd.ntmps4
  go_wp2_with fail
  refine HS.out.mono ?_
  rintro e w1 ⟨rfl, hb1⟩
  go_wp2_with fail
  refine (HS2.out w1 hb1).mono ?_
  rintro e w2 ⟨rfl, hb2'⟩
  have HB2 : Hid (Below w.heap.size w w2) := bel_nx hb1 hb2'
  have HX2 := Lib.hid (HX0.out.below HB2.out)
  clear HS HS2 HRV HROW HR3 HRD hb1 hb2'
  go_wp2_with fail
  refine HX2.out.toN.mono ?_
  rintro e a1 ⟨rfl, ao1, ab1⟩
  have aX1 := Lib.hid (HX2.out.below ab1)
  have aO1 := Lib.hid ao1
  clear ao1
  go_wp2_with fail
  refine aX1.out.toD.mono ?_
  rintro e a2 ⟨rfl, ⟨avs, ao2⟩, ab2⟩
  have aX2 := Lib.hid (aX1.out.below ab2)
  have aO2 := Lib.hid ao2
  clear ao2
  go_wp2_with fail
  refine aX2.out.toI.mono ?_
  rintro e a3 ⟨rfl, ao3, ab3⟩
  have aX3 := Lib.hid (aX2.out.below ab3)
  have aO3 := Lib.hid ao3
  clear ao3
  have as1 := ab1.size
  have as2 := ab2.size
  have as3 := ab3.size
  have HSP := Lib.hid (RunWaitsS_any _ _ _ _ _ _ n n n2 n2 n3 n3 t sc ps a3 ((aO1.out.below ab2).below ab3 |>.rN hb) (Nat.le_refl _) HX2.out.nm ((aO2.out.below ab3).rd hb2 HX2.out.row) (aO3.out.rI h3))
  go_wp2_with fail
  refine HSP.out.mono ?_
  rintro e wS ⟨Bs, ks, ds, rfl, hds, hrs, hbS⟩
  have HB3 : Hid (Below w.heap.size w a3) := bel_nx (bel_nx (bel_nx HB2.out ab1) ab2) ab3
  have HBS : Hid (Below w.heap.size w wS) := bel_nx HB3.out hbS
  have HW0 := Lib.hid (hrs.low (Nat.zero_le _))
  have hks : ks ≤ 48 := by have := hrs.len; omega
  have HXS := Lib.hid (aX3.out.below hbS)
  clear hrs HSP aO1 aO2 aO3 aX1 aX2 aX3 ab1 ab2 ab3 as1 as2 as3 hbS
  go_wp2_with fail
  refine HXS.out.toN.mono ?_
  rintro e x1 ⟨rfl, xo1, xb1⟩
  have xX1 := Lib.hid (HXS.out.below xb1)
  have xO1 := Lib.hid xo1
  clear xo1
  go_wp2_with fail
  refine xX1.out.toD.mono ?_
  rintro e x2 ⟨rfl, ⟨xvs, xo2⟩, xb2⟩
  have xX2 := Lib.hid (xX1.out.below xb2)
  have xO2 := Lib.hid xo2
  clear xo2
  go_wp2_with fail
  refine xX2.out.toI.mono ?_
  rintro e x3 ⟨rfl, xo3, xb3⟩
  have xX3 := Lib.hid (xX2.out.below xb3)
  have xO3 := Lib.hid xo3
  clear xo3
  have xs1 := xb1.size
  have xs2 := xb2.size
  have xs3 := xb3.size
  have HG := Lib.hid (RunWaits_own _ _ _ _ _ _ n n n2 n2 n3 n3 t sc ps x3 ((xO1.out.below xb2).below xb3 |>.rN hb) (Nat.le_refl _) ((xO2.out.below xb3).rd hb2 HX2.out.row) (xO3.out.rI h3) xX3.out.tb)
  have HX3b : Hid (Below wS.heap.size wS x3) := (xb1.trans (xb2.mono xs1)).trans (xb3.mono (by omega))
  have HN3 := Lib.hid ((xO1.out.below xb2).below xb3)
  have HD3 := Lib.hid (xO2.out.below xb3)
  have HDB := Lib.hid xO2.out.blk
  have hx3s : wS.heap.size ≤ x3.heap.size := by omega
  have HLT1 : Hid (wS.heap.size < x1.heap.size) := by obtain ⟨_, h⟩ := own_blk xO1.out; exact blk_lt h
  have HLT2 : Hid (x1.heap.size < x2.heap.size) := by obtain ⟨_, h⟩ := own_blk xO2.out.out; exact blk_lt h
  have HLT3 : Hid (x2.heap.size < x3.heap.size) := by obtain ⟨_, h⟩ := own_blk xO3.out; exact blk_lt h
  go_wp2_with fail
  refine HG.out.mono ?_
  rintro e w4 ⟨v4, rfl, ho4, hb4⟩
  obtain ⟨B4, k4, d4, rfl, hd4, _⟩ := id (ho4.rdn elW2.len (by omega))
  have hk4 : k4 ≤ 48 := by have := ho4.lenV; simp only [lenV] at this; omega
  have hs4 := hb4.size
  have HS4 : Hid (Below wS.heap.size wS w4) := HX3b.out.trans (hb4.mono hx3s)
  have HN4 := Lib.hid (HN3.out.below hb4)
  have HD4 := Lib.hid (HD3.out.below hb4)
  have HI4 := Lib.hid (xO3.out.below hb4)
  have HG4 := Lib.hid ho4
  have HB4 : Hid (Below w.heap.size w w4) := bel_nx HBS.out HS4.out
  have HX4 := Lib.hid (HX0.out.below HB4.out)
  clear ho4
  clear HN3 HD3 xO1 xO2 xO3 xX1 xX2 xX3 HG
  have hl1 : wS.heap.size < x1.heap.size := HLT1.out
  have hl2 : x1.heap.size < x2.heap.size := HLT2.out
  have hl3 : x2.heap.size < x3.heap.size := HLT3.out
  have HE4 := Lib.hid (eqWaitS_t _ _ B4 Bs k4 d4 ks ds _ w4 (HG4.out.rW (by omega)) (HW0.out.below HS4.out))
  go_wp2_with fail
  refine HE4.out.mono ?_
  rintro e w5 ⟨rfl, hb5⟩
  have HN5 := Lib.hid (HN4.out.below hb5)
  have HD5 := Lib.hid (HD4.out.below hb5)
  have HI5 := Lib.hid (HI4.out.below hb5)
  have HG5 := Lib.hid (HG4.out.below hb5)
  have HS5 : Hid (Below wS.heap.size wS w5) := bel_step HS4.out hb5 HS4.out.size
  clear HN4 HD4 HI4 HG4
  have HX5 := Lib.hid (HX0.out.below (bel_nx HBS.out HS5.out))
  go_wp2_with fail
  refine HX5.out.toN.mono ?_
  rintro e w6 ⟨rfl, o6, hb6⟩
  have HN6 := Lib.hid (HN5.out.below hb6)
  have HD6 := Lib.hid (HD5.out.below hb6)
  have HI6 := Lib.hid (HI5.out.below hb6)
  have HG6 := Lib.hid (HG5.out.below hb6)
  have HS6 : Hid (Below wS.heap.size wS w6) := bel_step HS5.out hb6 HS5.out.size
  clear HN5 HD5 HI5 HG5
  have HE6 := Lib.hid (eqNodeS_t _ _ _ _ n n n n t w6 (HN6.out.rN hb) (o6.rN hb))
  clear o6 HX5
  go_wp2_with fail
  refine HE6.out.mono ?_
  rintro e w7 ⟨rfl, hb7⟩
  have HN7 := Lib.hid (HN6.out.below hb7)
  have HD7 := Lib.hid (HD6.out.below hb7)
  have HI7 := Lib.hid (HI6.out.below hb7)
  have HG7 := Lib.hid (HG6.out.below hb7)
  have HS7 : Hid (Below wS.heap.size wS w7) := bel_step HS6.out hb7 HS6.out.size
  clear HN6 HD6 HI6 HG6
  have HX7 := Lib.hid (HX0.out.below (bel_nx HBS.out HS7.out))
  go_wp2_with fail
  refine HX7.out.toD.mono ?_
  rintro e w8 ⟨rfl, ⟨vs8, o8⟩, hb8⟩
  have HN8 := Lib.hid (HN7.out.below hb8)
  have HD8 := Lib.hid (HD7.out.below hb8)
  have HI8 := Lib.hid (HI7.out.below hb8)
  have HG8 := Lib.hid (HG7.out.below hb8)
  have HS8 : Hid (Below wS.heap.size wS w8) := bel_step HS7.out hb8 HS7.out.size
  clear HN7 HD7 HI7 HG7
  have HE8 := Lib.hid (eqDoSS_t _ _ _ _ n2 n2 n2 n2 sc w8 (HD8.out.rd hb2 HX0.out.row) (o8.rd hb2 HX0.out.row))
  clear o8 HX7
  go_wp2_with fail
  refine HE8.out.mono ?_
  rintro e w9 ⟨rfl, hb9⟩
  have HN9 := Lib.hid (HN8.out.below hb9)
  have HD9 := Lib.hid (HD8.out.below hb9)
  have HI9 := Lib.hid (HI8.out.below hb9)
  have HG9 := Lib.hid (HG8.out.below hb9)
  have HS9 : Hid (Below wS.heap.size wS w9) := bel_step HS8.out hb9 HS8.out.size
  clear HN8 HD8 HI8 HG8
  have HX9 := Lib.hid (HX0.out.below (bel_nx HBS.out HS9.out))
  go_wp2_with fail
  refine HX9.out.toI.mono ?_
  rintro e w10 ⟨rfl, o10, hb10⟩
  have HN10 := Lib.hid (HN9.out.below hb10)
  have HD10 := Lib.hid (HD9.out.below hb10)
  have HI10 := Lib.hid (HI9.out.below hb10)
  have HG10 := Lib.hid (HG9.out.below hb10)
  have HS10 : Hid (Below wS.heap.size wS w10) := bel_step HS9.out hb10 HS9.out.size
  clear HN9 HD9 HI9 HG9
  have HE10 := Lib.hid (eqIntS_t _ _ _ _ n3 n3 n3 n3 ps w10 (HI10.out.rI h3) (o10.rI h3))
  clear o10 HX9
  go_wp2_with fail
  refine HE10.out.mono ?_
  rintro e w11 ⟨rfl, hb11⟩
  have HN11 := Lib.hid (HN10.out.below hb11)
  have HD11 := Lib.hid (HD10.out.below hb11)
  have HI11 := Lib.hid (HI10.out.below hb11)
  have HG11 := Lib.hid (HG10.out.below hb11)
  have HS11 : Hid (Below wS.heap.size wS w11) := bel_step HS10.out hb11 HS10.out.size
  clear HN10 HD10 HI10 HG10
  have HM11 := Lib.hid (markNodeS_t _ _ n n t 1 w11 HN11.out (by omega) (by omega) hb)
  go_wp2_with fail
  refine HM11.out.mono ?_
  rintro e w12 ⟨rfl, hg12⟩
  have HG12' : Hid (w11.grownBy w12 (some wS.heap.size)) := hg12
  have HS12 : Hid (Below wS.heap.size wS w12) := bel_grow HS11.out HG12'.out HS11.out.size (Nat.le_refl _)
  have HD12 := Lib.hid (HD11.out.grown HG12'.out hl1)
  have HI12 := Lib.hid (HI11.out.grown HG12'.out (by omega))
  have HG12 := Lib.hid (HG11.out.grown HG12'.out (by omega))
  have HM12 := Lib.hid (markDoSS_t _ x2.heap.size _ n2 n2 xvs sc (1 + 3 * (n : Int)) w12 HD12.out HX0.out.row HDB.out (by omega) (by omega) hb2)
  clear hg12 HN11 HD11 HI11 HG11
  go_wp2_with fail
  refine HM12.out.mono ?_
  rintro e w13 ⟨⟨q, rfl, hq0, hq1⟩, hbt13⟩
  have HS13 : Hid (Below wS.heap.size wS w13) := Below.btw HS12.out hbt13 (by omega) HS12.out.size
  have HI13 := Lib.hid (HI12.out.btw hbt13 (Nat.le_refl _))
  have HG13 := Lib.hid (HG12.out.btw hbt13 (by omega))
  have HM13 := Lib.hid (markIntS_t _ _ n3 n3 ps q w13 HI13.out hq0 (by omega) h3)
  clear HD12 HI12 HG12 hbt13
  go_wp2_with fail
  refine HM13.out.mono ?_
  rintro e w14 ⟨rfl, _, hg14⟩
  have HG14' : Hid (w13.grownBy w14 (some x2.heap.size)) := hg14
  have HS14 : Hid (Below wS.heap.size wS w14) := bel_grow HS13.out HG14'.out HS13.out.size (by omega)
  have HG14 := Lib.hid (HG13.out.grown HG14'.out (by omega))
  have HE14 := Lib.hid (eqWaitS_t _ _ B4 Bs k4 d4 ks ds _ w14 (HG14.out.rW (by omega)) (HW0.out.below HS14.out))
  clear hg14 HI13 HG13
  go_wp2_with fail
  refine HE14.out.mono ?_
  rintro e w15 ⟨rfl, hb15⟩
  have HS15 : Hid (Below wS.heap.size wS w15) := bel_step HS14.out hb15 HS14.out.size
  have HG15 := Lib.hid (HG14.out.below hb15)
  have HM15 := Lib.hid (markWaitS_t _ B4 k4 d4 _ 1 w15 HG15.out (by omega) (by omega) (by omega))
  go_wp2_with fail
  refine HM15.out.mono ?_
  rintro e w16 ⟨rfl, ho16, hg16⟩
  have HS16 : Hid (Below wS.heap.size wS w16) := below_own HS15.out HG15.out hg16 (by omega) HS15.out.size
  have HG16 := Lib.hid ho16
  have HH16 := Lib.hid (heldWaitS_t _ B4 k4 d4 1 w16 (HG16.out.rW (by omega)) (by omega) (by omega) (by omega))
  clear ho16 hg16 HG14 HG15
  go_wp2_with fail
  refine HH16.out.mono ?_
  rintro e w17 ⟨rfl, hb17⟩
  have HS17 : Hid (Below wS.heap.size wS w17) := bel_step HS16.out hb17 HS16.out.size
  have HG17 := Lib.hid (HG16.out.below hb17)
  have HX17 := Lib.hid (HX0.out.below (bel_nx HBS.out HS17.out))
  go_wp2_with fail
  refine HX17.out.toN.mono ?_
  rintro e r1 ⟨rfl, ro1, rb1⟩
  have rX1 := Lib.hid (HX17.out.below rb1)
  have rO1 := Lib.hid ro1
  clear ro1
  go_wp2_with fail
  refine rX1.out.toD.mono ?_
  rintro e r2 ⟨rfl, ⟨rvs, ro2⟩, rb2⟩
  have rX2 := Lib.hid (rX1.out.below rb2)
  have rO2 := Lib.hid ro2
  clear ro2
  go_wp2_with fail
  refine rX2.out.toI.mono ?_
  rintro e r3 ⟨rfl, ro3, rb3⟩
  have rX3 := Lib.hid (rX2.out.below rb3)
  have rO3 := Lib.hid ro3
  clear ro3
  have rs1 := rb1.size
  have rs2 := rb2.size
  have rs3 := rb3.size
  have HR18 := Lib.hid (RunWaits_own _ _ _ _ _ _ n n n2 n2 n3 n3 t sc ps r3 ((rO1.out.below rb2).below rb3 |>.rN hb) (Nat.le_refl _) ((rO2.out.below rb3).rd hb2 HX0.out.row) (rO3.out.rI h3) rX3.out.tb)
  go_wp2_with fail
  refine HR18.out.mono ?_
  rintro e w18 ⟨v18, rfl, ho18, hb18⟩
  obtain ⟨B18, k18, d18, rfl, hd18, _⟩ := id (ho18.rdn elW2.len (by omega))
  have hk18 : k18 ≤ 48 := by have := ho18.lenV; simp only [lenV] at this; omega
  have hgb : Below w17.heap.size w17 w18 := (rb1.trans (rb2.mono rs1)).trans ((rb3.mono (by omega)).trans (hb18.mono (by omega)))
  have HS18 : Hid (Below wS.heap.size wS w18) := bel_step HS17.out hgb HS17.out.size
  have HG18 := Lib.hid (HG17.out.below hgb)
  have HE18 := Lib.hid (eqWaitS_t _ _ B18 Bs k18 d18 ks ds _ w18 (ho18.rW (by omega)) (HW0.out.below HS18.out))
  clear ho18 hgb
  go_wp2_with fail
  refine HE18.out.mono ?_
  rintro e w19 ⟨rfl, hb19⟩
  have HS19 : Hid (Below wS.heap.size wS w19) := bel_step HS18.out hb19 HS18.out.size
  have HH19 := Lib.hid (heldWaitS_t _ B4 k4 d4 1 w19 ((HG18.out.below hb19).rW (by omega)) (by omega) (by omega) (by omega))
  go_wp2_with fail
  refine HH19.out.mono ?_
  rintro e w20 ⟨rfl, hb20⟩
  have HS20 : Hid (Below wS.heap.size wS w20) := bel_step HS19.out hb20 HS19.out.size
  go_wp2_with fail
  go_ret
  exact ⟨rfl, bel_nx HBS.out HS20.out⟩
end Go.Proofs.YtgpocjehiohimaaDoor
