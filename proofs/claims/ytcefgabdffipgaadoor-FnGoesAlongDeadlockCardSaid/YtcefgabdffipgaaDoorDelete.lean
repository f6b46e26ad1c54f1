/- The walk over slices.Delete of one lock, in place. -/
import Derived.Test.YtcefgabdffipgaaDoorTabW3
import Derived.Test.YtcefgabdffipgaaDoorStepP
import Derived.Test.YtcefgabdffipgaaDoorReader
import Derived.Deep.RegionLaw
import Derived.Shelf.RegionOpenPlain
namespace Go.Proofs.YtcefgabdffipgaaDoor
open Go.RowKit

theorem setCells_blk {g : Nat} {t : TypeId} : ∀ (vs : List Value) (o : Nat) (w : World) (cs : Array Value), w.heap[g]? = some (.cells cs t (0, 0)) →
    ∃ cs', (w.setCells g o vs).heap[g]? = some (.cells cs' t (0, 0)) ∧ cs'.size = cs.size ∧ (∀ j, j < o → cs'[j]? = cs[j]?) ∧ ∀ (j : Nat) (u : Value), vs[j]? = some u → o + j < cs.size → cs'[o + j]? = some u
  | [], o, w, cs, h => ⟨cs, h, rfl, fun _ _ => rfl, fun j u hu => by simp at hu⟩
  | v :: vs, o, w, cs, h => by
    obtain ⟨cs', h1, h2, h3, h4⟩ := setCells_blk vs (o + 1) (w.setCell ⟨g, o, none⟩ v) (cs.setIfInBounds o v) (blk_set h o v)
    rw [Array.size_setIfInBounds] at h2
    refine ⟨cs', h1, h2, fun j hj => ?_, fun j u hu hlt => ?_⟩
    · rw [h3 j (by omega), Array.getElem?_setIfInBounds, if_neg (by omega)]
    · cases j with
      | zero =>
        simp at hu
        subst hu
        rw [Nat.add_zero, h3 o (by omega), Array.getElem?_setIfInBounds, if_pos rfl, if_pos (by omega)]
      | succ j =>
        rw [show o + (j + 1) = o + 1 + j by omega]
        exact h4 j u hu (by rw [Array.size_setIfInBounds]; omega)
theorem grown_setCells {g : Nat} {a : World} : ∀ (vs : List Value) (o : Nat) (w : World), a.grownBy w (some g) → a.grownBy (w.setCells g o vs) (some g)
  | [], _, _, h => h
  | v :: vs, o, _, h => grown_setCells vs (o + 1) _ (grown_set h (.inl rfl) v)

set_option maxRecDepth 100000 in
set_option maxHeartbeats 1600000 in
theorem DeleteL_any (base g n cap k : Nat) (l : List Lk) (w : World) (ho : Own cL 3 37 w base (.slice (some ⟨g, 0, none⟩) n cap) l) (hk : k < n) (hn : n ≤ 1000) :
    Calls Tryd.prog 43 #[.slice (some ⟨g, 0, none⟩) n cap, .int .i64 (k : Int), .int .i64 ((k : Int) + 1)] w fun e w' => ∃ v, e = .returned v ∧ Own cL 3 37 w' base v (l.eraseIdx k) ∧ w.grownBy w' (some g) := by
  obtain ⟨hxl, hcase⟩ := id ho
  rcases hcase with ⟨hv, _⟩ | ⟨g', capq, cur, hv, hbg, hgb, hnc, hcm, hsz, htk⟩
  · cases hv
  injection hv with hv1 hv2 hv3
  injection hv1 with hv1
  injection hv1 with hv1
  subst hv1 hv3
  have hll : l.length = n := hv2.symm
  clear hv2
  obtain ⟨i0, z, hi, hz, hsz3, hby, hzs⟩ := elL.inf
  -- the cells that are moved to the left
  obtain ⟨news, hnews⟩ : ∃ news, news = (l.drop (k + 1)).flatMap cL := ⟨_, rfl⟩
  have hlen : news.length = (n - (k + 1)) * 3 := by rw [hnews, flat_len elL.len, List.length_drop, hll]
  have hcurget : ∀ j, j < n * 3 → cur[j]? = (l.flatMap cL)[j]? := by
    intro j hj
    rw [← htk, List.getElem?_take, if_pos (by rw [hll]; exact hj), Array.getElem?_toList]
  have hsplit : l.flatMap cL = (l.take (k + 1)).flatMap cL ++ news := by
    rw [hnews, ← List.flatMap_append, List.take_append_drop]
  have hnget : ∀ j u, news[j]? = some u → (l.flatMap cL)[(k + 1) * 3 + j]? = some u := by
    intro j u hu
    rw [hsplit, List.getElem?_append_right (by rw [flat_len elL.len, List.length_take, hll]; omega), flat_len elL.len, List.length_take, hll, show (k + 1) * 3 + j - min (k + 1) n * 3 = j by omega]
    exact hu
  have hsrc : Hid (∀ j u, news[j]? = some u → w.drew.cell? ⟨g, (k + 1) * 3 + j, none⟩ = some u) := fun j u hu => by
    have hj : j < news.length := (List.getElem?_eq_some_iff.1 hu).1
    exact blk_cell hgb (by rw [hcurget _ (by omega)]; exact hnget j u hu)
  have hone : Hid (∀ u ∈ news, u.oneCell' = true) := by rw [hnews]; exact flat_mem elL.one _
  have hspare : Hid (∀ j, j < news.length → (w.drew.cell? ⟨g, 0 + k * 3 + j, none⟩).isSome = true ∧ w.drew.frozen? ⟨g, 0 + k * 3 + j, none⟩ = false) := fun j hj => by
    refine ⟨?_, blk_free hgb _⟩
    have hlt : 0 + k * 3 + j < cur.size := by rw [hsz]; omega
    show (w.cell? _).isSome = true
    rw [blk_cell hgb (Array.getElem?_eq_getElem hlt)]
    rfl
  obtain ⟨W1, hW1⟩ : ∃ W1, W1 = w.drew.setCells g (0 + k * 3) news := ⟨_, rfl⟩
  have hgd : w.drew.heap[g]? = some (.cells cur 37 (0, 0)) := hgb
  obtain ⟨cs1, hc1, hs1, hlo1, hin1⟩ := setCells_blk news (0 + k * 3) w.drew cur hgd
  rw [← hW1] at hc1
  have hgr1 : w.grownBy W1 (some g) := by rw [hW1]; exact grown_setCells _ _ _ (grown_of_below (Below.refl w.heap.size w).drew)
  obtain ⟨W2, hW2⟩ : ∃ W2, W2 = W1.setCells g ((n - 1) * 3) [.int .i64 0, .int .i64 0, .int .i64 0] := ⟨_, rfl⟩
  obtain ⟨cs2, hc2, hs2, hlo2, _⟩ := setCells_blk [.int .i64 0, .int .i64 0, .int .i64 0] ((n - 1) * 3) W1 cs1 hc1
  rw [← hW2] at hc2
  have hgr2 : w.grownBy W2 (some g) := by rw [hW2]; exact grown_setCells _ _ _ hgr1
  have hres : Hid (Own cL 3 37 W2 base (.slice (some ⟨g, 0, none⟩) (k + (n - (k + 1))) cap) (l.eraseIdx k)) := by
    have hel : (l.eraseIdx k).length = n - 1 := by rw [List.length_eraseIdx, hll, if_pos hk]
    refine ⟨by rw [flat_len elL.len], .inr ⟨g, cap, cs2, by rw [hel, show k + (n - (k + 1)) = n - 1 by omega], hbg, hc2, by rw [hel]; omega, hcm, by rw [hs2, hs1, hsz], ?_⟩⟩
    rw [hel]
    apply List.ext_getElem?
    intro j
    have hfl : ((l.eraseIdx k).flatMap cL).length = (n - 1) * 3 := by rw [flat_len elL.len, hel]
    rw [List.getElem?_take]
    by_cases hj : j < (n - 1) * 3
    · rw [if_pos hj, Array.getElem?_toList, hlo2 j hj, List.eraseIdx_eq_take_drop_succ, List.flatMap_append, ← hnews]
      have htl : ((l.take k).flatMap cL).length = k * 3 := by rw [flat_len elL.len, List.length_take, hll, show min k n = k by omega]
      by_cases hjk : j < k * 3
      · rw [List.getElem?_append_left (by omega), hlo1 j (by omega), hcurget j (by omega)]
        conv => lhs; rw [← List.take_append_drop k l, List.flatMap_append]
        rw [List.getElem?_append_left (by omega)]
      · rw [List.getElem?_append_right (by omega), htl]
        have hjn : j - k * 3 < news.length := by omega
        have := hin1 (j - k * 3) _ (List.getElem?_eq_getElem hjn) (by rw [hsz]; omega)
        rw [show 0 + k * 3 + (j - k * 3) = j by omega] at this
        rw [this, List.getElem?_eq_getElem hjn]
    · rw [if_neg hj, List.getElem?_eq_none (by omega)]
  have hcl : ∀ ty, (Builtin.clear_ #[28] ty #[.slice (some ⟨g, (k + (n - (k + 1))) * 3, none⟩) (n - (k + (n - (k + 1)))) (cap - (k + (n - (k + 1))))]).run Tryd.prog W1 = .ok (.tuple #[]) W2 := by
    intro ty
    have hst := run_storeCells_cells (P := Tryd.prog) g ((n - 1) * 3) [.int .i64 0, .int .i64 0, .int .i64 0] 0 W1
      (fun j hj => by
        simp at hj
        have hlt : (n - 1) * 3 + 0 + j < cs1.size := by rw [hs1, hsz]; omega
        rw [blk_cell hc1 (i := (n - 1) * 3 + 0 + j) (Array.getElem?_eq_getElem hlt)]; rfl)
      (fun j hj => blk_free hc1 _) (by intro v hv; simp at hv; subst hv; rfl)
    rw [show k + (n - (k + 1)) = n - 1 by omega, show n - (n - 1) = 0 + 1 by omega]
    simp only [Nat.add_zero] at hst
    have hz0 : ∀ w, (zeroValue 37).run Tryd.prog w = .ok (.agg #[.int .i64 0, .int .i64 0, .int .i64 0]) w := fun w => by
      have hzz : (Tryd.prog.info? 37).map (fun i => i.zero) = some (some (.agg #[.int .i64 0, .int .i64 0, .int .i64 0])) := by kernel_rfl
      rw [hi] at hzz
      simp at hzz
      simp [zeroValue, typeInfo, hi, hzz]
    simp [Builtin.clear_, run_underlying Tryd.underlying28, hz0, Builtin.zeroCells, Value.cells]
    show ((Sem.run Tryd.prog (storeCells ⟨g, (n - 1) * 3, none⟩ [.int .i64 0, .int .i64 0, .int .i64 0]) W1).andThen fun a w' => Result.ok (Value.tuple #[]) w') = _
    rw [hst, hW2]; rfl
  have X1 := Lib.hid hW1
  have hnc' : n ≤ cap := by omega
  clear hnc ho hll
  have X2 := Lib.hid hgr2
  have HNL := Lib.hid hlen
  have hkc : k ≤ cap := by omega
  have hkc1 : k + 1 ≤ cap := by omega
  have hk1n : k + 1 ≤ n := hk
  have HCL := Lib.hid hcl
  clear hcl
  clear hxl hgb hcurget hsplit hnget hnews hgd hc1 hs1 hlo1 hin1 hgr1 hW1 hW2 hc2 hs2 hlo2 hgr2 htk hsz hlen
  go_enter Tryd.func43, Tryd.ntmps43
  have hnlt : ((k : Int) == (k : Int) + 1) = false := by simp; omega
  have mixed : Tryd.prog.follows .mixedOrders = true := by kernel_rfl
  have q1 : (k : Int) ≤ (k : Int) + 1 := by omega
  have q2 : (k : Int) + 1 ≤ (n : Int) := by omega
  have q3 : (n : Int) ≤ (cap : Int) := by omega
  have q4 : (k : Int) ≤ (cap : Int) := by omega
  have q5 : (0 : Int) ≤ (k : Int) + 1 := by omega
  by_cases hcc : cap = k + 1
  · have hnil : news = [] := List.eq_nil_of_length_eq_zero (by rw [HNL.out]; omega)
    have hsrc2 : Hid (∀ j u, news[j]? = some u → w.drew.cell? ((⟨g, 0, none⟩ : Addr).add j) = some u) := fun j u hu => by rw [hnil] at hu; simp at hu
    clear hnil
    subst hcc
    obtain rfl : n = k + 1 := by omega
    have HNL2 : Hid (news.length = 0 * 3) := by have := HNL.out; show _ = _; omega
    have HCL2 : Hid (∀ ty, (Builtin.clear_ #[28] ty #[.slice (some ⟨g, k * 3, none⟩) 1 1]).run Tryd.prog W1 = .ok (.tuple #[]) W2) := fun ty => by
      have := HCL.out ty
      rw [show k + (k + 1 - (k + 1)) = k by omega, show k + 1 - k = 1 by omega] at this
      exact this
    have hres2 : Hid (Own cL 3 37 W2 base (.slice (some ⟨g, 0, none⟩) k (k + 1)) (l.eraseIdx k)) := by
      have := hres.out
      rw [show k + (k + 1 - (k + 1)) = k by omega] at this
      exact this
    clear HNL HCL hres hnc' hkc1 hk1n q2 q3
    go_wp2_with fail
    go_region_law_o (refine step_append_room rfl (.tmp 22) (.tmp 25) 28 rfl 37 i0 3 Tryd.underlying28 hi hsz3 g 0 k (k + 1) (by simp [Act.eval, Act.put]) ⟨g, 0, none⟩ 0 0 news (by simp [Act.eval, Act.put]) HNL2.out hsrc2.out hone.out (by omega) hspare.out ?_; rw [← X1.out])
    have hcl := HCL2.out
    go_wp2_with fail
    go_ret
    exact ⟨_, rfl, hres2.out, X2.out⟩
  · have hsrc2 : Hid (∀ j u, news[j]? = some u → w.drew.cell? ((⟨g, (k + 1) * 3, none⟩ : Addr).add j) = some u) := fun j u hu => by rw [Addr.add_lit]; exact hsrc.out j u hu
    go_wp2_with fail
    go_region_law_o (refine step_append_room rfl (.tmp 22) (.tmp 25) 28 rfl 37 i0 3 Tryd.underlying28 hi hsz3 g 0 k cap (by simp [Act.eval, Act.put]) ⟨g, (k + 1) * 3, none⟩ (n - (k + 1)) (cap - (k + 1)) news (by simp [Act.eval, Act.put]) HNL.out hsrc2.out hone.out (by omega) hspare.out ?_; rw [← X1.out])
    have hcl := HCL.out
    go_wp2_with fail
    go_ret
    exact ⟨_, rfl, hres.out, X2.out⟩
end Go.Proofs.YtcefgabdffipgaaDoor
