/- The walks over alongSteps, DrawAlongFault, DrawGoesAlong, DrawNextAlong. -/
import Derived.Test.YtcefgabdffipgaaDoorAlongS2
import Derived.Deep.Cut
import Derived.Deep.CutRange
import Derived.Deep.RegionLaw
namespace Go.Proofs.YtcefgabdffipgaaDoor
open Go.RowKit

set_option maxHeartbeats 1000000 in
theorem pick_val (R p : Nat) (n : Int) (w : World) (hr : Rdr w R p) (hp : p ≤ 1000000000) (hn : n ≤ 1000000000000000) :
    ∃ x : Int, 0 ≤ x ∧ Calls Tryd.prog 28 #[.pointer (some ⟨R, 0, none⟩), .int .i64 n] w fun e w' => e = .returned (.int .i64 x) ∧ Rdr w' R (p + 1) ∧ w.grownBy w' (some R) := by
  have HN := hr.next
  have HG : w.grownBy (w.setCell ⟨R, 1, none⟩ (.int .i64 ((p : Int) + 1))) (some R) := grown_set (World.grownBy.refl w _) (.inl rfl) _
  obtain ⟨A, m, c, zs, h0, h1, h2, h3, h4⟩ := hr
  have c0 := blk_cell (i := 0) h0 rfl
  have c1 := blk_cell (i := 1) h0 rfl
  have f1 := blk_free h0 1
  clear h0
  by_cases hn1 : n < 1
  · refine ⟨0, by omega, ?_⟩
    go_enter Tryd.func28, Tryd.ntmps28
    go_wp2_with fail
    go_ret
    exact ⟨rfl, HN, HG⟩
  rcases Nat.eq_zero_or_pos m with hm | hm
  · rw [hm] at c0
    have hn2 : 1 ≤ n := by omega
    clear h1 hm hn1
    refine ⟨0, by omega, ?_⟩
    go_enter Tryd.func28, Tryd.ntmps28
    go_wp2_with fail
    go_ret
    exact ⟨rfl, HN, HG⟩
  have hn2 : 1 ≤ n := by omega
  obtain ⟨b, o, rfl, hb, hc⟩ := h4 hm
  have hm0 : ((m : Int) == 0) = false := by simp; omega
  have hm1 : (1 : Int) ≤ (m : Int) := by omega
  have hm2 : (m : Int) ≤ 2000 := by omega
  clear h4 hn1
  by_cases hpm : p < m
  · obtain ⟨z, hz⟩ : ∃ z, zs[p]? = some z := ⟨_, List.getElem?_eq_getElem (by omega)⟩
    have g0 := hc p z hz
    obtain ⟨z0, z1⟩ := h3 p z hz
    clear hc h3 hz h1
    refine ⟨z % n, Int.emod_nonneg _ (by omega), ?_⟩
    go_enter Tryd.func28, Tryd.ntmps28
    go_wp2_with fail
    go_ret
    exact ⟨rfl, HN, HG⟩
  · have e1 : p % m < m := Nat.mod_lt _ (by omega)
    have e2 : (p * 7 + 3) % m < m := Nat.mod_lt _ (by omega)
    obtain ⟨z, hz⟩ : ∃ z, zs[p % m]? = some z := ⟨_, List.getElem?_eq_getElem (by omega)⟩
    obtain ⟨y, hy⟩ : ∃ y, zs[(p * 7 + 3) % m]? = some y := ⟨_, List.getElem?_eq_getElem (by omega)⟩
    have g0 := hc _ z hz
    have g1 := hc _ y hy
    obtain ⟨z0, z1⟩ := h3 _ z hz
    obtain ⟨y0, y1⟩ := h3 _ y hy
    have hmp : (m : Int) ≤ (p : Int) := by omega
    have hpi : (p : Int) ≤ 1000000000 := by omega
    have j0 : (w.setCell ⟨R, 1, none⟩ (.int .i64 ((p : Int) + 1))).cell? ⟨R, 0, none⟩ = some (.slice (some ⟨b, o, none⟩) m c) := by
      rw [World.cell?_setCell_other _ _ _ _ (by intro e; injection e with _ e; omega)]; exact c0
    have j1 : (w.setCell ⟨R, 1, none⟩ (.int .i64 ((p : Int) + 1))).cell? ⟨b, o + p % m, none⟩ = some (.int .u8 z) := by
      rw [World.cell?_setCell_other _ _ _ _ (by intro e; injection e with e; omega)]; exact g0
    have j2 : (w.setCell ⟨R, 1, none⟩ (.int .i64 ((p : Int) + 1))).cell? ⟨b, o + (p * 7 + 3) % m, none⟩ = some (.int .u8 y) := by
      rw [World.cell?_setCell_other _ _ _ _ (by intro e; injection e with e; omega)]; exact g1
    have i1 : 0 ≤ ((p : Int) * 7 + 3) % (m : Int) := Int.emod_nonneg _ (by omega)
    have i2 : ((p : Int) * 7 + 3) % (m : Int) < (m : Int) := Int.emod_lt_of_pos _ (by omega)
    have i3 : 0 ≤ (p : Int) / (m : Int) := Int.ediv_nonneg (by omega) (by omega)
    have i4 : (p : Int) / (m : Int) ≤ 1000000000 := Int.le_trans (Int.ediv_le_self _ (by omega)) hpi
    have k0 := aft j0
    have k1 := aft j1
    have k2 := aft j2
    clear hc h3 hz hy h1 hpm g0 g1 j0 j1 j2
    apply Exists.intro
    apply And.intro
    case right =>
      go_enter Tryd.func28, Tryd.ntmps28
      go_wp2_with fail
      refine wp_region_after (by kernel_rfl) (by kernel_rfl) ?_
      repeat (go_big_quiet_step (fail))
      refine wpQuiet_nil ?_
      intro w1 hb1
      go_wp2_with fail
      go_ret
      exact ⟨rfl, HN.below hb1, grown_below HG hb1⟩
    case left => exact Int.tmod_nonneg _ (xor_nonneg (by omega) (by omega) (by omega) (by omega))
theorem tail_facts {W : World} {g base m c : Nat} {A : Option Addr} {l : List St} {a b md : Int} {fr : Bool} (hB : W.heap[g]? = some (.cells #[.int .i64 a, .bool fr, .int .i64 b, .int .i64 md] 32 (0, 0))) (ho : Own cS 4 32 W base (.slice A m c) l) (hl : l.length ≤ 1000) :
    W.cell? ⟨g, 0, none⟩ = some (.int .i64 a) ∧ W.cell? ⟨g, 1, none⟩ = some (.bool fr) ∧ W.cell? ⟨g, 2, none⟩ = some (.int .i64 b) ∧ W.cell? ⟨g, 3, none⟩ = some (.int .i64 md) ∧ g < W.heap.size ∧
    Own cS 4 32 (W.alloc (.cells #[] 32)) W.heap.size (.slice (some ⟨W.heap.size, 0, none⟩) 0 0) ([] : List St) ∧ Rd cS 4 (W.alloc (.cells #[] 32)) base A m l ∧
    Own cS 4 32 ((W.alloc (.cells #[] 32)).alloc (.cells #[.int .i64 a, .bool fr, .int .i64 b, .int .i64 md] 32)) W.heap.size (.slice (some ⟨W.heap.size, 0, none⟩) 0 0) ([] : List St) ∧ Rd cS 4 ((W.alloc (.cells #[] 32)).alloc (.cells #[.int .i64 a, .bool fr, .int .i64 b, .int .i64 md] 32)) W.heap.size (some ⟨W.heap.size + 1, 0, none⟩) 1 [(⟨a, fr, b, md⟩ : St)] ∧
    Own cS 4 32 ((W.alloc (.cells #[.int .i64 a, .bool fr, .int .i64 b, .int .i64 md] 32)).alloc (.cells #[] 32)) W.heap.size (.slice (some ⟨W.heap.size + 1, 0, none⟩) 0 0) ([] : List St) ∧ Rd cS 4 ((W.alloc (.cells #[.int .i64 a, .bool fr, .int .i64 b, .int .i64 md] 32)).alloc (.cells #[] 32)) W.heap.size (some ⟨W.heap.size, 0, none⟩) 1 [(⟨a, fr, b, md⟩ : St)] ∧
    Rd cS 4 ((W.alloc (.cells #[] 32)).alloc (.cells #[.int .i64 a, .bool fr, .int .i64 b, .int .i64 md] 32)) base A m l ∧ Rd cS 4 ((W.alloc (.cells #[.int .i64 a, .bool fr, .int .i64 b, .int .i64 md] 32)).alloc (.cells #[] 32)) base A m l ∧
    (W.alloc (.cells #[] 32)).cell? ⟨g, 0, none⟩ = some (.int .i64 a) ∧ (W.alloc (.cells #[] 32)).cell? ⟨g, 1, none⟩ = some (.bool fr) ∧ (W.alloc (.cells #[] 32)).cell? ⟨g, 2, none⟩ = some (.int .i64 b) ∧ (W.alloc (.cells #[] 32)).cell? ⟨g, 3, none⟩ = some (.int .i64 md) := by
  have hrd := (ho.rds elS.len (by omega)).2
  have hg := blk_lt hB
  have c0 := blk_cell (i := 0) hB rfl
  have c1 := blk_cell (i := 1) hB rfl
  have c2 := blk_cell (i := 2) hB rfl
  have c3 := blk_cell (i := 3) hB rfl
  have hbl := (Below.refl W.heap.size W).alloc (Nat.le_refl _) (.cells #[] 32)
  have h2B := two_B (cs := cS) (sz := 4) (e := 32) W #[.int .i64 a, .bool fr, .int .i64 b, .int .i64 md] (⟨a, fr, b, md⟩ : St) elS.len rfl
  have h2C := two_C (cs := cS) (sz := 4) (e := 32) W #[.int .i64 a, .bool fr, .int .i64 b, .int .i64 md] (⟨a, fr, b, md⟩ : St) elS.len rfl
  exact ⟨c0, c1, c2, c3, hg, Own.empty W elS.len, hrd.alloc _, h2B.1, h2B.2, h2C.1, h2C.2, (hrd.alloc _).alloc _, (hrd.alloc _).alloc _, (hbl.cell hg).trans c0, (hbl.cell hg).trans c1, (hbl.cell hg).trans c2, (hbl.cell hg).trans c3⟩
end Go.Proofs.YtcefgabdffipgaaDoor
