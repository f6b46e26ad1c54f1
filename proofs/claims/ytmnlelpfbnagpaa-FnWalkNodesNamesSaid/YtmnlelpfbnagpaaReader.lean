/- The walks over the reader of drawn numbers: of each only the range of what it gives. -/
import Derived.Test.YtmnlelpfbnagpaaTreeV3
namespace Go.Proofs.Ytmnlelpfbnagpaa
open Go.RowKit

/-- Block R is a reader that has been asked p times, over at most 2000 bytes that lie before it. -/
def Rdr (w : World) (R : Nat) (p : Nat) : Prop := ∃ (A : Option Addr) (n c : Nat) (zs : List Int),
  w.heap[R]? = some (.cells #[.slice A n c, .int .i64 p] 78 (0, 0)) ∧ zs.length = n ∧ n ≤ 2000 ∧ (∀ (k : Nat) (z : Int), zs[k]? = some z → 0 ≤ z ∧ z ≤ 255) ∧
  (0 < n → ∃ b o, A = some ⟨b, o, none⟩ ∧ b < R ∧ ∀ (k : Nat) (z : Int), zs[k]? = some z → w.cell? ⟨b, o + k, none⟩ = some (.int .u8 z))

theorem Rdr.keep {w w' : World} {R p : Nat} (h : Rdr w R p) (hk : ∀ b, b ≤ R → w'.heap[b]? = w.heap[b]?) : Rdr w' R p := by
  obtain ⟨A, n, c, zs, h0, h1, h2, h3, h4⟩ := h
  refine ⟨A, n, c, zs, (hk R (Nat.le_refl _)).trans h0, h1, h2, h3, fun hn => ?_⟩
  obtain ⟨b, o, e, hb, hc⟩ := h4 hn
  exact ⟨b, o, e, hb, fun k z hz => (World.cell?_of_block (hk b (by omega))).trans (hc k z hz)⟩
theorem Rdr.lt {w : World} {R p : Nat} (h : Rdr w R p) : R < w.heap.size := by
  obtain ⟨A, n, c, zs, h0, _⟩ := h
  exact blk_lt h0
theorem Rdr.below {w w' : World} {R p : Nat} (h : Rdr w R p) (hb : Below w.heap.size w w') : Rdr w' R p := h.keep fun b hbR => hb.block b (by have := h.lt; omega)
theorem Rdr.alloc {w : World} {R p : Nat} (h : Rdr w R p) (o : Obj) : Rdr (w.alloc o) R p := h.below ((Below.refl _ _).alloc (Nat.le_refl _) o)
theorem Rdr.grown {w w' : World} {R p g : Nat} (h : Rdr w R p) (hb : w.grownBy w' (some g)) (hg : R < g) : Rdr w' R p :=
  h.keep fun b hbR => hb.block b (by have := h.lt; omega) (by intro e; injection e with e; omega)

def Picked (w : World) (R p : Nat) (n : Int) (e : Ending) (w' : World) : Prop :=
  ∃ x : Int, e = .returned (.int .i64 x) ∧ 0 ≤ x ∧ (n < 1 → x = 0) ∧ (1 ≤ n → x < n) ∧ Rdr w' R (p + 1) ∧ w.grownBy w' (some R)

theorem grown_trans {a b c : World} {row : Option Nat} (h : a.grownBy b row) (k : b.grownBy c row) : a.grownBy c row :=
  ⟨k.os.trans h.os, k.tape.trans h.tape, k.output.trans h.output, Nat.le_trans h.size k.size, fun i hi hne => (k.block i (Nat.lt_of_lt_of_le hi h.size) hne).trans (h.block i hi hne)⟩
theorem grown_below {a b c : World} {row : Option Nat} (h : a.grownBy b row) (k : Below b.heap.size b c) : a.grownBy c row :=
  ⟨k.os.trans h.os, k.tape.trans h.tape, k.output.trans h.output, Nat.le_trans h.size k.size, fun i hi hne => (k.block i (Nat.lt_of_lt_of_le hi h.size)).trans (h.block i hi hne)⟩
theorem grown_of_below {a b : World} {row : Option Nat} (k : Below a.heap.size a b) : a.grownBy b row := grown_below (World.grownBy.refl a row) k
theorem grown_set {a w : World} {g : Nat} (h : a.grownBy w (some g)) {p : Addr} (hp : p.block = g ∨ a.heap.size ≤ p.block) (u : Value) : a.grownBy (w.setCell p u) (some g) :=
  ⟨h.os, h.tape, h.output, by simpa [World.setCell] using h.size, fun i hi hne => (Below.heap_setCell w p u i (by
    rintro rfl
    rcases hp with hp | hp
    · exact hne (by rw [hp])
    · omega)).trans (h.block i hi hne)⟩

theorem Rdr.next {w : World} {R p : Nat} (h : Rdr w R p) : Rdr (w.setCell ⟨R, 1, none⟩ (.int .i64 ((p : Int) + 1))) R (p + 1) := by
  obtain ⟨A, n, c, zs, h0, h1, h2, h3, h4⟩ := h
  refine ⟨A, n, c, zs, by rw [blk_set h0]; simp, h1, h2, h3, fun hn => ?_⟩
  obtain ⟨b, o, e, hb, hc⟩ := h4 hn
  exact ⟨b, o, e, hb, fun k z hz => by
    rw [World.cell?_setCell_other _ _ _ _ (by intro e; injection e with e; omega)]
    exact hc k z hz⟩

theorem xor_nonneg {a b : Int} (h1 : 0 ≤ a) (h2 : a < 9223372036854775808) (h3 : 0 ≤ b) (h4 : b < 9223372036854775808) : 0 ≤ bits .xor .i64 a b := by
  obtain ⟨x, rfl⟩ := Int.eq_ofNat_of_zero_le h1
  obtain ⟨y, rfl⟩ := Int.eq_ofNat_of_zero_le h3
  rw [i64_xor_nat x y (by omega) (by omega)]
  omega

set_option maxHeartbeats 1000000 in
theorem pick_any (R p : Nat) (n : Int) (w : World) (hr : Rdr w R p) (hp : p ≤ 1000000000) (hn : n ≤ 1000000000000000) :
    Calls Try.prog 51 #[.pointer (some ⟨R, 0, none⟩), .int .i64 n] w (Picked w R p n) := by
  have HN := hr.next
  have HG : w.grownBy (w.setCell ⟨R, 1, none⟩ (.int .i64 ((p : Int) + 1))) (some R) := grown_set (World.grownBy.refl w _) (.inl rfl) _
  obtain ⟨A, m, c, zs, h0, h1, h2, h3, h4⟩ := hr
  have c0 := blk_cell (i := 0) h0 rfl
  have c1 := blk_cell (i := 1) h0 rfl
  have f1 := blk_free h0 1
  clear h0
  by_cases hn1 : n < 1
  · go_enter Try.func51, Try.ntmps51
    go_wp2_with fail
    go_ret
    exact ⟨0, rfl, by omega, fun _ => rfl, fun h => by omega, HN, HG⟩
  rcases Nat.eq_zero_or_pos m with hm | hm
  · rw [hm] at c0
    have hn2 : 1 ≤ n := by omega
    clear h1 hm hn1
    go_enter Try.func51, Try.ntmps51
    go_wp2_with fail
    go_ret
    exact ⟨0, rfl, by omega, fun _ => rfl, fun h => by omega, HN, HG⟩
  have hn2 : 1 ≤ n := by omega
  obtain ⟨b, o, rfl, hb, hc⟩ := h4 hm
  have hm0 : ((m : Int) == 0) = false := by simp; omega
  have hm1 : (1 : Int) ≤ (m : Int) := by omega
  have hm2 : (m : Int) ≤ 2000 := by omega
  clear h4 hn1
  by_cases hpm : p < m
  · obtain ⟨z, hz⟩ : ∃ z, zs[p]? = some z := ⟨_, List.getElem?_eq_getElem (by omega)⟩
    have g0 := hc p z hz
    obtain ⟨z0, z1⟩ := h3 p z hz
    clear hc h3 hz h1
    go_enter Try.func51, Try.ntmps51
    go_wp2_with fail
    go_ret
    exact ⟨z % n, rfl, Int.emod_nonneg _ (by omega), fun h => by omega, fun _ => Int.emod_lt_of_pos _ (by omega), HN, HG⟩
  · have e1 : p % m < m := Nat.mod_lt _ (by omega)
    have e2 : (p * 7 + 3) % m < m := Nat.mod_lt _ (by omega)
    obtain ⟨z, hz⟩ : ∃ z, zs[p % m]? = some z := ⟨_, List.getElem?_eq_getElem (by omega)⟩
    obtain ⟨y, hy⟩ : ∃ y, zs[(p * 7 + 3) % m]? = some y := ⟨_, List.getElem?_eq_getElem (by omega)⟩
    have g0 := hc _ z hz
    have g1 := hc _ y hy
    obtain ⟨z0, z1⟩ := h3 _ z hz
    obtain ⟨y0, y1⟩ := h3 _ y hy
    have hmp : (m : Int) ≤ (p : Int) := by omega
    have hpi : (p : Int) ≤ 1000000000 := by omega
    have j0 : (w.setCell ⟨R, 1, none⟩ (.int .i64 ((p : Int) + 1))).cell? ⟨R, 0, none⟩ = some (.slice (some ⟨b, o, none⟩) m c) := by
      rw [World.cell?_setCell_other _ _ _ _ (by intro e; injection e with _ e; omega)]; exact c0
    have j1 : (w.setCell ⟨R, 1, none⟩ (.int .i64 ((p : Int) + 1))).cell? ⟨b, o + p % m, none⟩ = some (.int .u8 z) := by
      rw [World.cell?_setCell_other _ _ _ _ (by intro e; injection e with e; omega)]; exact g0
    have j2 : (w.setCell ⟨R, 1, none⟩ (.int .i64 ((p : Int) + 1))).cell? ⟨b, o + (p * 7 + 3) % m, none⟩ = some (.int .u8 y) := by
      rw [World.cell?_setCell_other _ _ _ _ (by intro e; injection e with e; omega)]; exact g1
    have i1 : 0 ≤ ((p : Int) * 7 + 3) % (m : Int) := Int.emod_nonneg _ (by omega)
    have i2 : ((p : Int) * 7 + 3) % (m : Int) < (m : Int) := Int.emod_lt_of_pos _ (by omega)
    have i3 : 0 ≤ (p : Int) / (m : Int) := Int.ediv_nonneg (by omega) (by omega)
    have i4 : (p : Int) / (m : Int) ≤ 1000000000 := Int.le_trans (Int.ediv_le_self _ (by omega)) hpi
    have k0 := aft j0
    have k1 := aft j1
    have k2 := aft j2
    clear hc h3 hz hy h1 hpm g0 g1 j0 j1 j2
    go_enter Try.func51, Try.ntmps51
    go_wp2_with fail
    refine wp_region_after (by kernel_rfl) (by kernel_rfl) ?_
    repeat (go_big_quiet_step (fail))
    refine wpQuiet_nil ?_
    intro w1 hb1
    go_wp2_with fail
    go_ret
    refine ⟨_, rfl, Int.tmod_nonneg _ (xor_nonneg (by omega) (by omega) (by omega) (by omega)), fun h => by omega, fun _ => Int.tmod_lt_of_pos _ (by omega), HN.below hb1, grown_below HG hb1⟩
end Go.Proofs.Ytmnlelpfbnagpaa
