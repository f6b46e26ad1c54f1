/- The walk over ValidTree. -/
import Derived.Test.YtmnlelpfbnagpaaTreeV2
namespace Go.Proofs.Ytmnlelpfbnagpaa
open Go.RowKit

theorem Try.infoInt : (Try.prog.info? 3).map (fun i => (i.zero, i.size, i.bytes)) = some (some (.int .i64 0), 1, 8) := by kernel_rfl
theorem mk_ints (n : Nat) (hn : n ≤ 1000) (W : World) : (Instr.makeSlice 39 (.int .i64 (n : Int)) (.int .i64 (n : Int))).run Try.prog W =
    .ok (.slice (some ⟨W.heap.size, 0, none⟩) n n) (W.alloc (.cells (zer n) 3)) := by
  obtain ⟨i0, hi, hz0, hz1, hz2⟩ := info_parts Try.infoInt
  have h := run_make_rowN (P := Try.prog) 39 3 i0 _ Try.underlying39 hi hz0 .i64 .i64 n n (Nat.le_refl _) (by rw [hz2]; omega) (by omega) W
  rw [hz1, Nat.mul_one] at h
  exact h

theorem kidIn_v (lo : Nat) (A : Option Addr) (n c : Nat) (l : List Nd) (p : Int) (s : ByteArray) (w : World) (hr : Rd cN 3 w lo A n l) (v : Int) (hv : kidF l p s 0 = v) :
    Calls Try.prog 38 #[.slice A n c, .int .i64 p, .string s] w fun e w' => e = .returned (.int .i64 v) ∧ Below w.heap.size w w' := by
  rw [← hv]; exact kidIn_any lo A n c l p s w hr

set_option maxHeartbeats 1000000 in
theorem ValidTree_any (lo : Nat) (A : Option Addr) (n c : Nat) (l : List Nd) (w : World) (hr : Rd cN 3 w lo A n l) (hnc : n ≤ c) :
    Calls Try.prog 15 #[.slice A n c] w fun e w' => e = .returned (.bool (vt l)) ∧ Below w.heap.size w w' := by
  have hl := hr.len
  by_cases h1 : n < 1 ∨ 12 < n
  · have HF := Lib.hid (vt_false (t := l) (by rintro ⟨a, b, _⟩; omega))
    by_cases h2 : n < 1
    · clear h1
      go_enter Try.func15, Try.ntmps15
      go_wp2_with fail
      go_ret
      exact ⟨ret_bool (by rw [HF.out]), Below.refl _ _⟩
    · have h3 : 12 < n := by omega
      have h4 : 1 ≤ n := by omega
      clear h1 h2
      go_enter Try.func15, Try.ntmps15
      go_wp2_with fail
      go_ret
      exact ⟨ret_bool (by rw [HF.out]), Below.refl _ _⟩
  have n1 : 1 ≤ n := by omega
  have n12 : n ≤ 12 := by omega
  clear h1
  obtain ⟨b, o, x0, rfl, _, hb, hx0, g0, g1, g2⟩ := hr.atN (k := 0) (by omega)
  simp only [Nat.zero_mul, Nat.add_zero] at g0 g1 g2
  by_cases p0 : x0.par = -1
  case neg =>
    have HF := Lib.hid (vt_false (not_VT_at hx0 (fun h => p0 (h.2.2.1 rfl).1)))
    have p0' : (x0.par != -1) = true := by simpa using p0
    clear hx0
    go_enter Try.func15, Try.ntmps15
    go_wp2_with fail
    go_ret
    exact ⟨ret_bool (by rw [HF.out]), Below.refl _ _⟩
  rw [p0] at g0
  by_cases p1 : x0.name.toList.isEmpty = true
  case neg =>
    have HF := Lib.hid (vt_false (not_VT_at hx0 (fun h => p1 (h.2.2.1 rfl).2)))
    have p1' : x0.name.toList.isEmpty = false := by simpa using p1
    clear hx0 p0 p1
    go_enter Try.func15, Try.ntmps15
    go_wp2_with fail
    go_ret
    exact ⟨ret_bool (by rw [HF.out]), Below.refl _ _⟩
  have HP0 := Lib.hid p0
  have HP1 := Lib.hid p1
  have HX0 := Lib.hid hx0
  have hmk := mk_ints n (by omega)
  have hlo := hb
  clear hx0 p0
  go_enter Try.func15, Try.ntmps15
  go_wp2_with fail
  go_loopw [31] (fun i wr => ∃ (k : Nat) (cs : Array Value), k ≤ n ∧ i = .int .i64 k ∧ Below w.heap.size w wr ∧ wr.heap[w.heap.size]? = some (.cells cs 3 (0, 0)) ∧ cs.size = n ∧ OkTo l k ∧
      (∀ j, (j < k ∨ j = 0) → j < n → cs[j]? = some (.int .i64 (dep l j)))) (fun i _ => n - (intOf i).toNat)
  case atStart => exact ⟨0, zer n, Nat.zero_le _, rfl, (Below.refl _ _).alloc (Nat.le_refl _) _, heap_alloc_new w _, zer_size n, OkTo.zero, fun j hj hjn => by
      have : j = 0 := by omega
      subst this
      rw [zer_get hjn, dep_top HX0.out (by rw [HP0.out]; omega)]; rfl⟩
  case round =>
    obtain ⟨k, cs, hk, rfl, hbl, hD, hcs, hK, hds⟩ := hrel
    have hs := hbl.size
    have hDlt := blk_lt hD
    by_cases hlt : k < n
    case neg =>
      have HT := Lib.hid (vt_true (t := l) ⟨by omega, by omega, by rw [hl, show n = k by omega]; exact hK⟩)
      clear hds
      go_wp2_with fail
      go_ret
      exact ⟨ret_bool (by rw [HT.out]), hbl⟩
    obtain ⟨b', o', x, hA, _, hb', hx, g0, g1, g2⟩ := (hr.below hbl).atN hlt
    simp only [Option.some.injEq, Addr.mk.injEq, and_true] at hA
    obtain ⟨rfl, rfl⟩ := hA
    by_cases hv : x.val < -1000 ∨ 1000 < x.val
    · have HF := Lib.hid (vt_false (not_VT_at hx (fun h => by have := h.1; have := h.2.1; omega)))
      clear hds hx
      go_wp2_with (go_at_call 41; refine (within_f _ _ _ _ hv).mono ?_; rintro e w' ⟨rfl, rfl⟩)
      go_ret
      exact ⟨ret_bool (by rw [HF.out]), hbl.alloc hs _⟩
    have v1 : -1000 ≤ x.val := by omega
    have v2 : x.val ≤ 1000 := by omega
    clear hv
    rcases Nat.eq_zero_or_pos k with rfl | hp
    · have hx' := HX0.out
      rw [hx] at hx'
      injection hx' with hx'
      subst hx'
      have HK := Lib.hid (hK.succ hx ⟨v1, v2, fun _ => ⟨HP0.out, HP1.out⟩, fun h => absurd h (by omega)⟩)
      have HD := Lib.hid hds
      clear hds hx
      simp only [Nat.zero_mul, Nat.add_zero] at g0 g1 g2
      go_wp2_with (go_at_call 41; refine (within_t _ _ _ _ (by omega) (by omega)).mono ?_; rintro e w' ⟨rfl, rfl⟩)
      go_roundw
      case rel => exact ⟨1, cs, by omega, by go_num, hbl.alloc hs _, blk_alloc hD _, hcs, HK.out, fun j hj hjn => HD.out j (by omega) hjn⟩
      case measure => simp [intOf]; omega
    have hkn : (k : Int) ≤ (n : Int) := by omega
    have hkc : (k : Int) ≤ (c : Int) := by omega
    have hk0 : (k == 0) = false := by simp; omega
    by_cases hpr : x.par < 0 ∨ (k : Int) - 1 < x.par
    · have HF := Lib.hid (vt_false (not_VT_at hx (fun h => by have := h.2.2.2 hp; omega)))
      clear hds hx
      go_wp2_with (first
        | (go_at_call 41; refine (within_t _ _ _ _ (by omega) (by omega)).mono ?_; rintro e w' ⟨rfl, rfl⟩)
        | (go_at_call 41; refine (within_f _ _ _ _ (by omega)).mono ?_; rintro e w' ⟨rfl, rfl⟩))
      go_ret
      exact ⟨ret_bool (by rw [HF.out]), hbl.alloc hs _⟩
    by_cases p2 : nmOk x.name = false
    · have HF := Lib.hid (vt_false (not_VT_at hx (fun h => by have := (h.2.2.2 hp).2.2.1; rw [p2] at this; cases this)))
      clear hds hx
      go_wp2_with (first
        | (go_at_call 41; refine (within_t _ _ _ _ (by omega) (by omega)).mono ?_; rintro e w' ⟨rfl, rfl⟩)
        | (go_at_call 42; refine (isName_f _ _ p2).mono ?_; rintro e w' ⟨rfl, rfl⟩))
      go_ret
      exact ⟨ret_bool (by rw [HF.out]), hbl.alloc hs _⟩
    have q2 : nmOk x.name = true := by simpa using p2
    clear p2
    obtain ⟨par, name, val⟩ := x
    simp only at v1 v2 hpr q2 g0 g1 g2
    obtain ⟨j, rfl⟩ := Int.eq_ofNat_of_zero_le (show 0 ≤ par by omega)
    have hjk : j < k := by omega
    have hjk' : (j : Int) ≤ (k : Int) - 1 := by omega
    clear hpr
    generalize hkv : kidF (l.take k) j name 0 = v
    have HV := Lib.hid hkv
    have HX := Lib.hid hx
    have hdj := hds j (by omega) (by omega)
    have HD := Lib.hid hds
    clear hkv hx hds
    have hWs : (wr.alloc (.cells #[.int .i64 j, .string name, .int .i64 val] 44)).heap.size = wr.heap.size + 1 := by simp
    have a0 : (wr.alloc (.cells #[.int .i64 j, .string name, .int .i64 val] 44)).cell? ⟨wr.heap.size, 0, none⟩ = some (.int .i64 j) := by simp [go_sem, World.cell?_alloc_new]
    have a1 : (wr.alloc (.cells #[.int .i64 j, .string name, .int .i64 val] 44)).cell? ⟨wr.heap.size, 1, none⟩ = some (.string name) := by simp [go_sem, World.cell?_alloc_new]
    have k0 := aft a0
    have k1 := aft a1
    go_wp2_with (first
      | (go_at_call 41; refine (within_t _ _ _ _ (by omega) (by omega)).mono ?_; rintro e w' ⟨rfl, rfl⟩)
      | (go_at_call 42; refine (isName_t _ _ q2).mono ?_; rintro e w' ⟨rfl, rfl⟩))
    refine wp_region_after (by kernel_rfl) (by kernel_rfl) ?_
    repeat (go_big_quiet_step ((first
      | (go_at_call 38; exact aft_call (kidIn_v lo _ k _ (l.take k) _ _ _ ((((hr.take (by omega)).below hbl).alloc _).below (After.below _)) v HV.out)))))
    refine wpQuiet_nil ?_
    intro w1 hb1
    have hbw : Below w.heap.size w w1 := (hbl.alloc hs _).trans (hb1.mono (by simp; omega))
    have HB1 := Lib.hid hb1
    clear k0 k1
    by_cases q4 : 0 ≤ v
    · have HF := Lib.hid (vt_false (not_VT_at HX.out (fun h => by have := (h.2.2.2 hp).2.2.2.1; rw [HV.out] at this; omega)))
      clear hb1 a0 a1 hdj
      go_wp2_with fail
      go_ret
      exact ⟨ret_bool (by rw [HF.out]), hbw⟩
    have hdl := hK.dep_le hjk (by omega)
    have hst := dep_step (desc_succ hK HX.out (by simpa using hjk)) (Nat.lt_succ_self k) HX.out (Int.natCast_nonneg j)
    simp only [Int.toNat_natCast] at hst
    generalize hq : dep l j = q at hdj hdl hst
    have hD1 := blk_below (blk_alloc hD _) hb1
    have e0 := (hb1.cell (by simp)).trans a0
    have d1 := blk_cell hD1 hdj
    obtain ⟨old, hold⟩ : ∃ u, cs[k]? = some u := ⟨_, Array.getElem?_eq_getElem (by omega)⟩
    have d2 := blk_cell hD1 hold
    have d3 := blk_free hD1 k
    have HST := Lib.hid hst
    have HD1 := Lib.hid hD1
    have hqi : (q : Int) ≤ 4 := by omega
    clear hq hold hdj hD hD1 hb1 a0 a1 g0 g1 g2 hst
    by_cases q5 : q + 1 ≤ 4
    · have hok : OkAt l k ⟨j, name, val⟩ := ⟨v1, v2, fun h => absurd h (by omega), fun _ => ⟨by simp, by simpa using hjk', q2, by show kidF (l.take k) j name 0 < 0; rw [HV.out]; omega, by rw [HST.out]; exact q5⟩⟩
      have HK := Lib.hid (hK.succ HX.out hok)
      have q6 : (q : Int) + 1 ≤ 4 := by omega
      clear hok
      go_wp2_with fail
      go_roundw
      case rel =>
        refine ⟨k + 1, cs.setIfInBounds k (.int .i64 ((q : Int) + 1)), by omega, by go_num, hbw.setCell (Nat.le_refl _) _, blk_set HD1.out k _, by simpa using hcs, HK.out, fun i hi hin => ?_⟩
        by_cases e : i = k
        · subst e
          rw [Array.getElem?_setIfInBounds_self_of_lt (by omega), HST.out]; simp
        · rw [Array.getElem?_setIfInBounds_ne (by omega)]
          exact HD.out i (by omega) hin
      case measure => simp [intOf]; omega
    · have HF := Lib.hid (vt_false (not_VT_at HX.out (fun h => by have := (h.2.2.2 hp).2.2.2.2; rw [HST.out] at this; omega)))
      have q6 : (4 : Int) < (q : Int) + 1 := by omega
      go_wp2_with fail
      go_ret
      exact ⟨ret_bool (by rw [HF.out]), hbw.setCell (Nat.le_refl _) _⟩
end Go.Proofs.Ytmnlelpfbnagpaa
