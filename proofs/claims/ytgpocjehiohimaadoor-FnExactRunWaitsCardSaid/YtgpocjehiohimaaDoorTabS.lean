/- The walks over the tables of locks, the reference's: validTable, held, blockers, validAsk, grant. -/
import Derived.Test.YtgpocjehiohimaaDoorTabW
import Derived.Test.YtgpocjehiohimaaDoorWords6
namespace Go.Proofs.YtgpocjehiohimaaDoor
open Go.RowKit

set_option maxHeartbeats 1000000 in
theorem validTable_any (lo : Nat) (A : Option Addr) (n c : Nat) (l : List Lk) (w : World) (hr : Rd cL 3 w lo A n l) :
    Calls Tryd.prog 90 #[.slice A n c] w fun e w' => e = .returned (.bool (vtb l)) ∧ Below w.heap.size w w' := by
  have HL := Lib.hid hr.len
  have hn := hr.le
  go_enter Tryd.func90, Tryd.ntmps90
  go_wp2_with fail
  go_loopw [3] (fun i wr => ∃ k : Nat, k ≤ n ∧ i = .int .i64 k ∧ Below w.heap.size w wr ∧ OkTab l k) (fun i _ => n - (intOf i).toNat)
  case atStart => exact ⟨0, Nat.zero_le _, rfl, Below.refl _ _, OkTab.zero⟩
  case round =>
    rename World => W1
    obtain ⟨k, hk, rfl, hbl, hK⟩ := hrel
    have hs := hbl.size
    by_cases hlt : k < n
    case neg =>
      have e : k = n := by omega
      subst e
      by_cases h48 : k ≤ 48
      · have HF := Lib.hid (vtb_true (l := l) ⟨by have := HL.out; omega, by rw [HL.out]; exact hK⟩)
        have h48' : (k : Int) ≤ 48 := by omega
        clear hK
        go_wp2_with fail
        go_ret
        exact ⟨ret_bool HF.out.symm, hbl⟩
      · have HF := Lib.hid (vtb_false (l := l) (fun h => h48 (by have := h.1; have := HL.out; omega)))
        have h48' : (48 : Int) < (k : Int) := by omega
        clear hK h48
        go_wp2_with fail
        go_ret
        exact ⟨ret_bool (by rw [HF.out]; simp; omega), hbl⟩
    obtain ⟨b, o, x, rfl, hlob, hb, hx, g0, g1, g2⟩ := (hr.below hbl).atL hlt
    have HX := Lib.hid hx
    have HKK := Lib.hid hK
    clear hx hK
    obtain ⟨xw, xn, xm⟩ := x
    simp only at g0 g1 g2
    by_cases q1 : 0 ≤ xw ∧ xw ≤ 3
    case neg =>
      have q1' : xw < 0 ∨ 3 < xw := by omega
      have HF := Lib.hid (vtb_false (nVTb_at HX.out (fun h => q1 h.1.1)))
      clear q1
      go_wp2_with (go_at_call 74; refine (inRange_f _ _ _ _ (by omega)).mono ?_; rintro e w3 ⟨rfl, rfl⟩)
      go_ret
      exact ⟨ret_bool HF.out.symm, hbl⟩
    by_cases q2 : 0 ≤ xn ∧ xn ≤ 11
    case neg =>
      have q2' : xn < 0 ∨ 11 < xn := by omega
      have HF := Lib.hid (vtb_false (nVTb_at HX.out (fun h => q2 h.1.2.1)))
      clear q2
      go_wp2_with (go_at_call 74; first | (refine (inRange_t _ _ _ _ (by omega) (by omega)).mono ?_; rintro e w3 ⟨rfl, rfl⟩) | (refine (inRange_f _ _ _ _ (by omega)).mono ?_; rintro e w3 ⟨rfl, rfl⟩))
      go_ret
      exact ⟨ret_bool HF.out.symm, hbl⟩
    by_cases q3 : 1 ≤ xm ∧ xm ≤ 5
    case neg =>
      have q3' : xm < 1 ∨ 5 < xm := by omega
      have HF := Lib.hid (vtb_false (nVTb_at HX.out (fun h => q3 h.1.2.2)))
      clear q3
      go_wp2_with (go_at_call 74; first | (refine (inRange_t _ _ _ _ (by omega) (by omega)).mono ?_; rintro e w3 ⟨rfl, rfl⟩) | (refine (inRange_f _ _ _ _ (by omega)).mono ?_; rintro e w3 ⟨rfl, rfl⟩))
      go_ret
      exact ⟨ret_bool HF.out.symm, hbl⟩
    have HOK : Hid (OkAsk xw xn xm) := ⟨q1, q2, q3⟩
    go_wp2_with (go_at_call 74; refine (inRange_t _ _ _ _ (by omega) (by omega)).mono ?_; rintro e w3 ⟨rfl, rfl⟩)
    clear q1 q2 q3
    go_loopw [4] (fun i wr => ∃ j : Nat, j ≤ k ∧ i = .int .i64 j ∧ Below W1.heap.size W1 wr ∧ ∀ (i : Nat) (y : Lk), i < j → l[i]? = some y → ¬ Clash ⟨xw, xn, xm⟩ y) (fun i _ => k - (intOf i).toNat)
    case atStart => exact ⟨0, Nat.zero_le _, rfl, Below.refl _ _, fun i y h => by omega⟩
    case round =>
      rename World => W2
      obtain ⟨j, hj, rfl, hbl2, hJ⟩ := hrel
      by_cases hjk : j < k
      case neg =>
        have e : j = k := by omega
        subst e
        have HN := Lib.hid (HKK.out.succ HX.out ⟨HOK.out, hJ⟩)
        clear hJ
        go_wp2_with fail
        go_roundw
        case rel => exact ⟨j + 1, by omega, by go_num, hbl.trans (hbl2.mono hs), HN.out⟩
        case measure => simp [intOf]; omega
      obtain ⟨b', o', y, hA, _, _, hy, d0, d1, d2⟩ := ((hr.below hbl).below hbl2).atL (k := j) (by omega)
      simp only [Option.some.injEq, Addr.mk.injEq, and_true] at hA
      obtain ⟨rfl, rfl⟩ := hA
      have hyok := (HKK.out j y hjk hy).1.isM
      obtain ⟨yw, yn, ym⟩ := y
      simp only at d0 d1 d2 hyok
      have HY := Lib.hid hy
      have HJ := Lib.hid hJ
      have hjn : (j : Int) < (n : Int) := by omega
      have a0 := aft ((hbl2.cell (p := ⟨b, o + k * 3, none⟩) hb).trans g0)
      have a1 := aft ((hbl2.cell (p := ⟨b, o + k * 3 + 1, none⟩) hb).trans g1)
      have a2 := aft ((hbl2.cell (p := ⟨b, o + k * 3 + 2, none⟩) hb).trans g2)
      have b0 := aft d0
      have b1 := aft d1
      have b2 := aft d2
      have hbf := hbl.trans (hbl2.mono hs)
      clear hy hJ g0 g1 g2 d0 d1 d2
      by_cases e1 : yn = xn
      case neg =>
        have HN : Hid (∀ (i : Nat) (z : Lk), i < j + 1 → l[i]? = some z → ¬ Clash ⟨xw, xn, xm⟩ z) := by
          intro i z hi hz
          by_cases e : i = j
          · subst e; rw [HY.out] at hz; injection hz with hz; subst hz; exact fun h => e1 h.1.symm
          · exact HJ.out i z (by omega) hz
        have e1' : (yn == xn) = false := by simpa using e1
        clear e1
        go_wp2_with fail
        refine wp_region_after (by kernel_rfl) (by kernel_rfl) ?_
        repeat (go_big_quiet_step (fail))
        refine wpQuiet_nil ?_
        intro w7 hb7
        go_wp2_with fail
        go_roundw
        case rel => exact ⟨j + 1, by omega, by go_num, hbl2.trans (hb7.mono hbl2.size), HN.out⟩
        case measure => simp [intOf]; omega
      subst e1
      by_cases e2 : yw = xw
      · subst e2
        have HF := Lib.hid (vtb_false (nVTb_at HX.out (fun h => h.2 j _ hjk HY.out ⟨rfl, Or.inl rfl⟩)))
        go_wp2_with fail
        refine wp_region_after (by kernel_rfl) (by kernel_rfl) ?_
        repeat (go_big_quiet_step (fail))
        refine wpQuiet_nil ?_
        intro w7 hb7
        go_wp2_with fail
        go_ret
        exact ⟨ret_bool HF.out.symm, hbf.trans (hb7.mono hbf.size)⟩
      have e2' : (yw == xw) = false := by simpa using e2
      have HG := fun w' => goTogether_t ym xm w' hyok HOK.out.isM
      cases ht : togF ym xm with
      | false =>
        have HF := Lib.hid (vtb_false (nVTb_at HX.out (fun h => h.2 j _ hjk HY.out ⟨rfl, Or.inr (by rw [togF_comm]; exact ht)⟩)))
        rw [ht] at HG
        have HGG := Lib.hid HG
        clear e2 HG ht hyok
        go_wp2_with fail
        refine wp_region_after (by kernel_rfl) (by kernel_rfl) ?_
        repeat (go_big_quiet_step ((go_at_call 66; exact aft_same (HGG.out _))))
        refine wpQuiet_nil ?_
        intro w7 hb7
        go_wp2_with fail
        go_ret
        exact ⟨ret_bool HF.out.symm, hbf.trans (hb7.mono hbf.size)⟩
      | true =>
        have HN : Hid (∀ (i : Nat) (z : Lk), i < j + 1 → l[i]? = some z → ¬ Clash ⟨xw, yn, xm⟩ z) := by
          intro i z hi hz
          by_cases e : i = j
          · subst e; rw [HY.out] at hz; injection hz with hz; subst hz
            rintro ⟨_, h | h⟩
            · exact e2 h.symm
            · simp only at h; rw [togF_comm, ht] at h; cases h
          · exact HJ.out i z (by omega) hz
        rw [ht] at HG
        have HGG := Lib.hid HG
        clear e2 HG ht hyok
        go_wp2_with fail
        refine wp_region_after (by kernel_rfl) (by kernel_rfl) ?_
        repeat (go_big_quiet_step ((go_at_call 66; exact aft_same (HGG.out _))))
        refine wpQuiet_nil ?_
        intro w7 hb7
        go_wp2_with fail
        go_roundw
        case rel => exact ⟨j + 1, by omega, by go_num, hbl2.trans (hb7.mono hbl2.size), HN.out⟩
        case measure => simp [intOf]; omega

theorem validTable_t (lo : Nat) (A : Option Addr) (n c : Nat) (l : List Lk) (w : World) (hr : Rd cL 3 w lo A n l) (h : VTb l) :
    Calls Tryd.prog 90 #[.slice A n c] w fun e w' => e = .returned (.bool true) ∧ Below w.heap.size w w' := by rw [← vtb_true h]; exact validTable_any lo A n c l w hr
theorem validTable_f (lo : Nat) (A : Option Addr) (n c : Nat) (l : List Lk) (w : World) (hr : Rd cL 3 w lo A n l) (h : ¬ VTb l) :
    Calls Tryd.prog 90 #[.slice A n c] w fun e w' => e = .returned (.bool false) ∧ Below w.heap.size w w' := by rw [← vtb_false h]; exact validTable_any lo A n c l w hr

theorem held_any (lo : Nat) (A : Option Addr) (n c : Nat) (l : List Lk) (who node : Int) (w : World) (hr : Rd cL 3 w lo A n l) :
    Calls Tryd.prog 49 #[.slice A n c, .int .i64 who, .int .i64 node] w fun e w' => e = .returned (.int .i64 (heldF l who node)) ∧ w = w' := by
  have hn := hr.le
  have HL := Lib.hid hr.len
  generalize hv : heldF l who node = v
  have HV := Lib.hid hv
  clear hv
  go_enter Tryd.func49, Tryd.ntmps49
  go_wp2_with fail
  go_loop [7] (fun i => ∃ k : Nat, k ≤ n ∧ i = .int .i64 k ∧ heldF (l.drop k) who node = v) (fun i => n - (intOf i).toNat)
  case atStart => exact ⟨0, Nat.zero_le _, rfl, by simpa using HV.out⟩
  case round =>
    obtain ⟨k, hk, rfl, hK⟩ := hrel
    by_cases hlt : k < n
    case neg =>
      rw [List.drop_eq_nil_of_le (by have := HL.out; omega), heldF] at hK
      subst hK
      go_wp2_with fail
      go_ret
      exact ⟨rfl, rfl⟩
    obtain ⟨b, o, x, rfl, _, hb, hx, g0, g1, g2⟩ := hr.atL hlt
    rw [drop_cons hx, heldF] at hK
    obtain ⟨xw, xn, xm⟩ := x
    simp only at hK g0 g1 g2
    clear hx hr
    by_cases e1 : xw = who
    case neg =>
      rw [if_neg (fun h => e1 h.1)] at hK
      have HK := Lib.hid hK
      have e1' : (xw == who) = false := by simpa using e1
      clear hK e1
      go_wp2_with fail
      go_round
      case rel => exact ⟨k + 1, by omega, by go_num, HK.out⟩
      case measure => simp [intOf]; omega
    subst e1
    by_cases e2 : xn = node
    · subst e2
      rw [if_pos ⟨rfl, rfl⟩] at hK
      subst hK
      go_wp2_with fail
      go_ret
      exact ⟨rfl, rfl⟩
    · rw [if_neg (fun h => e2 h.2)] at hK
      have HK := Lib.hid hK
      have e2' : (xn == node) = false := by simpa using e2
      clear hK e2
      go_wp2_with fail
      go_round
      case rel => exact ⟨k + 1, by omega, by go_num, HK.out⟩
      case measure => simp [intOf]; omega

set_option maxHeartbeats 1000000 in
theorem blockers_any (lo : Nat) (A : Option Addr) (n c : Nat) (l : List Lk) (who node J : Int) (w : World) (hr : Rd cL 3 w lo A n l) (hv : VTb l) (hj : IsM J) :
    Calls Tryd.prog 47 #[.slice A n c, .int .i64 who, .int .i64 node, .int .i64 J] w (IntsP w (blkF l who node J)) := by
  have HH := Lib.hid (heldF_isM hv)
  have HJ := Lib.hid hj
  clear hv hj
  have hW := (Below.refl w.heap.size w).alloc (Nat.le_refl _) (.cells #[] 3)
  go_enter Tryd.func47, Tryd.ntmps47
  go_wp2_with fail
  go_loopw [9, 10] (fun v i wr => ∃ k : Nat, k ≤ 4 ∧ i = .int .i64 k ∧ Below w.heap.size w wr ∧ Own cI 1 3 wr w.heap.size v ((([0, 1, 2, 3] : List Int).take k).filter fun t => decide (t ≠ who) && !togF (heldF l t node) J)) (fun _ i _ => 4 - (intOf i).toNat)
  case atStart => exact ⟨0, Nat.zero_le _, rfl, hW, Own.empty w elI.len⟩
  case round =>
    obtain ⟨k, hk, rfl, hbl, ho⟩ := hrel
    have hs := hbl.size
    by_cases hlt : k < 4
    case neg =>
      obtain rfl : k = 4 := by omega
      go_wp2_with fail
      go_ret
      exact ⟨_, rfl, ho, hbl⟩
    have hlt' : (k : Int) < 4 := by omega
    generalize hf : (fun t => decide (t ≠ who) && !togF (heldF l t node) J) = f at ho
    by_cases e1 : (k : Int) = who
    · have hfk : f (k : Int) = false := by rw [← hf]; simp [e1]
      have HS := Lib.hid (mark_f hlt hfk)
      subst e1
      clear hfk hf
      go_wp2_with fail
      go_roundw
      case rel => exact ⟨k + 1, by omega, by go_num, hbl, by rw [HS.out]; exact ho⟩
      case measure => simp [intOf]; omega
    have e1' : ((k : Int) != who) = true := by simpa using e1
    have HHH := Lib.hid (held_any lo A n c l k node _ (hr.below hbl))
    have hG := fun w' => goTogether_t (heldF l k node) J w' (HH.out _ _) HJ.out
    cases ht : togF (heldF l k node) J with
    | true =>
      have hfk : f (k : Int) = false := by rw [← hf]; simp [ht]
      have HS := Lib.hid (mark_f hlt hfk)
      rw [ht] at hG
      have HG := Lib.hid hG
      clear hfk hf e1 ht hG
      go_wp2_with fail
      refine HHH.out.mono ?_
      rintro e w3 ⟨rfl, rfl⟩
      go_wp2_with fail
      refine (HG.out _).mono ?_
      rintro e w4 ⟨rfl, rfl⟩
      go_wp2_with fail
      go_roundw
      case rel => exact ⟨k + 1, by omega, by go_num, hbl, by rw [HS.out]; exact ho⟩
      case measure => simp [intOf]; omega
    | false =>
      have hfk : f (k : Int) = true := by rw [← hf]; simp [ht, e1]
      have HS := Lib.hid (mark_t hlt hfk)
      have hml := mark_len f k
      rw [ht] at hG
      have HG := Lib.hid hG
      clear hfk hf e1 ht hG
      go_wp2_with fail
      refine HHH.out.mono ?_
      rintro e w3 ⟨rfl, rfl⟩
      go_wp2_with fail
      refine (HG.out _).mono ?_
      rintro e w4 ⟨rfl, rfl⟩
      go_wp2_with (at_builtin; refine wpList_append_rd elI _ rfl (.tmp 28) (.tmp 30) rfl rfl (ho.alloc _) rfl (Rd_one _ #[.int .i64 (k : Int)] 3 (k : Int) rfl) (by omega) (by simp; omega) ?_; intro v5 w5 ho5 hg5 _)
      have hb5 := below_own (hbl.alloc hs _) (ho.alloc (.cells #[.int .i64 (k : Int)] 3)) hg5 (Nat.le_refl _) (by simp; omega)
      go_roundw
      case rel => exact ⟨k + 1, by omega, by go_num, hb5, by rw [HS.out]; exact ho5⟩
      case measure => simp [intOf]; omega

theorem validAsk_t (lo : Nat) (A : Option Addr) (n c : Nat) (l : List Lk) (who node mode : Int) (w : World) (hr : Rd cL 3 w lo A n l) (h1 : VTb l) (h2 : OkAsk who node mode) :
    Calls Tryd.prog 98 #[.slice A n c, .int .i64 who, .int .i64 node, .int .i64 mode] w fun e w' => e = .returned (.bool true) ∧ Below w.heap.size w w' := by
  have HC := Lib.hid (validTable_t lo A n c l w hr h1)
  obtain ⟨⟨a1, a2⟩, ⟨a3, a4⟩, a5, a6⟩ := h2
  clear h1
  go_enter Tryd.func98, Tryd.ntmps98
  go_wp2_with fail
  refine HC.out.mono ?_
  rintro e w1 ⟨rfl, hb1⟩
  go_wp2_with (go_at_call 74; refine (inRange_t _ _ _ _ (by omega) (by omega)).mono ?_; rintro e w3 ⟨rfl, rfl⟩)
  go_ret
  exact ⟨rfl, hb1⟩
theorem validAsk_f (lo : Nat) (A : Option Addr) (n c : Nat) (l : List Lk) (who node mode : Int) (w : World) (hr : Rd cL 3 w lo A n l) (h : ¬ (VTb l ∧ OkAsk who node mode)) :
    Calls Tryd.prog 98 #[.slice A n c, .int .i64 who, .int .i64 node, .int .i64 mode] w fun e w' => e = .returned (.bool false) ∧ Below w.heap.size w w' := by
  by_cases h1 : VTb l
  case neg =>
    have HC := Lib.hid (validTable_f lo A n c l w hr h1)
    clear h1 h
    go_enter Tryd.func98, Tryd.ntmps98
    go_wp2_with fail
    refine HC.out.mono ?_
    rintro e w1 ⟨rfl, hb1⟩
    go_wp2_with fail
    go_ret
    exact ⟨rfl, hb1⟩
  have HC := Lib.hid (validTable_t lo A n c l w hr h1)
  have h2 : ¬ OkAsk who node mode := fun h2 => h ⟨h1, h2⟩
  clear h h1
  by_cases q1 : 0 ≤ who ∧ who ≤ 3
  case neg =>
    have q1' : who < 0 ∨ 3 < who := by omega
    clear q1 h2
    go_enter Tryd.func98, Tryd.ntmps98
    go_wp2_with fail
    refine HC.out.mono ?_
    rintro e w1 ⟨rfl, hb1⟩
    go_wp2_with (go_at_call 74; refine (inRange_f _ _ _ _ (by omega)).mono ?_; rintro e w3 ⟨rfl, rfl⟩)
    go_ret
    exact ⟨rfl, hb1⟩
  by_cases q2 : 0 ≤ node ∧ node ≤ 11
  case neg =>
    have q2' : node < 0 ∨ 11 < node := by omega
    clear q2 h2
    go_enter Tryd.func98, Tryd.ntmps98
    go_wp2_with fail
    refine HC.out.mono ?_
    rintro e w1 ⟨rfl, hb1⟩
    go_wp2_with (go_at_call 74; first | (refine (inRange_t _ _ _ _ (by omega) (by omega)).mono ?_; rintro e w3 ⟨rfl, rfl⟩) | (refine (inRange_f _ _ _ _ (by omega)).mono ?_; rintro e w3 ⟨rfl, rfl⟩))
    go_ret
    exact ⟨rfl, hb1⟩
  have q3 : mode < 1 ∨ 5 < mode := by unfold OkAsk at h2; omega
  clear h2
  go_enter Tryd.func98, Tryd.ntmps98
  go_wp2_with fail
  refine HC.out.mono ?_
  rintro e w1 ⟨rfl, hb1⟩
  go_wp2_with (go_at_call 74; first | (refine (inRange_t _ _ _ _ (by omega) (by omega)).mono ?_; rintro e w3 ⟨rfl, rfl⟩) | (refine (inRange_f _ _ _ _ (by omega)).mono ?_; rintro e w3 ⟨rfl, rfl⟩))
  go_ret
  exact ⟨rfl, hb1⟩
end Go.Proofs.YtgpocjehiohimaaDoor
