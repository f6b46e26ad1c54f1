/- The walks of the laws on locks for locks and on faults. -/
import Derived.Test.YtkolhdlmpjehfaaDoorLawTake
import Derived.Test.YtkolhdlmpjehfaaDoorGrainL
namespace Go.Proofs.YtkolhdlmpjehfaaDoor
open Go.RowKit

set_option maxRecDepth 100000 in
set_option maxHeartbeats 1600000 in
theorem lawLocksForTake (A : Option Addr) (n c : Nat) (zs : List Int) (w : World) (hn : n ≤ 1048576) (hr : Rd cB 1 w 0 A n zs) (hc : n ≤ c) (hz : ∀ (k : Nat) (z : Int), zs[k]? = some z → 0 ≤ z ∧ z ≤ 255) (hT : Tb w) :
    Calls Tryd.prog 6 #[.slice A n c] w fun e w' => e = .returned (.bool true) ∧ Below w.heap.size w w' := by
  have hn' : (n : Int) ≤ 1048576 := by omega
  go_enter Tryd.func6, Tryd.ntmps6
  go_wp2_with fail
  refine (DrawLocksFor_any A n c zs _ hr hc hz).mono ?_
  rintro e w1 ⟨A1, n1, c1, t, who, node, mode, rfl, hc1, hrt, hn1, hzt, hb1⟩
  have hT1 := hT.below hb1
  go_wp2_with fail
  refine (LocksFor_any _ A1 n1 c1 t who node mode _ hrt hc1).mono ?_
  rintro e w2 ⟨A2, m, c2, rfl, hc2, hr2, hb2⟩
  have hB2 := hb1.trans (hb2.mono hb1.size)
  go_wp2_with fail
  refine (LocksForS_any _ A1 n1 c1 t who node mode _ (hrt.below hb2) hc1 hzt).mono ?_
  rintro e w4 ⟨A5, n5, c5, rfl, hc5, hr5, hb4⟩
  have hB4 := hB2.trans (hb4.mono hB2.size)
  go_wp2_with fail
  refine (equalLocks_t _ _ A2 A5 m c2 n5 c5 _ _ (hr2.below hb4) hr5).mono ?_
  rintro e w6 ⟨rfl, hb6⟩
  have hB6 := hB4.trans (hb6.mono hB4.size)
  have hrt6 := ((hrt.below hb2).below hb4).below hb6
  have hr26 := (hr2.below hb4).below hb6
  have hT6 := hT.below hB6
  have HL := Lib.hid hr2.len
  clear hr5 hr2 hrt hr hz hb1 hb2 hb4 hb6 hB2 hB4 hT1
  by_cases hv : IsNd t node ∧ OkAsk who node mode
  case neg =>
    have hm : m = 0 := by have := HL.out; rw [lksF_no hv] at this; exact this.symm
    subst hm
    clear hv
    go_wp2_with fail
    refine (LocksForS_any _ A1 n1 c1 t who node mode _ hrt6 hc1 hzt).mono ?_
    rintro e w7 ⟨A7, n7, c7, rfl, hc7, hr7, hb7⟩
    go_wp2_with fail
    refine (equalLocks_t _ _ A2 A7 0 c2 n7 c7 _ _ (hr26.below hb7) hr7).mono ?_
    rintro e w8 ⟨rfl, hb8⟩
    go_wp2_with fail
    go_ret
    exact ⟨rfl, hB6.trans ((hb7.trans (hb8.mono hb7.size)).mono hB6.size)⟩
  obtain ⟨h1, h2⟩ := hv
  rw [lksF_yes h1 h2] at hr26 HL
  have hm0 : 1 ≤ m := by have := HL.out; unfold lkF at this; simp at this; omega
  have hmz : ((m : Int) == 0) = false := by simp; omega
  have hta := TakeAll_b 0 _ none A2 0 0 m c2 [] (lkF t who node mode) w6 Rd.nil (Nat.le_refl _) hr26 hT6
  rw [take_lkF h1 h2] at hta
  have HTA := Lib.hid hta
  have hv := takeAllF_VTb (take_lkF h1 h2)
  have HG := Lib.hid ((gfF_fine h1.1 hv).2 (lkF_fine (who := who) h1 h2.isM))
  clear hta h1 h2 hv hm0
  go_wp2_with fail
  refine HTA.out.mono ?_
  rintro e w7 ⟨A7, n7, c7, rfl, hc7, hr7, hb7⟩
  have hB7 := hB6.trans (hb7.mono hB6.size)
  have hr27 := hr26.below hb7
  have HE := Lib.hid (equalLocks_t _ _ A7 A2 n7 c7 m c2 (lkF t who node mode) _ hr7 hr27)
  have HGF := Lib.hid (fun w' (hb' : Below w7.heap.size w7 w') => GrainFault_any _ _ A1 A7 n1 c1 n7 c7 t (lkF t who node mode) who w' ((hrt6.below hb7).below hb') hc1 (hr7.below hb') hc7 ((hT6.below hb7).below hb'))
  rw [HG.out] at HGF
  clear hr7 hr27 hr26
  go_wp2_with fail
  refine HE.out.mono ?_
  rintro e w8 ⟨rfl, hb8⟩
  go_wp2_with fail
  refine (HGF.out _ hb8).mono ?_
  rintro e w9 ⟨rfl, hb9⟩
  go_wp2_with fail
  go_ret
  exact ⟨rfl, hB7.trans ((hb8.trans (hb9.mono hb8.size)).mono hB7.size)⟩
set_option maxRecDepth 100000 in
set_option maxHeartbeats 1600000 in
theorem lawGrainFaultOne (A : Option Addr) (n c : Nat) (zs : List Int) (w : World) (hn : n ≤ 1048576) (hr : Rd cB 1 w 0 A n zs) (hc : n ≤ c) (hz : ∀ (k : Nat) (z : Int), zs[k]? = some z → 0 ≤ z ∧ z ≤ 255) (hT : Tb w) :
    Calls Tryd.prog 7 #[.slice A n c] w fun e w' => e = .returned (.bool true) ∧ Below w.heap.size w w' := by
  have hn' : (n : Int) ≤ 1048576 := by omega
  go_enter Tryd.func7, Tryd.ntmps7
  go_wp2_with fail
  refine (DrawGrainFault_any A n c zs _ hr hc hz).mono ?_
  rintro e w1 ⟨A1, n1, c1, t, A2, m, c2, l, who, rfl, hc1, hrt, hn1, hzt, hc2, hrl, hm, hw0, hw3, hb1⟩
  have hT1 := hT.below hb1
  have hgf : ∃ g, gfF t l who = g := ⟨_, rfl⟩
  obtain ⟨g, hg⟩ := hgf
  have HG := Lib.hid hg
  have HGS := Lib.hid (fun w' (hb' : Below w1.heap.size w1 w') => GrainFaultS_any _ _ A1 A2 n1 c1 m c2 t l who w' (hrt.below hb') hc1 hzt (hrl.below hb'))
  rw [hg] at HGS
  clear hg
  go_wp2_with fail
  refine (GrainFault_any _ _ A1 A2 n1 c1 m c2 t l who _ hrt hc1 hrl hc2 hT1).mono ?_
  rintro e w2 ⟨rfl, hb2⟩
  rw [HG.out]
  have hB2 := hb1.trans (hb2.mono hb1.size)
  go_wp2_with fail
  refine (HGS.out _ hb2).mono ?_
  rintro e w3 ⟨rfl, hb3⟩
  have hb13 := hb2.trans (hb3.mono hb2.size)
  have hB3 := hb1.trans (hb13.mono hb1.size)
  have hrt3 := hrt.below hb13
  have hrl3 := hrl.below hb13
  have hT3 := hT.below hB3
  have HLT := Lib.hid hrt.len
  have hle1 := hrt.le
  clear hT1 hb2 hb3 hB2 hr hz
  by_cases hv : VT t
  case neg =>
    have HV := Lib.hid hv
    clear hv
    go_wp2_with fail
    refine (ValidTree_f _ A1 n1 c1 t _ hrt3 hc1 HV.out).mono ?_
    rintro e w4 ⟨rfl, hb4⟩
    go_wp2_with fail
    refine (HGS.out _ (hb13.trans (hb4.mono hb13.size))).mono ?_
    rintro e w9 ⟨rfl, hb9⟩
    go_wp2_with fail
    go_ret
    exact ⟨by simp, hb1.trans ((hb13.trans (hb4.mono hb13.size)).trans (hb9.mono (hb13.trans (hb4.mono hb13.size)).size) |>.mono hb1.size)⟩
  have HV := Lib.hid hv
  clear hv
  go_wp2_with fail
  refine (ValidTree_t _ A1 n1 c1 t _ hrt3 hc1 HV.out).mono ?_
  rintro e w4 ⟨rfl, hb4⟩
  by_cases h2 : n1 < 2
  · have h2' : (n1 : Int) < 2 := by omega
    clear h2
    go_wp2_with fail
    refine (HGS.out _ (hb13.trans (hb4.mono hb13.size))).mono ?_
    rintro e w9 ⟨rfl, hb9⟩
    go_wp2_with fail
    go_ret
    exact ⟨by simp, hb1.trans ((hb13.trans (hb4.mono hb13.size)).trans (hb9.mono (hb13.trans (hb4.mono hb13.size)).size) |>.mono hb1.size)⟩
  have h2' : (2 : Int) ≤ (n1 : Int) := by omega
  have hB4 := hB3.trans (hb4.mono hB3.size)
  have hrt4 := hrt3.below hb4
  have hT4 := hT3.below hb4
  obtain ⟨q, hq1, hq2⟩ : ∃ q : Nat, (n : Int) % ((n1 : Int) - 1) = (q : Int) ∧ q < n1 - 1 := by
    obtain ⟨q, hq⟩ := Int.eq_ofNat_of_zero_le (Int.emod_nonneg (n : Int) (show (n1 : Int) - 1 ≠ 0 by omega))
    have := Int.emod_lt_of_pos (n : Int) (show 0 < (n1 : Int) - 1 by omega)
    exact ⟨q, hq, by omega⟩
  have hq3 : 1 + (q : Int) = ((q + 1 : Nat) : Int) := by omega
  have hd0 : ((n1 : Int) - 1 == 0) = false := by simp; omega
  have hd1 : (0 : Int) < (n1 : Int) - 1 := by omega
  have HG1 := Lib.hid (gf_one HV.out (k := q + 1) (by omega) (by have := HLT.out; omega))
  have HG2 := Lib.hid (gf_top HV.out)
  have hq4 : (q : Int) < (n1 : Int) - 1 := by omega
  have HC1 := Lib.hid (GrainFault_any _ _ A1 (some ⟨w4.heap.size, 0, none⟩) n1 c1 1 1 t [⟨1, ((q + 1 : Nat) : Int), 3⟩] 1 _ (hrt4.alloc _) hc1 (Rd_one w4 #[.int .i64 1, .int .i64 ((q + 1 : Nat) : Int), .int .i64 3] 31 (⟨1, ((q + 1 : Nat) : Int), 3⟩ : Lk) rfl) (Nat.le_refl _) (hT4.alloc _))
  rw [HG1.out] at HC1
  generalize hQ : q + 1 = Q at *
  clear hq2 h2 hrt3 hrl3 hrl hrt hQ HG1 hb4
  go_wp2_with fail
  refine HC1.out.mono ?_
  rintro e w5 ⟨rfl, hb5⟩
  have hB5 := (hB4.alloc hB4.size (.cells #[.int .i64 1, .int .i64 (Q : Int), .int .i64 3] 31)).trans (hb5.mono (by have := hB4.size; simp; omega))
  have hrt5 := (hrt4.alloc (.cells #[.int .i64 1, .int .i64 (Q : Int), .int .i64 3] 31)).below hb5
  have hT5 := hT.below hB5
  have HC2 := Lib.hid (GrainFault_any _ _ A1 (some ⟨w5.heap.size, 0, none⟩) n1 c1 1 1 t [⟨1, 0, 3⟩] 1 _ (hrt5.alloc _) hc1 (Rd_one w5 #[.int .i64 1, .int .i64 0, .int .i64 3] 31 (⟨1, 0, 3⟩ : Lk) rfl) (Nat.le_refl _) (hT5.alloc _))
  rw [HG2.out] at HC2
  clear hb5 hrt4
  go_wp2_with fail
  refine HC2.out.mono ?_
  rintro e w6 ⟨rfl, hb6⟩
  have hB6 := (hB5.alloc hB5.size (.cells #[.int .i64 1, .int .i64 0, .int .i64 3] 31)).trans (hb6.mono (by have := hB5.size; simp; omega))
  clear hb6
  go_wp2_with fail
  go_ret
  exact ⟨rfl, hB6⟩
set_option maxRecDepth 100000 in
set_option maxHeartbeats 1600000 in
theorem lawGrainFault (A : Option Addr) (n c : Nat) (zs : List Int) (w : World) (hn : n ≤ 1048576) (hr : Rd cB 1 w 0 A n zs) (hc : n ≤ c) (hz : ∀ (k : Nat) (z : Int), zs[k]? = some z → 0 ≤ z ∧ z ≤ 255) (hT : Tb w) :
    Calls Tryd.prog 8 #[.slice A n c] w fun e w' => e = .returned (.bool true) ∧ Below w.heap.size w w' := by
  have hn' : (n : Int) ≤ 1048576 := by omega
  go_enter Tryd.func8, Tryd.ntmps8
  go_wp2_with fail
  refine (DrawGrainFault_any A n c zs _ hr hc hz).mono ?_
  rintro e w1 ⟨A1, n1, c1, t, A2, m, c2, l, who, rfl, hc1, hrt, hn1, hzt, hc2, hrl, hm, hw0, hw3, hb1⟩
  have hT1 := hT.below hb1
  have hgf : ∃ g, gfF t l who = g := ⟨_, rfl⟩
  obtain ⟨g, hg⟩ := hgf
  have HG := Lib.hid hg
  have HGS := Lib.hid (fun w' (hb' : Below w1.heap.size w1 w') => GrainFaultS_any _ _ A1 A2 n1 c1 m c2 t l who w' (hrt.below hb') hc1 hzt (hrl.below hb'))
  rw [hg] at HGS
  clear hg
  go_wp2_with fail
  refine (GrainFault_any _ _ A1 A2 n1 c1 m c2 t l who _ hrt hc1 hrl hc2 hT1).mono ?_
  rintro e w2 ⟨rfl, hb2⟩
  rw [HG.out]
  have hB2 := hb1.trans (hb2.mono hb1.size)
  go_wp2_with fail
  refine (HGS.out _ hb2).mono ?_
  rintro e w3 ⟨rfl, hb3⟩
  have hb13 := hb2.trans (hb3.mono hb2.size)
  have hB3 := hb1.trans (hb13.mono hb1.size)
  have hrt3 := hrt.below hb13
  have hrl3 := hrl.below hb13
  have hT3 := hT.below hB3
  have HLT := Lib.hid hrt.len
  have hle1 := hrt.le
  clear hT1 hb2 hb3 hB2 hr hz
  by_cases hv : VT t
  case neg =>
    have HV := Lib.hid hv
    clear hv
    go_wp2_with fail
    refine (ValidTree_f _ A1 n1 c1 t _ hrt3 hc1 HV.out).mono ?_
    rintro e w4 ⟨rfl, hb4⟩
    go_wp2_with fail
    refine (HGS.out _ (hb13.trans (hb4.mono hb13.size))).mono ?_
    rintro e w9 ⟨rfl, hb9⟩
    go_wp2_with fail
    go_ret
    exact ⟨by simp, hb1.trans ((hb13.trans (hb4.mono hb13.size)).trans (hb9.mono (hb13.trans (hb4.mono hb13.size)).size) |>.mono hb1.size)⟩
  have HV := Lib.hid hv
  clear hv
  go_wp2_with fail
  refine (ValidTree_t _ A1 n1 c1 t _ hrt3 hc1 HV.out).mono ?_
  rintro e w4 ⟨rfl, hb4⟩
  have hB4 := hB3.trans (hb4.mono hB3.size)
  have hb14 := hb13.trans (hb4.mono hb13.size)
  have hrt4 := hrt3.below hb4
  have hrl4 := hrl3.below hb4
  have hT4 := hT3.below hb4
  by_cases hv : VTb l
  case neg =>
    have HVB := Lib.hid hv
    clear hv
    go_wp2_with fail
    refine (ValidTable_f _ A2 m c2 l _ hrl4 hc2 hT4 HVB.out).mono ?_
    rintro e w5 ⟨rfl, hb5⟩
    go_wp2_with fail
    refine (HGS.out _ (hb14.trans (hb5.mono hb14.size))).mono ?_
    rintro e w9 ⟨rfl, hb9⟩
    go_wp2_with fail
    go_ret
    exact ⟨by simp, hb1.trans ((hb14.trans (hb5.mono hb14.size)).trans (hb9.mono (hb14.trans (hb5.mono hb14.size)).size) |>.mono hb1.size)⟩
  have HVB := Lib.hid hv
  clear hv
  go_wp2_with fail
  refine (ValidTable_t _ A2 m c2 l _ hrl4 hc2 hT4 HVB.out).mono ?_
  rintro e w5 ⟨rfl, hb5⟩
  have hB5 := hB4.trans (hb5.mono hB4.size)
  have hrt5 := hrt4.below hb5
  have hrl5 := hrl4.below hb5
  have hT5 := hT4.below hb5
  clear hrt3 hrl3 hrt4 hrl4 hT3 hT4 hb4 hb5 hb14 hrt hrl
  have hrng : g = -1 ∨ (1 ≤ g ∧ g < n1) := by
    have := gfF_range (t := t) (l := l) (who := who)
    rw [HG.out] at this
    have := HLT.out
    omega
  have HRG := Lib.hid hrng
  have h1n : 1 ≤ n1 := by have := HV.out.1; have := HLT.out; omega
  clear hrng
  go_wp2_with fail
  go_loopw [7] (fun i wr => ∃ k : Nat, 1 ≤ k ∧ k ≤ n1 ∧ i = .int .i64 k ∧ Below w5.heap.size w5 wr) (fun i _ => n1 - (intOf i).toNat)
  case atStart => exact ⟨1, Nat.le_refl _, h1n, rfl, Below.refl _ _⟩
  case round =>
    rename World => W1
    obtain ⟨k, hk1, hk, rfl, hbl⟩ := hrel
    by_cases hlt : k < n1
    case neg =>
      have hg0 : (g != 0) = true := by have := HRG.out; simp; omega
      have hg1 : g < (n1 : Int) := by have := HRG.out; omega
      go_wp2_with fail
      go_ret
      exact ⟨by simp, hB5.trans (hbl.mono hB5.size)⟩
    obtain ⟨b, o, x, rfl, _, hb, hx, g0, g1, g2⟩ := (hrt5.below hbl).atN hlt
    obtain ⟨f1, f2⟩ := gf_first (who := who) HV.out HVB.out hk1 hx
    rw [HG.out] at f1 f2
    have hm := heldF_isM HVB.out
    have HP := Lib.hid (fun w' (hb' : Below W1.heap.size W1 w') => HeldMode_t _ A2 m c2 l who x.par w' ((hrl5.below hbl).below hb') hc2 ((hT5.below hbl).below hb') HVB.out)
    have HH := Lib.hid (fun w' (hb' : Below W1.heap.size W1 w') => HeldMode_t _ A2 m c2 l who k w' ((hrl5.below hbl).below hb') hc2 ((hT5.below hbl).below hb') HVB.out)
    have HN := Lib.hid (fun w' => NeedAbove_t (heldF l who k) w' (hm _ _))
    have HS := Lib.hid (fun w' (hb' : Below W1.heap.size W1 w') => IsStronger_t (heldF l who x.par) (needF (heldF l who k)) w' (hm _ _) (needF_isM _) ((hT5.below hbl).below hb'))
    generalize strF (heldF l who x.par) (needF (heldF l who k)) = st at *
    generalize needF (heldF l who k) = nm at *
    generalize heldF l who k = hk' at *
    generalize heldF l who x.par = hp at *
    clear hx g1 g2 hm
    have HF1 := Lib.hid f1
    have HF2 := Lib.hid f2
    clear f1 f2
    go_wp2_with fail
    refine (HP.out _ (Below.refl _ _)).mono ?_
    rintro e w6 ⟨rfl, hb6⟩
    go_wp2_with fail
    refine (HH.out _ hb6).mono ?_
    rintro e w7 ⟨rfl, hb7⟩
    have hb67 := hb6.trans (hb7.mono hb6.size)
    go_wp2_with (go_at_call 31; refine (HN.out _).mono ?_; rintro e w8 ⟨rfl, rfl⟩)
    refine (HS.out _ hb67).mono ?_
    rintro e w8 ⟨rfl, rfl⟩
    have hbn := hbl.trans (hb67.mono hbl.size)
    cases st with
    | true =>
      have h1 : (( k : Int) == g) = false := by
        simp only [beq_eq_false_iff_ne, ne_eq]
        intro e
        have := HF1.out e
        cases this
      go_wp2_with fail
      all_goals
        go_roundw
        case rel => exact ⟨k + 1, by omega, by omega, by go_num, hbn⟩
        case measure => simp [intOf]; omega
    | false =>
      have h1 : ¬ (g < 0) := fun h => by have := HF2.out (Or.inl h); cases this
      have h2 : ¬ ((k : Int) < g) := fun h => by have := HF2.out (Or.inr h); cases this
      have h1' : 0 ≤ g := by omega
      have h2' : g ≤ (k : Int) := by omega
      clear h1 h2
      go_wp2_with fail
      all_goals
        go_roundw
        case rel => exact ⟨k + 1, by omega, by omega, by go_num, hbn⟩
        case measure => simp [intOf]; omega
set_option maxRecDepth 100000 in
set_option maxHeartbeats 1600000 in
theorem lawGrainFaultFree (A : Option Addr) (n c : Nat) (zs : List Int) (w : World) (hn : n ≤ 1048576) (hr : Rd cB 1 w 0 A n zs) (hc : n ≤ c) (hz : ∀ (k : Nat) (z : Int), zs[k]? = some z → 0 ≤ z ∧ z ≤ 255) (hT : Tb w) :
    Calls Tryd.prog 14 #[.slice A n c] w fun e w' => e = .returned (.bool true) ∧ Below w.heap.size w w' := by
  have hn' : (n : Int) ≤ 1048576 := by omega
  go_enter Tryd.func14, Tryd.ntmps14
  go_wp2_with fail
  refine (DrawGrainFault_any A n c zs _ hr hc hz).mono ?_
  rintro e w1 ⟨A1, n1, c1, t, A2, m, c2, l, who, rfl, hc1, hrt, hn1, hzt, hc2, hrl, hm, hw0, hw3, hb1⟩
  have hT1 := hT.below hb1
  have hgf : ∃ g, gfF t l who = g := ⟨_, rfl⟩
  obtain ⟨g, hg⟩ := hgf
  have HG := Lib.hid hg
  have HGS := Lib.hid (fun w' (hb' : Below w1.heap.size w1 w') => GrainFaultS_any _ _ A1 A2 n1 c1 m c2 t l who w' (hrt.below hb') hc1 hzt (hrl.below hb'))
  rw [hg] at HGS
  clear hg
  go_wp2_with fail
  refine (GrainFault_any _ _ A1 A2 n1 c1 m c2 t l who _ hrt hc1 hrl hc2 hT1).mono ?_
  rintro e w2 ⟨rfl, hb2⟩
  rw [HG.out]
  have hB2 := hb1.trans (hb2.mono hb1.size)
  go_wp2_with fail
  refine (HGS.out _ hb2).mono ?_
  rintro e w3 ⟨rfl, hb3⟩
  have hb13 := hb2.trans (hb3.mono hb2.size)
  have hB3 := hb1.trans (hb13.mono hb1.size)
  have hrt3 := hrt.below hb13
  have hrl3 := hrl.below hb13
  have hT3 := hT.below hB3
  have HLT := Lib.hid hrt.len
  have hle1 := hrt.le
  clear hT1 hb2 hb3 hB2 hr hz
  by_cases hg1 : g = -1
  case neg =>
    have hg' : (g != -1) = true := by simpa using hg1
    clear hg1
    go_wp2_with fail
    refine (HGS.out _ (hb13)).mono ?_
    rintro e w9 ⟨rfl, hb9⟩
    go_wp2_with fail
    go_ret
    exact ⟨by simp, hb1.trans ((hb13).trans (hb9.mono (hb13).size) |>.mono hb1.size)⟩
  subst hg1
  by_cases hv : VT t
  case neg =>
    have HV := Lib.hid hv
    clear hv
    go_wp2_with fail
    refine (ValidTree_f _ A1 n1 c1 t _ hrt3 hc1 HV.out).mono ?_
    rintro e w4 ⟨rfl, hb4⟩
    go_wp2_with fail
    refine (HGS.out _ (hb13.trans (hb4.mono hb13.size))).mono ?_
    rintro e w9 ⟨rfl, hb9⟩
    go_wp2_with fail
    go_ret
    exact ⟨by simp, hb1.trans ((hb13.trans (hb4.mono hb13.size)).trans (hb9.mono (hb13.trans (hb4.mono hb13.size)).size) |>.mono hb1.size)⟩
  have HV := Lib.hid hv
  clear hv
  go_wp2_with fail
  refine (ValidTree_t _ A1 n1 c1 t _ hrt3 hc1 HV.out).mono ?_
  rintro e w4 ⟨rfl, hb4⟩
  have hB4 := hB3.trans (hb4.mono hB3.size)
  have hb14 := hb13.trans (hb4.mono hb13.size)
  have hrt4 := hrt3.below hb4
  have hrl4 := hrl3.below hb4
  have hT4 := hT3.below hb4
  by_cases hv : VTb l
  case neg =>
    have HVB := Lib.hid hv
    clear hv
    go_wp2_with fail
    refine (ValidTable_f _ A2 m c2 l _ hrl4 hc2 hT4 HVB.out).mono ?_
    rintro e w5 ⟨rfl, hb5⟩
    go_wp2_with fail
    refine (HGS.out _ (hb14.trans (hb5.mono hb14.size))).mono ?_
    rintro e w9 ⟨rfl, hb9⟩
    go_wp2_with fail
    go_ret
    exact ⟨by simp, hb1.trans ((hb14.trans (hb5.mono hb14.size)).trans (hb9.mono (hb14.trans (hb5.mono hb14.size)).size) |>.mono hb1.size)⟩
  have HVB := Lib.hid hv
  clear hv
  go_wp2_with fail
  refine (ValidTable_t _ A2 m c2 l _ hrl4 hc2 hT4 HVB.out).mono ?_
  rintro e w5 ⟨rfl, hb5⟩
  have hB5 := hB4.trans (hb5.mono hB4.size)
  have hrt5 := hrt4.below hb5
  have hrl5 := hrl4.below hb5
  have hT5 := hT4.below hb5
  clear hrt3 hrl3 hrt4 hrl4 hT3 hT4 hb4 hb5 hb14 hrt hrl
  have hf := (gfF_fine HV.out HVB.out).1 HG.out
  have HF := Lib.hid hf
  have h1n : 1 ≤ n1 := by have := HV.out.1; have := HLT.out; omega
  obtain ⟨q, hq1, hq2⟩ : ∃ q : Nat, (n : Int) % (n1 : Int) = (q : Int) ∧ q < n1 := by
    obtain ⟨q, hq⟩ := Int.eq_ofNat_of_zero_le (Int.emod_nonneg (n : Int) (show (n1 : Int) ≠ 0 by omega))
    have := Int.emod_lt_of_pos (n : Int) (show 0 < (n1 : Int) by omega)
    exact ⟨q, hq, by omega⟩
  have hd0 : ((n1 : Int) == 0) = false := by simp; omega
  have hd1 : (0 : Int) < (n1 : Int) := by omega
  have hnd : IsNd t q := ⟨HV.out, by omega, by have := HLT.out; omega⟩
  have hask : OkAsk who q 3 := ⟨⟨hw0, hw3⟩, ⟨by omega, by have := HV.out.2.1; have := HLT.out; omega⟩, by omega, by omega⟩
  have HND := Lib.hid hnd
  have HASK := Lib.hid hask
  clear hf hnd hask hq2
  go_wp2_with fail
  refine (LocksFor_any _ A1 n1 c1 t who q 3 _ hrt5 hc1).mono ?_
  rintro e w6 ⟨A6, m6, c6, rfl, hc6, hr6, hb6⟩
  rw [lksF_yes HND.out HASK.out] at hr6
  have hB6 := hB5.trans (hb6.mono hB5.size)
  go_wp2_with fail
  refine (TakeAll_b _ _ A2 A6 m c2 m6 c6 l (lkF t who q 3) _ (hrl5.below hb6) hc2 hr6 (hT5.below hb6)).mono ?_
  rintro e w7 ⟨A7, m7, c7, rfl, hc7, hr7, hb7⟩
  have hb57 := hb6.trans (hb7.mono hb6.size)
  have hB7 := hB5.trans (hb57.mono hB5.size)
  go_wp2_with fail
  refine (FreeLocks_t _ A2 m c2 l who _ (hrl5.below hb57) hc2 (hT5.below hb57) HVB.out).mono ?_
  rintro e w8 ⟨v8, rfl, ho8, hb8⟩
  obtain ⟨A8, m8, c8, rfl, hc8, hr8⟩ := ho8.rdn elL.len (by have := (freeF_VTb HVB.out who).1; omega)
  have hb58 := hb57.trans (hb8.mono hb57.size)
  have hB8 := hB5.trans (hb58.mono hB5.size)
  have HGF := Lib.hid ((gfF_fine HV.out (freeF_VTb HVB.out who)).2 (free_fine HVB.out))
  have hr78 := hr7.below hb8
  clear ho8 hr6 hr7
  go_wp2_with fail
  refine (GrainFault_any _ _ A1 A8 n1 c1 m8 c8 t _ who _ (hrt5.below hb58) hc1 hr8 hc8 (hT5.below hb58)).mono ?_
  rintro e w9 ⟨rfl, hb9⟩
  rw [HGF.out]
  have hb59 := hb58.trans (hb9.mono hb58.size)
  have hr79 := hr78.below hb9
  have hB9 := hB5.trans (hb59.mono hB5.size)
  clear hr8 hr78
  cases ht : takeAllF l (lkF t who q 3) with
  | none =>
    clear ht hr79
    go_wp2_with fail
    go_ret
    exact ⟨rfl, hB9⟩
  | some out =>
    rw [ht] at hr79
    have hvo := takeAllF_VTb ht
    have HO := Lib.hid ((gfF_fine HV.out hvo).2 (take_fine HND.out HASK.out ht HF.out))
    clear ht hvo
    go_wp2_with fail
    refine (GrainFault_any _ _ A1 A7 n1 c1 m7 c7 t out who _ (hrt5.below hb59) hc1 hr79 hc7 (hT5.below hb59)).mono ?_
    rintro e w10 ⟨rfl, hb10⟩
    rw [HO.out]
    go_wp2_with fail
    go_ret
    exact ⟨rfl, hB9.trans (hb10.mono hB9.size)⟩
set_option maxRecDepth 100000 in
set_option maxHeartbeats 1600000 in
theorem lawMayReadLock (A : Option Addr) (n c : Nat) (zs : List Int) (w : World) (hn : n ≤ 1048576) (hr : Rd cB 1 w 0 A n zs) (hc : n ≤ c) (hz : ∀ (k : Nat) (z : Int), zs[k]? = some z → 0 ≤ z ∧ z ≤ 255) (hT : Tb w) :
    Calls Tryd.prog 13 #[.slice A n c] w fun e w' => e = .returned (.bool true) ∧ Below w.heap.size w w' := by
  have hn' : (n : Int) ≤ 1048576 := by omega
  go_enter Tryd.func13, Tryd.ntmps13
  go_wp2_with fail
  refine (DrawMayRead_any A n c zs _ hr hc hz).mono ?_
  rintro e w1 ⟨A1, n1, c1, t, A2, m, c2, l, who, node, rfl, hc1, hrt, hn1, hzt, hc2, hrl, hm, hw0, hw3, hb1⟩
  have hT1 := hT.below hb1
  have hmay : ∃ ok, mayF 3 t l who node = ok := ⟨_, rfl⟩
  obtain ⟨ok, hok⟩ := hmay
  go_wp2_with fail
  refine (MayRead_any _ _ A1 A2 n1 c1 m c2 t l who node _ hrt hc1 hrl hc2 hT1).mono ?_
  rintro e w2 ⟨rfl, hb2⟩
  rw [hok]
  have hB2 := hb1.trans (hb2.mono hb1.size)
  have hrt2 := hrt.below hb2
  have hrl2 := hrl.below hb2
  have HOK := Lib.hid hok
  clear hok
  go_wp2_with fail
  refine (MayReadS_any _ _ A1 A2 n1 c1 m c2 t l who node _ hrt2 hc1 hzt hrl2).mono ?_
  rintro e w3 ⟨rfl, hb3⟩
  rw [HOK.out]
  have hB3 := hB2.trans (hb3.mono hB2.size)
  have hrt3 := hrt2.below hb3
  have hrl3 := hrl2.below hb3
  have hT3 := hT.below hB3
  have HLT := Lib.hid hrt.len
  clear hrt hrl hrt2 hrl2 hT1 hb1 hb2 hb3 hB2 hr hz
  go_wp2_with fail
  refine (LocksFor_any _ A1 n1 c1 t who node 3 _ hrt3 hc1).mono ?_
  rintro e w6 ⟨A6, m6, c6, rfl, hc6, hr6, hb6⟩
  have hB6 := hB3.trans (hb6.mono hB3.size)
  go_wp2_with fail
  refine (TakeAll_b _ _ A2 A6 m c2 m6 c6 l (lksF t who node 3) _ (hrl3.below hb6) hc2 hr6 (hT3.below hb6)).mono ?_
  rintro e w7 ⟨A7, m7, c7, rfl, hc7, hr7, hb7⟩
  have hb37 := hb6.trans (hb7.mono hb6.size)
  have hB7 := hB3.trans (hb37.mono hB3.size)
  cases ht : takeAllF l (lksF t who node 3) with
  | none =>
    clear ht hr7 hr6
    go_wp2_with fail
    go_ret
    exact ⟨rfl, hB7⟩
  | some out =>
    rw [ht] at hr7
    have HT := Lib.hid ht
    clear ht hr6
    go_wp2_with fail
    refine (LocksFor_any _ A1 n1 c1 t who node 3 _ (hrt3.below hb37) hc1).mono ?_
    rintro e w8 ⟨A8, m8, c8, rfl, hc8, hr8, hb8⟩
    have hb38 := hb37.trans (hb8.mono hb37.size)
    have hB8 := hB3.trans (hb38.mono hB3.size)
    by_cases hv : IsNd t node ∧ OkAsk who node 3
    · have h8 := hr8.len
      rw [lksF_yes hv.1 hv.2] at h8
      have hm8 : 1 ≤ m8 := by unfold lkF at h8; simp at h8; omega
      have hmz : ((m8 : Int) == 0) = false := by simp; omega
      have h2 := HT.out
      rw [lksF_yes hv.1 hv.2] at h2
      have HM := Lib.hid (take_may hv.1 hv.2 h2)
      clear h8 hm8 h2 hv hr8
      go_wp2_with fail
      refine (MayRead_any _ _ A1 A7 n1 c1 m7 c7 t out who node _ (hrt3.below hb38) hc1 (hr7.below hb8) hc7 (hT3.below hb38)).mono ?_
      rintro e w9 ⟨rfl, hb9⟩
      rw [HM.out]
      go_wp2_with fail
      go_ret
      exact ⟨rfl, hB8.trans (hb9.mono hB8.size)⟩
    · have h8 := hr8.len
      rw [lksF_no hv] at h8
      obtain rfl : m8 = 0 := h8.symm
      clear hv hr8 h8
      go_wp2_with fail
      go_ret
      exact ⟨rfl, hB8⟩
set_option maxRecDepth 100000 in
set_option maxHeartbeats 1600000 in
theorem lawMayWrite (A : Option Addr) (n c : Nat) (zs : List Int) (w : World) (hn : n ≤ 1048576) (hr : Rd cB 1 w 0 A n zs) (hc : n ≤ c) (hz : ∀ (k : Nat) (z : Int), zs[k]? = some z → 0 ≤ z ∧ z ≤ 255) (hT : Tb w) :
    Calls Tryd.prog 15 #[.slice A n c] w fun e w' => e = .returned (.bool true) ∧ Below w.heap.size w w' := by
  have hn' : (n : Int) ≤ 1048576 := by omega
  go_enter Tryd.func15, Tryd.ntmps15
  go_wp2_with fail
  refine (DrawMayWrite_any A n c zs _ hr hc hz).mono ?_
  rintro e w1 ⟨A1, n1, c1, t, A2, m, c2, l, who, node, rfl, hc1, hrt, hn1, hzt, hc2, hrl, hm, hw0, hw3, hb1⟩
  have hT1 := hT.below hb1
  have hmay : ∃ ok, mayF 5 t l who node = ok := ⟨_, rfl⟩
  obtain ⟨ok, hok⟩ := hmay
  go_wp2_with fail
  refine (MayWrite_any _ _ A1 A2 n1 c1 m c2 t l who node _ hrt hc1 hrl hc2 hT1).mono ?_
  rintro e w2 ⟨rfl, hb2⟩
  rw [hok]
  have hB2 := hb1.trans (hb2.mono hb1.size)
  have hrt2 := hrt.below hb2
  have hrl2 := hrl.below hb2
  have HOK := Lib.hid hok
  clear hok
  go_wp2_with fail
  refine (MayWriteS_any _ _ A1 A2 n1 c1 m c2 t l who node _ hrt2 hc1 hzt hrl2).mono ?_
  rintro e w3 ⟨rfl, hb3⟩
  rw [HOK.out]
  have hB3 := hB2.trans (hb3.mono hB2.size)
  have hrt3 := hrt2.below hb3
  have hrl3 := hrl2.below hb3
  have hT3 := hT.below hB3
  have HLT := Lib.hid hrt.len
  clear hrt hrl hrt2 hrl2 hT1 hb1 hb2 hb3 hB2 hr hz
  by_cases hv : VT t
  case neg =>
    have HV := Lib.hid hv
    clear hv
    go_wp2_with fail
    refine (ValidTree_f _ A1 n1 c1 t _ hrt3 hc1 HV.out).mono ?_
    rintro e w4 ⟨rfl, hb4⟩
    go_wp2_with fail
    refine (MayWriteS_any _ _ A1 A2 n1 c1 m c2 t l who node _ (hrt3.below (hb4)) hc1 hzt (hrl3.below (hb4))).mono ?_
    rintro e w9 ⟨rfl, hb9⟩
    rw [HOK.out]
    go_wp2_with fail
    go_ret
    exact ⟨by simp, hB3.trans (((hb4).trans (hb9.mono (hb4).size)).mono hB3.size)⟩
  have HV := Lib.hid hv
  clear hv
  go_wp2_with fail
  refine (ValidTree_t _ A1 n1 c1 t _ hrt3 hc1 HV.out).mono ?_
  rintro e w4 ⟨rfl, hb4⟩
  by_cases hv : VTb l
  case neg =>
    have HVB := Lib.hid hv
    clear hv
    go_wp2_with fail
    refine (ValidTable_f _ A2 m c2 l _ (hrl3.below hb4) hc2 (hT3.below hb4) HVB.out).mono ?_
    rintro e w5 ⟨rfl, hb5⟩
    have hb35 := hb4.trans (hb5.mono hb4.size)
    go_wp2_with fail
    refine (MayWriteS_any _ _ A1 A2 n1 c1 m c2 t l who node _ (hrt3.below (hb35)) hc1 hzt (hrl3.below (hb35))).mono ?_
    rintro e w9 ⟨rfl, hb9⟩
    rw [HOK.out]
    go_wp2_with fail
    go_ret
    exact ⟨by simp, hB3.trans (((hb35).trans (hb9.mono (hb35).size)).mono hB3.size)⟩
  have HVB := Lib.hid hv
  clear hv
  go_wp2_with fail
  refine (ValidTable_t _ A2 m c2 l _ (hrl3.below hb4) hc2 (hT3.below hb4) HVB.out).mono ?_
  rintro e w5 ⟨rfl, hb5⟩
  have hb35 := hb4.trans (hb5.mono hb4.size)
  by_cases hn0 : node < 0
  ·
    go_wp2_with fail
    refine (MayWriteS_any _ _ A1 A2 n1 c1 m c2 t l who node _ (hrt3.below (hb35)) hc1 hzt (hrl3.below (hb35))).mono ?_
    rintro e w9 ⟨rfl, hb9⟩
    rw [HOK.out]
    go_wp2_with fail
    go_ret
    exact ⟨by simp, hB3.trans (((hb35).trans (hb9.mono (hb35).size)).mono hB3.size)⟩
  have hn0' : 0 ≤ node := by omega
  by_cases hnl : (n1 : Int) ≤ node
  ·
    go_wp2_with fail
    refine (MayWriteS_any _ _ A1 A2 n1 c1 m c2 t l who node _ (hrt3.below (hb35)) hc1 hzt (hrl3.below (hb35))).mono ?_
    rintro e w9 ⟨rfl, hb9⟩
    rw [HOK.out]
    go_wp2_with fail
    go_ret
    exact ⟨by simp, hB3.trans (((hb35).trans (hb9.mono (hb35).size)).mono hB3.size)⟩
  have hnl' : node < (n1 : Int) := by omega
  have hB5 := hB3.trans (hb35.mono hB3.size)
  have hrt5 := hrt3.below hb35
  have hrl5 := hrl3.below hb35
  have hT5 := hT3.below hb35
  have hnd : IsNd t node := ⟨HV.out, hn0', by have := HLT.out; omega⟩
  have HNN := Lib.hid hnd
  have hask : OkAsk who node 5 := ⟨⟨hw0, hw3⟩, ⟨hn0', by have := HV.out.2.1; have := HLT.out; omega⟩, by omega, by omega⟩
  have HASK := Lib.hid hask
  clear hnd hask hrt3 hrl3 hT3 hb4 hb5 hb35 hn0 hnl
  have HEND : Hid (∀ w' : World, Below w5.heap.size w5 w' → True) := fun _ _ => trivial
  go_wp2_with fail
  go_loopw [8] (fun i wr => ∃ k : Nat, k ≤ n1 ∧ i = .int .i64 k ∧ Below w5.heap.size w5 wr) (fun i _ => n1 - (intOf i).toNat)
  case atStart => exact ⟨0, Nat.zero_le _, rfl, Below.refl _ _⟩
  case round =>
    rename World => W1
    obtain ⟨k, hk, rfl, hbl⟩ := hrel
    by_cases hlt : k < n1
    case neg =>
      go_wp2_with fail
      refine (LocksFor_any _ A1 n1 c1 t who node 5 _ (hrt5.below hbl) hc1).mono ?_
      rintro e w6 ⟨A6, m6, c6, rfl, hc6, hr6, hb6⟩
      rw [lksF_yes HNN.out HASK.out] at hr6
      have hb56 := hbl.trans (hb6.mono hbl.size)
      go_wp2_with fail
      refine (TakeAll_b _ _ A2 A6 m c2 m6 c6 l (lkF t who node 5) _ (hrl5.below hb56) hc2 hr6 (hT5.below hb56)).mono ?_
      rintro e w7 ⟨A7, m7, c7, rfl, hc7, hr7, hb7⟩
      have hb57 := hb56.trans (hb7.mono hb56.size)
      have hB7 := hB5.trans (hb57.mono hB5.size)
      cases ht : takeAllF l (lkF t who node 5) with
      | none =>
        clear ht hr7 hr6
        go_wp2_with fail
        go_ret
        exact ⟨rfl, hB7⟩
      | some out =>
        rw [ht] at hr7
        have HM := Lib.hid (take_may HNN.out HASK.out ht)
        clear ht hr6
        go_wp2_with fail
        refine (MayWrite_any _ _ A1 A7 n1 c1 m7 c7 t out who node _ (hrt5.below hb57) hc1 hr7 hc7 (hT5.below hb57)).mono ?_
        rintro e w8 ⟨rfl, hb8⟩
        rw [HM.out]
        go_wp2_with fail
        go_ret
        exact ⟨rfl, hB7.trans (hb8.mono hB7.size)⟩
    cases ok with
    | false =>
      go_wp2_with fail
      go_roundw
      case rel => exact ⟨k + 1, by omega, by go_num, hbl⟩
      case measure => simp [intOf]; omega
    | true =>
      have hnd : IsNd t k := ⟨HV.out, by omega, by have := HLT.out; omega⟩
      have HND := Lib.hid hnd
      have hcv := fun w' (hb' : Below W1.heap.size W1 w') => IsAbove_t _ A1 n1 c1 t node k w' ((hrt5.below hbl).below hb') hc1 HNN.out HND.out
      have hmb : abv t node k = true → mayF 5 t l who k = true := fun h => may_below HOK.out HND.out (by simpa [abv] using h)
      have HMB := Lib.hid hmb
      clear hnd hmb
      generalize hab : abv t node k = ab at *
      have HCV := Lib.hid hcv
      clear hcv hab
      cases ab with
      | false =>
        go_wp2_with fail
        refine (HCV.out _ (Below.refl _ _)).mono ?_
        rintro e w6 ⟨rfl, hb6⟩
        go_wp2_with fail
        go_roundw
        case rel => exact ⟨k + 1, by omega, by go_num, hbl.trans (hb6.mono hbl.size)⟩
        case measure => simp [intOf]; omega
      | true =>
        go_wp2_with fail
        refine (HCV.out _ (Below.refl _ _)).mono ?_
        rintro e w6 ⟨rfl, hb6⟩
        have hb56 := hbl.trans (hb6.mono hbl.size)
        go_wp2_with fail
        refine (MayWrite_any _ _ A1 A2 n1 c1 m c2 t l who k _ (hrt5.below hb56) hc1 (hrl5.below hb56) hc2 (hT5.below hb56)).mono ?_
        rintro e w7 ⟨rfl, hb7⟩
        rw [HMB.out trivial]
        go_wp2_with fail
        go_roundw
        case rel => exact ⟨k + 1, by omega, by go_num, hb56.trans (hb7.mono hb56.size)⟩
        case measure => simp [intOf]; omega
end Go.Proofs.YtkolhdlmpjehfaaDoor
