/- The walks of the laws FnLockPointOrder, FnLockPointOrderShort. -/
import Derived.Test.YtddpdcnbdbnljaaDoorLawStep
import Derived.Test.YtddpdcnbdbnljaaDoorLockP
import Derived.Test.YtddpdcnbdbnljaaDoorPlaceW
import Derived.Test.YtddpdcnbdbnljaaDoorAlongS
namespace Go.Proofs.YtddpdcnbdbnljaaDoor
open Go.RowKit

set_option maxRecDepth 100000 in
set_option maxHeartbeats 1600000 in
theorem lawLockPointOrder (A : Option Addr) (n c : Nat) (zs : List Int) (w : World) (hn : n ≤ 1048576) (hr : Rd cB 1 w 0 A n zs) (hc : n ≤ c) (hz : ∀ (k : Nat) (z : Int), zs[k]? = some z → 0 ≤ z ∧ z ≤ 255) (hT : Tb w) :
    Calls Tryd.prog 5 #[.slice A n c] w fun e w' => e = .returned (.bool true) ∧ Below w.heap.size w w' := by
  have hn' : (n : Int) ≤ 1048576 := by omega
  go_enter Tryd.func5, Tryd.ntmps5
  go_wp2_with fail
  refine (DrawLockPointOrder_any A n c zs _ hr hc hz).mono ?_
  rintro e w1 ⟨A1, n1, c1, list, rfl, hc1, hrl, hn1, hb1⟩
  have hT1 := hT.below hb1
  go_wp2_with fail
  refine (LockPointOrder_any _ A1 n1 c1 list _ hrl (by omega) hT1).mono ?_
  rintro e w2 ⟨v2, rfl, ho2, hb2⟩
  have hl2 : (lpoI list).length ≤ 17 := by
    unfold lpoI
    have := lpo_len list
    have := hrl.len
    split
    · omega
    · simp
  obtain ⟨A2, n2, c2, rfl, hc2, hr2⟩ := ho2.rdn elI.len (by omega)
  have hB2 := hb1.trans (hb2.mono hb1.size)
  have hrl2 := hrl.below hb2
  go_wp2_with fail
  refine (LockPointOrderS_any _ A1 n1 c1 list _ hrl2 (by omega)).mono ?_
  rintro e w3 ⟨v3, rfl, ho3, hb3⟩
  obtain ⟨A3, n3, c3, rfl, hc3, hr3⟩ := ho3.rdn elI.len (by omega)
  have hB3 := hB2.trans (hb3.mono hB2.size)
  go_wp2_with fail
  refine (equalInts_t _ _ A2 A3 n2 c2 n3 c3 _ _ (hr2.below hb3) hr3).mono ?_
  rintro e w4 ⟨rfl, hb4⟩
  have hB4 := hB3.trans (hb4.mono hB3.size)
  have hrl4 := (hrl2.below hb3).below hb4
  have hr24 := (hr2.below hb3).below hb4
  have hT4 := hT.below hB4
  have HVS := Lib.hid (ValidSteps_any _ A1 n1 c1 list _ hrl4 (by omega) hT4)
  clear ho2 ho3 hr3 hr2 hrl2 hrl hT1 hb1 hb2 hb3 hB2 hB3 hr hz
  by_cases hv : VS list
  case neg =>
    rw [vsB_f hv] at HVS
    clear hv
    go_wp2_with fail
    refine HVS.out.mono ?_
    rintro e w5 ⟨rfl, hb5⟩
    have hB5 := hB4.trans (hb5.mono hB4.size)
    go_wp2_with fail
    refine (LockPointOrderS_any _ A1 n1 c1 list _ (hrl4.below hb5) (by omega)).mono ?_
    rintro e w6 ⟨v6, rfl, ho6, hb6⟩
    obtain ⟨A6, n6, c6, rfl, hc6, hr6⟩ := ho6.rdn elI.len (by omega)
    have hB6 := hB5.trans (hb6.mono hB5.size)
    go_wp2_with fail
    refine (equalInts_t _ _ A2 A6 n2 c2 n6 c6 _ _ ((hr24.below hb5).below hb6) hr6).mono ?_
    rintro e w7 ⟨rfl, hb7⟩
    go_wp2_with fail
    go_ret
    exact ⟨rfl, hB6.trans (hb7.mono hB6.size)⟩
  rw [vsB_t hv] at HVS
  rw [lpoI_t hv] at hr24 hl2
  have HV := Lib.hid hv
  have HL := Lib.hid hrl4.len
  have HL2 := Lib.hid hr24.len
  have hn217 : n2 ≤ 17 := by have := HL2.out; omega
  clear hv hl2
  go_wp2_with fail
  refine HVS.out.mono ?_
  rintro e w5 ⟨rfl, hb5⟩
  have hB5 := hB4.trans (hb5.mono hB4.size)
  have hrl5 := hrl4.below hb5
  have hr25 := hr24.below hb5
  have hT5 := hT4.below hb5
  have HLP : Hid (∀ who w', Below w5.heap.size w5 w' → Calls Tryd.prog 28 #[.slice A1 n1 c1, .int .i64 who] w' fun e w'' => e = .returned (.int .i64 (lpF list who)) ∧ Below w'.heap.size w' w'') := fun who w' hb' => by
    have := LockPoint_any _ A1 n1 c1 list who w' (hrl5.below hb') (by omega) (hT5.below hb')
    rw [lpI_t HV.out] at this
    exact this
  clear hrl4 hr24 hb4 hb5 hB4 HVS hT4 hT5 hrl5
  go_wp2_with fail
  go_loopw [5] (fun i wr => ∃ k : Nat, 1 ≤ k ∧ i = .int .i64 k ∧ k ≤ n2 + 1 ∧ Below w5.heap.size w5 wr) (fun i _ => n2 + 1 - (intOf i).toNat)
  case atStart => exact ⟨1, Nat.le_refl _, rfl, by omega, Below.refl _ _⟩
  case round =>
    rename World => W1
    obtain ⟨k, hk1, rfl, hk, hbl⟩ := hrel
    have hs := hbl.size
    by_cases hlt : k < n2
    · obtain ⟨b, o, x, rfl, _, hb, hx, g0⟩ := (hr25.below hbl).atI hlt
      obtain ⟨b2, o2, y, hA, _, _, hy, d0⟩ := (hr25.below hbl).atI (k := k - 1) (by omega)
      injection hA with hA
      injection hA with e1 e2 _
      subst e1 e2
      have hlp : lpF list y < lpF list x := by
        have hp := List.pairwise_iff_getElem.1 (lpo_pair list) (k - 1) k (by have := HL2.out; omega) (by have := HL2.out; omega) (by omega)
        rw [(List.getElem?_eq_some_iff.1 hx).2, (List.getElem?_eq_some_iff.1 hy).2] at hp
        exact hp
      have HX := Lib.hid (fun w' hb' => HLP.out x w' hb')
      have HY := Lib.hid (fun w' hb' => HLP.out y w' hb')
      have hle : ¬ (lpF list x ≤ lpF list y) := by omega
      have hk2 : (k : Int) - 1 = ((k - 1 : Nat) : Int) := by omega
      have a0 := aft g0
      have b0 := aft d0
      generalize lpF list x = px at *
      generalize lpF list y = py at *
      clear hx hy
      have q0 : (0 : Int) ≤ (k : Int) - 1 := by omega
      have q1 : (k : Int) - 1 < (n2 : Int) := by omega
      have q2 : (k : Int) < (n2 : Int) := by omega
      have q3 : ((k : Int) - 1).toNat = k - 1 := by omega
      clear hk2
      go_wp2_with fail
      refine wp_region_after (by kernel_rfl) (by kernel_rfl) ?_
      repeat (go_big_quiet_step ((first | (go_at_call 28; with_reducible exact aft_call (HX.out _ (hbl.trans ((After.below _).mono hs)))) | (go_at_call 28; with_reducible exact aft_call (HY.out _ (hbl.trans ((After.below _).mono hs)))))))
      refine wpQuiet_nil ?_
      intro w7 hb7
      go_wp2_with fail
      go_roundw
      case rel => exact ⟨k + 1, by omega, by go_num, by omega, hbl.trans (hb7.mono hs)⟩
      case measure => simp [intOf]; omega
    go_wp2_with fail
    go_loopw [6] (fun i wr => ∃ j : Nat, j ≤ 4 ∧ i = .int .i64 j ∧ Below w5.heap.size w5 wr) (fun i _ => 4 - (intOf i).toNat)
    case atStart => exact ⟨0, Nat.zero_le _, rfl, hbl⟩
    case round =>
      rename World => W2
      clear hlt hk hk1
      obtain ⟨j, hj, rfl, hbl2⟩ := hrel
      by_cases hlt : j < 4
      case neg =>
        obtain rfl : j = 4 := by omega
        go_wp2_with fail
        go_ret
        exact ⟨rfl, hB5.trans (hbl2.mono hB5.size)⟩
      have hlt' : (j : Int) < 4 := by omega
      have HI := Lib.hid (isIn_any _ A2 n2 c2 _ (j : Int) W2 (hr25.below hbl2))
      have HLJ := Lib.hid (HLP.out (j : Int) W2 hbl2)
      have hm := lpo_mem (list := list) (t := (j : Int))
      by_cases h0 : 0 ≤ lpF list j
      · rw [decide_eq_true (hm.2 h0)] at HI
        generalize lpF list (j : Int) = pj at *
        clear hm
        go_wp2_with (first | (go_at_call 29; refine HI.out.mono ?_; rintro e w7 ⟨rfl, rfl⟩) | (go_at_call 28; refine HLJ.out.mono ?_; rintro e w8 ⟨rfl, hb8⟩))
        go_roundw
        case rel => exact ⟨j + 1, by omega, by go_num, hbl2.trans (hb8.mono hbl2.size)⟩
        case measure => simp [intOf]; omega
      · rw [decide_eq_false (fun h => h0 (hm.1 h))] at HI
        generalize lpF list (j : Int) = pj at *
        clear hm
        go_wp2_with (first | (go_at_call 29; refine HI.out.mono ?_; rintro e w7 ⟨rfl, rfl⟩) | (go_at_call 28; refine HLJ.out.mono ?_; rintro e w8 ⟨rfl, hb8⟩))
        go_roundw
        case rel => exact ⟨j + 1, by omega, by go_num, hbl2.trans (hb8.mono hbl2.size)⟩
        case measure => simp [intOf]; omega
set_option maxRecDepth 100000 in
set_option maxHeartbeats 3200000 in
theorem lawLockPointOrderShort (A : Option Addr) (n c : Nat) (zs : List Int) (w : World) (hn : n ≤ 1048576) (hr : Rd cB 1 w 0 A n zs) (hc : n ≤ c) (hz : ∀ (k : Nat) (z : Int), zs[k]? = some z → 0 ≤ z ∧ z ≤ 255) (hT : Tb w) :
    Calls Tryd.prog 4 #[.slice A n c] w fun e w' => e = .returned (.bool true) ∧ Below w.heap.size w w' := by
  have hn' : (n : Int) ≤ 1048576 := by omega
  go_enter Tryd.func4, Tryd.ntmps4
  go_wp2_with fail
  refine (DrawLockPointOrder_any A n c zs _ hr hc hz).mono ?_
  rintro e w1 ⟨A1, n1, c1, list, rfl, hc1, hrl, hn1, hb1⟩
  have hT1 := hT.below hb1
  go_wp2_with fail
  refine (LockPointOrder_any _ A1 n1 c1 list _ hrl (by omega) hT1).mono ?_
  rintro e w2 ⟨v2, rfl, ho2, hb2⟩
  have hl2 : (lpoI list).length ≤ 17 := by
    unfold lpoI
    have := lpo_len list
    have := hrl.len
    split
    · omega
    · simp
  obtain ⟨A2, n2, c2, rfl, hc2, hr2⟩ := ho2.rdn elI.len (by omega)
  have hB2 := hb1.trans (hb2.mono hb1.size)
  have hrl2 := hrl.below hb2
  go_wp2_with fail
  refine (LockPointOrderS_any _ A1 n1 c1 list _ hrl2 (by omega)).mono ?_
  rintro e w3 ⟨v3, rfl, ho3, hb3⟩
  obtain ⟨A3, n3, c3, rfl, hc3, hr3⟩ := ho3.rdn elI.len (by omega)
  have hB3 := hB2.trans (hb3.mono hB2.size)
  go_wp2_with fail
  refine (equalInts_t _ _ A2 A3 n2 c2 n3 c3 _ _ (hr2.below hb3) hr3).mono ?_
  rintro e w4 ⟨rfl, hb4⟩
  have hB4 := hB3.trans (hb4.mono hB3.size)
  have hrl4 := (hrl2.below hb3).below hb4
  have hr24 := (hr2.below hb3).below hb4
  have hT4 := hT.below hB4
  have HVS := Lib.hid (ValidSteps_any _ A1 n1 c1 list _ hrl4 (by omega) hT4)
  clear ho2 ho3 hr3 hr2 hrl2 hrl hT1 hb1 hb2 hb3 hB2 hB3 hr hz
  by_cases hv : VS list
  case neg =>
    rw [vsB_f hv] at HVS
    clear hv
    go_wp2_with fail
    refine HVS.out.mono ?_
    rintro e w5 ⟨rfl, hb5⟩
    have hB5 := hB4.trans (hb5.mono hB4.size)
    go_wp2_with fail
    refine (LockPointOrderS_any _ A1 n1 c1 list _ (hrl4.below hb5) (by omega)).mono ?_
    rintro e w6 ⟨v6, rfl, ho6, hb6⟩
    obtain ⟨A6, n6, c6, rfl, hc6, hr6⟩ := ho6.rdn elI.len (by omega)
    have hB6 := hB5.trans (hb6.mono hB5.size)
    go_wp2_with fail
    refine (equalInts_t _ _ A2 A6 n2 c2 n6 c6 _ _ ((hr24.below hb5).below hb6) hr6).mono ?_
    rintro e w7 ⟨rfl, hb7⟩
    go_wp2_with fail
    go_ret
    exact ⟨rfl, hB6.trans (hb7.mono hB6.size)⟩
  rw [vsB_t hv] at HVS
  rw [lpoI_t hv] at hr24 hl2
  have HV := Lib.hid hv
  have HL := Lib.hid hrl4.len
  have HL2 := Lib.hid hr24.len
  have hn217 : n2 ≤ 17 := by have := HL2.out; omega
  have HLI := Lib.hid (lpoI_t hv)
  clear hv hl2
  by_cases hn0 : n1 = 0
  case pos =>
    subst hn0
    go_wp2_with fail
    refine HVS.out.mono ?_
    rintro e w5 ⟨rfl, hb5⟩
    have hB5 := hB4.trans (hb5.mono hB4.size)
    go_wp2_with fail
    refine (LockPointOrderS_any _ A1 0 c1 list _ (hrl4.below hb5) (by omega)).mono ?_
    rintro e w6 ⟨v6, rfl, ho6, hb6⟩
    rw [HLI.out] at ho6
    obtain ⟨A6, n6, c6, rfl, hc6, hr6⟩ := ho6.rdn elI.len (by have := HL2.out; omega)
    have hB6 := hB5.trans (hb6.mono hB5.size)
    go_wp2_with fail
    refine (equalInts_t _ _ A2 A6 n2 c2 n6 c6 _ _ ((hr24.below hb5).below hb6) hr6).mono ?_
    rintro e w7 ⟨rfl, hb7⟩
    go_wp2_with fail
    go_ret
    exact ⟨rfl, hB6.trans (hb7.mono hB6.size)⟩
  obtain ⟨q, rfl⟩ : ∃ q, n1 = q + 1 := ⟨n1 - 1, by omega⟩
  have hq1 : (((q + 1 : Nat) : Int) == 0) = false := by simp; omega
  have hq2 : ((q + 1 : Nat) : Int) - 1 = (q : Int) := by omega
  go_wp2_with fail
  refine HVS.out.mono ?_
  rintro e w5 ⟨rfl, hb5⟩
  have hB5 := hB4.trans (hb5.mono hB4.size)
  have hrl5 := hrl4.below hb5
  have hr25 := hr24.below hb5
  have hT5 := hT4.below hb5
  obtain ⟨b, o, x, rfl, _, hb, hx, g0, g1, g2, g3⟩ := hrl5.atS (k := q) (by omega)
  have hsplit : list = list.take q ++ [x] := by
    have := take_snoc hx
    rw [List.take_of_length_le (by have := HL.out; omega)] at this
    exact this
  have hsn := lpo_snoc (list.take q) x
  rw [← hsplit] at hsn
  have HSN := Lib.hid hsn
  have HVI := Lib.hid (HV.out.take q)
  have hl5 := hrl5.take (k := q) (by omega)
  have HLO : Hid (∀ w', Below w5.heap.size w5 w' → Calls Tryd.prog 25 #[.slice (some ⟨b, o, none⟩) q c1] w' (IntsP w' (lpoF (list.take q)))) := fun w' hb' => by
    have := LockPointOrder_any _ (some ⟨b, o, none⟩) q c1 (list.take q) w' (hl5.below hb') (by omega) (hT5.below hb')
    rw [lpoI_t HVI.out] at this
    exact this
  have hlq : (lpoF (list.take q)).length ≤ 16 := by
    refine Nat.le_trans (lpo_len _) ?_
    rw [List.length_take]; omega
  obtain ⟨xw, xf, xn, xm⟩ := x
  simp only at g0 g1 g2 g3 HSN
  generalize lpoF list = L1 at *
  generalize lpoF (list.take q) = L2 at *
  clear hx hsplit hsn hrl4 hr24 hb4 hB4 HVS hT4 hn0 hl5 HVI HLI hrl5 hT5
  have hbA := (Below.refl w5.heap.size w5).alloc (Nat.le_refl _) (.cells #[.int .i64 xw, .bool xf, .int .i64 xn, .int .i64 xm] 30)
  have hrA := hr25.alloc (.cells #[.int .i64 xw, .bool xf, .int .i64 xn, .int .i64 xm] 30)
  have HLO2 := Lib.hid (HLO.out _ hbA)
  go_wp2_with fail
  refine HLO2.out.mono ?_
  rintro e w6 ⟨v6, rfl, ho6, hb6⟩
  have hB6 := hbA.trans (hb6.mono hbA.size)
  obtain ⟨A6, n6, c6, rfl, hc6, hr6⟩ := ho6.rdn elI.len (by omega)
  have HL6 := Lib.hid hr6.len
  have hn616 : n6 ≤ 16 := by have := HL6.out; omega
  have hr26 := hrA.below hb6
  have d0 : w6.cell? ⟨w5.heap.size, 0, none⟩ = some (.int .i64 xw) := (hb6.cell (by simp)).trans (cell_newg w5 _ _ _ rfl 0 _ rfl)
  have d1 : w6.cell? ⟨w5.heap.size, 1, none⟩ = some (.bool xf) := (hb6.cell (by simp)).trans (cell_newg w5 _ _ _ rfl 1 _ rfl)
  have h56 : w5.heap.size < w6.heap.size := by have := hb6.size; simp at this; omega
  clear hb6 ho6 hbA hrA HLO HLO2 g0 g1 g2 g3
  go_wp2_with fail
  go_loopw [7, 9] (fun v i wr => ∃ k : Nat, k ≤ n2 ∧ i = .int .i64 k ∧ Below w6.heap.size w6 wr ∧ Own cI 1 3 wr w6.heap.size v ((L1.take k).filter (fun t => decide (t ≠ xw))) ∧ Own cI 1 3 wr w6.heap.size (.slice (some ⟨w6.heap.size + 1, 0, none⟩) 0 0) ([] : List Int) ∧ ((Value.slice (some ⟨w6.heap.size + 1, 0, none⟩) 0 0).ownBlock = none ∨ (Value.slice (some ⟨w6.heap.size + 1, 0, none⟩) 0 0).ownBlock ≠ v.ownBlock)) (fun _ i _ => n2 - (intOf i).toNat)
  case atStart =>
    refine ⟨0, Nat.zero_le _, rfl, ((Below.refl _ _).alloc (Nat.le_refl _) _).alloc (by simp) _, (Own.empty w6 elI.len).alloc _, (Own.emptyg (w6.alloc (.cells #[] 3)) elI.len (w6.heap.size + 1) (by simp)).low (by omega), ?_⟩
    exact .inr (by simp [Value.ownBlock])
  case round =>
    rename World => W1
    obtain ⟨k, hk, rfl, hbl, ho, hob, hap⟩ := hrel
    have hs := hbl.size
    by_cases hlt : k < n2
    case neg =>
      rw [List.take_of_length_le (by have := HL2.out; omega)] at ho
      have hfl : (L1.filter (fun t => decide (t ≠ xw))).length ≤ 17 := by
        refine Nat.le_trans (List.length_filter_le _ _) ?_
        have := HL2.out; omega
      obtain ⟨A7, n7, c7, rfl, hc7, _⟩ := ho.rdn elI.len (by omega)
      have hap' := apart_symm hap
      clear hap
      go_wp2_with fail
      go_loopw [8, 10] (fun vb i wr => ∃ j : Nat, j ≤ n6 ∧ i = .int .i64 j ∧ Below w6.heap.size w6 wr ∧ Own cI 1 3 wr w6.heap.size vb ((L2.take j).filter (fun t => decide (t ≠ xw))) ∧ Own cI 1 3 wr w6.heap.size (.slice A7 n7 c7) (L1.filter (fun t => decide (t ≠ xw))) ∧ ((Value.slice A7 n7 c7).ownBlock = none ∨ (Value.slice A7 n7 c7).ownBlock ≠ vb.ownBlock)) (fun _ i _ => n6 - (intOf i).toNat)
      case atStart => exact ⟨0, Nat.zero_le _, rfl, hbl, hob, ho, hap'⟩
      case round =>
        rename World => W2
        clear ho hob hap' hlt hk
        obtain ⟨j, hj, rfl, hbl2, ho, hob, hap⟩ := hrel
        have hs2 := hbl2.size
        by_cases hlt2 : j < n6
        case neg =>
          rw [List.take_of_length_le (by have := HL6.out; omega)] at ho
          have hfe : L1.filter (fun t => decide (t ≠ xw)) = L2.filter (fun t => decide (t ≠ xw)) := by
            have := HSN.out
            cases xf with
            | true => rw [if_pos rfl] at this; rw [this]
            | false =>
              rw [if_neg (by simp)] at this
              rw [this, List.filter_append, List.filter_filter]
              simp
          have hfl2 : (L2.filter (fun t => decide (t ≠ xw))).length ≤ 17 := by rw [← hfe]; exact hfl
          obtain ⟨A8, n8, c8, rfl, hc8, hr8⟩ := ho.rdn elI.len (by omega)
          have hr7 := (hob.rds elI.len (by omega)).2
          rw [hfe] at hr7
          have HEQ : Hid (∀ w', Below W2.heap.size W2 w' → Calls Tryd.prog 26 #[.slice A7 n7 c7, .slice A8 n8 c8] w' fun e w'' => e = .returned (.bool true) ∧ Below w'.heap.size w' w'') := fun w' hb' => equalInts_t _ _ A7 A8 n7 c7 n8 c8 _ _ (hr7.below hb') (hr8.below hb')
          have c0 := (hbl2.cell h56).trans d0
          have c1 := (hbl2.cell h56).trans d1
          have a0 := aft c0
          have a1 := aft c1
          have hB := hB5.trans (((hB6.trans (hbl2.mono hB6.size))).mono hB5.size)
          cases xf with
          | true =>
            clear HSN hfe hr7 hr8 hob ho hap
            go_wp2_with fail
            refine wp_region_after (by kernel_rfl) (by kernel_rfl) ?_
            repeat (go_big_quiet_step ((go_at_call 26; with_reducible exact aft_call (HEQ.out _ (After.below _)))))
            refine wpQuiet_nil ?_
            intro w7 hb7
            go_wp2_with fail
            go_ret
            exact ⟨rfl, hB.trans (hb7.mono hB.size)⟩
          | false =>
            have hs1 := HSN.out
            rw [if_neg (by simp)] at hs1
            have hlast : L1[n2 - 1]? = some xw ∧ 1 ≤ n2 := by
              have hl := HL2.out
              rw [hs1, List.length_append, List.length_singleton] at hl
              rw [hs1]
              exact ⟨by rw [List.getElem?_append_right (by omega), show n2 - 1 - (L2.filter (fun t => decide (t ≠ xw))).length = 0 by omega]; rfl, by omega⟩
            obtain ⟨hx1, hn1⟩ := hlast
            obtain ⟨b3, o3, z3, rfl, _, hb3, hz3, p3⟩ := (hr26.below hbl2).atI (k := n2 - 1) (by omega)
            rw [hx1] at hz3
            injection hz3 with hz3
            subst hz3
            have a3 := aft p3
            have q0 : (0 : Int) ≤ (n2 : Int) - 1 := by omega
            have q1 : (n2 : Int) - 1 < (n2 : Int) := by omega
            have q2 : (0 : Int) < (n2 : Int) := by omega
            have q3 : ((n2 : Int) - 1).toNat = n2 - 1 := by omega
            have q4 : 0 < n2 := hn1
            clear HSN hfe hr7 hr8 hob ho hap hs1 hx1
            go_wp2_with fail
            refine wp_region_after (by kernel_rfl) (by kernel_rfl) ?_
            repeat (go_big_quiet_step ((go_at_call 26; with_reducible exact aft_call (HEQ.out _ (After.below _)))))
            refine wpQuiet_nil ?_
            intro w7 hb7
            go_wp2_with fail
            go_ret
            exact ⟨rfl, hB.trans (hb7.mono hB.size)⟩
        obtain ⟨b2, o2, z, rfl, _, hb2, hz, p0⟩ := (hr6.below hbl2).atI hlt2
        have hpl : ((L2.take j).filter (fun t => decide (t ≠ xw))).length ≤ 17 := by
          refine Nat.le_trans (List.length_filter_le _ _) ?_
          rw [List.length_take]; omega
        have hts : (L2.take (j + 1)).filter (fun t => decide (t ≠ xw)) = (L2.take j).filter (fun t => decide (t ≠ xw)) ++ (if z = xw then [] else [z]) := by
          rw [take_snoc hz, List.filter_append]
          by_cases e : z = xw <;> simp [e]
        generalize (L2.take j).filter (fun t => decide (t ≠ xw)) = P at *
        have c0 := (hbl2.cell h56).trans d0
        have a0 := aft p0
        have a1 := aft c0
        have q2 : (j : Int) < (n6 : Int) := by omega
        clear hz
        by_cases e1 : z = xw
        · rw [if_pos e1, List.append_nil] at hts
          have HT := Lib.hid hts
          have e2 : (z != xw) = false := by simpa using e1
          clear hts e1
          go_wp2_with fail
          refine wp_region_after (by kernel_rfl) (by kernel_rfl) ?_
          repeat (go_big_quiet_step (fail))
          refine wpQuiet_nil ?_
          intro w7 hb7
          go_wp2_with fail
          go_roundw
          case rel => exact ⟨j + 1, by omega, by go_num, hbl2.trans (hb7.mono hs2), by rw [HT.out]; exact ho.below hb7, hob.below hb7, hap⟩
          case measure => simp [intOf]; omega
        · rw [if_neg e1] at hts
          have HT := Lib.hid hts
          have e2 : (z != xw) = true := by simpa using e1
          clear hts e1
          go_wp2_with fail
          refine wp_region_after (by kernel_rfl) (by kernel_rfl) ?_
          repeat (go_big_quiet_step (fail))
          refine wpQuiet_nil ?_
          intro w7 hb7
          have hB7 := hbl2.trans (hb7.mono hs2)
          have hs7 := hB7.size
          have ho7 := ho.below hb7
          have p7 := (hb7.cell (World.block_lt_of_cell? _ _ p0)).trans p0
          go_wp2_with (at_builtin; refine wpList_append_rd elI _ rfl (.tmp 84) (.tmp 89) rfl rfl (ho7.alloc _) rfl (Rd_one w7 #[.int .i64 z] 3 z rfl) (by omega) (by simp; omega) ?_; intro v8 w8 ho8 hg8 hx8)
          have hB8 := below_own (hB7.alloc hs7 _) (ho7.alloc (.cells #[.int .i64 z] 3)) hg8 (Nat.le_refl _) (by simp; omega)
          have hob7 := (hob.below hb7).alloc (.cells #[.int .i64 z] 3)
          go_roundw
          case rel => exact ⟨j + 1, by omega, by go_num, hB8, by rw [HT.out]; exact ho8, hob7.grown' hg8 hap, Own.apart_next hob7 hx8 (Nat.le_refl _) hap⟩
          case measure => simp [intOf]; omega
    obtain ⟨b2, o2, z, rfl, _, hb2, hz, p0⟩ := (hr26.below hbl).atI hlt
    have hpl : ((L1.take k).filter (fun t => decide (t ≠ xw))).length ≤ 17 := by
      refine Nat.le_trans (List.length_filter_le _ _) ?_
      rw [List.length_take]; omega
    have hts : (L1.take (k + 1)).filter (fun t => decide (t ≠ xw)) = (L1.take k).filter (fun t => decide (t ≠ xw)) ++ (if z = xw then [] else [z]) := by
      rw [take_snoc hz, List.filter_append]
      by_cases e : z = xw <;> simp [e]
    generalize (L1.take k).filter (fun t => decide (t ≠ xw)) = P at *
    have c0 := (hbl.cell h56).trans d0
    have a0 := aft p0
    have a1 := aft c0
    have q2 : (k : Int) < (n2 : Int) := by omega
    clear hz
    by_cases e1 : z = xw
    · rw [if_pos e1, List.append_nil] at hts
      have HT := Lib.hid hts
      have e2 : (z != xw) = false := by simpa using e1
      clear hts e1
      go_wp2_with fail
      refine wp_region_after (by kernel_rfl) (by kernel_rfl) ?_
      repeat (go_big_quiet_step (fail))
      refine wpQuiet_nil ?_
      intro w7 hb7
      go_wp2_with fail
      go_roundw
      case rel => exact ⟨k + 1, by omega, by go_num, hbl.trans (hb7.mono hs), by rw [HT.out]; exact ho.below hb7, hob.below hb7, hap⟩
      case measure => simp [intOf]; omega
    · rw [if_neg e1] at hts
      have HT := Lib.hid hts
      have e2 : (z != xw) = true := by simpa using e1
      clear hts e1
      go_wp2_with fail
      refine wp_region_after (by kernel_rfl) (by kernel_rfl) ?_
      repeat (go_big_quiet_step (fail))
      refine wpQuiet_nil ?_
      intro w7 hb7
      have hB7 := hbl.trans (hb7.mono hs)
      have hs7 := hB7.size
      have ho7 := ho.below hb7
      have p7 := (hb7.cell (World.block_lt_of_cell? _ _ p0)).trans p0
      go_wp2_with (at_builtin; refine wpList_append_rd elI _ rfl (.tmp 64) (.tmp 69) rfl rfl (ho7.alloc _) rfl (Rd_one w7 #[.int .i64 z] 3 z rfl) (by omega) (by simp; omega) ?_; intro v8 w8 ho8 hg8 hx8)
      have hB8 := below_own (hB7.alloc hs7 _) (ho7.alloc (.cells #[.int .i64 z] 3)) hg8 (Nat.le_refl _) (by simp; omega)
      have hob7 := (hob.below hb7).alloc (.cells #[.int .i64 z] 3)
      go_roundw
      case rel => exact ⟨k + 1, by omega, by go_num, hB8, by rw [HT.out]; exact ho8, hob7.grown' hg8 hap, Own.apart_next hob7 hx8 (Nat.le_refl _) hap⟩
      case measure => simp [intOf]; omega
end Go.Proofs.YtddpdcnbdbnljaaDoor
