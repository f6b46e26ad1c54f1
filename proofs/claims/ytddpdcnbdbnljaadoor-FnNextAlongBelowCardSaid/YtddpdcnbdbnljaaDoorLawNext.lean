/- The walk over NextAlong of the program; the walks of the laws FnNextAlong, FnNextAlongFirst, FnNextAlongBelow. -/
import Derived.Test.YtddpdcnbdbnljaaDoorDrawAlong2
import Derived.Test.YtddpdcnbdbnljaaDoorEqInts
import Derived.Test.YtddpdcnbdbnljaaDoorLockW
import Derived.Deep.RegionLaw
namespace Go.Proofs.YtddpdcnbdbnljaaDoor
open Go.RowKit

set_option maxRecDepth 100000 in
set_option maxHeartbeats 3200000 in
theorem NextAlong_any (lo lo2 : Nat) (A A2 : Option Addr) (n c m c2 : Nat) (t : List Nd) (list : List St) (who : Int) (w : World) (hr : Rd cN 3 w lo A n t) (hc : n ≤ c) (hr2 : Rd cS 4 w lo2 A2 m list) (hm : m ≤ 1000000) (hT : Tb w) :
    Calls Tryd.prog 42 #[.slice A n c, .slice A2 m c2, .int .i64 who] w (IntsP w (naI t list who)) := by
  have HL := Lib.hid hr.len
  have HL2 := Lib.hid hr2.len
  have HTA := Lib.hid (TableAfter_any lo2 A2 m c2 list w hr2 hm hT)
  by_cases h2 : VS list
  case neg =>
    rw [naI_no fun h => h2 h.2.1]
    rw [nVS h2] at HTA
    clear h2
    go_enter Tryd.func42, Tryd.ntmps42
    go_wp2_with fail
    refine HTA.out.mono ?_
    rintro e w3 ⟨rfl, hb3⟩
    go_wp2_with fail
    go_ret
    exact ⟨_, rfl, Own.nil _ _, hb3⟩
  obtain ⟨mm, hmm⟩ := h2.ex
  have hvm := tabF_VTb hmm
  rw [hmm] at HTA
  have HVT : Hid (∀ w', Below w.heap.size w w' → Calls Tryd.prog 37 #[.slice A n c] w' fun e w'' => e = .returned (.bool (vt t)) ∧ Below w'.heap.size w' w'') := fun w' hb' => ValidTree_any lo A n c t w' (hr.below hb') hc
  by_cases h1 : VT t
  case neg =>
    rw [naI_no fun h => h1 h.1]
    rw [vt_false h1] at HVT
    clear h1 h2 hmm hvm
    go_enter Tryd.func42, Tryd.ntmps42
    go_wp2_with fail
    refine HTA.out.mono ?_
    rintro e w3 ⟨v3, rfl, _, hb3⟩
    have HVT3 := Lib.hid (HVT.out w3 hb3)
    go_wp2_with fail
    refine HVT3.out.mono ?_
    rintro e w4 ⟨rfl, hb4⟩
    go_wp2_with fail
    go_ret
    exact ⟨_, rfl, Own.nil _ _, hb3.trans (hb4.mono hb3.size)⟩
  rw [vt_true h1] at HVT
  by_cases h3 : 0 ≤ who ∧ who ≤ 3
  case neg =>
    rw [naI_no fun h => h3 h.2.2.1]
    have HI : Hid (∀ w', Calls Tryd.prog 51 #[.int .i64 who, .int .i64 0, .int .i64 3] w' fun e w'' => e = .returned (.bool false) ∧ w' = w'') := fun w' => within_f who 0 3 w' (by omega)
    clear h1 h2 h3 hmm hvm
    go_enter Tryd.func42, Tryd.ntmps42
    go_wp2_with fail
    refine HTA.out.mono ?_
    rintro e w3 ⟨v3, rfl, _, hb3⟩
    have HVT3 := Lib.hid (HVT.out w3 hb3)
    go_wp2_with fail
    refine HVT3.out.mono ?_
    rintro e w4 ⟨rfl, hb4⟩
    go_wp2_with fail
    refine (HI.out _).mono ?_
    rintro e w5 ⟨rfl, rfl⟩
    go_wp2_with fail
    go_ret
    exact ⟨_, rfl, Own.nil _ _, hb3.trans (hb4.mono hb3.size)⟩
  have HI : Hid (∀ w', Calls Tryd.prog 51 #[.int .i64 who, .int .i64 0, .int .i64 3] w' fun e w'' => e = .returned (.bool true) ∧ w' = w'') := fun w' => within_t who 0 3 w' h3.1 h3.2
  have HA : Hid (∀ w', Below w.heap.size w w' → Calls Tryd.prog 35 #[.slice A n c, .slice A2 m c2, .int .i64 who] w' fun e w'' => e = .returned (.int .i64 (alF t list who)) ∧ Below w'.heap.size w' w'') := fun w' hb' => by
    have := AlongFault_any lo lo2 A A2 n c m c2 t list who w' (hr.below hb') hc (hr2.below hb') hm (hT.below hb')
    rw [alI_yes h1 h2] at this
    exact this
  have hge := (alF_lt (t := t) (list := list) (who := who)).1
  have hm16 : m ≤ 16 := by have := h2.len; have := HL2.out; omega
  by_cases h4 : alF t list who = -1
  case neg =>
    rw [naI_no fun h => h4 h.2.2.2]
    generalize alF t list who = q at *
    have hq' : 0 ≤ q := by omega
    clear h1 h2 h3 h4 hge hmm hvm
    go_enter Tryd.func42, Tryd.ntmps42
    go_wp2_with fail
    refine HTA.out.mono ?_
    rintro e w3 ⟨v3, rfl, _, hb3⟩
    have HVT3 := Lib.hid (HVT.out w3 hb3)
    go_wp2_with fail
    refine HVT3.out.mono ?_
    rintro e w4 ⟨rfl, hb4⟩
    have hB4 := hb3.trans (hb4.mono hb3.size)
    have HA4 := Lib.hid (HA.out w4 hB4)
    go_wp2_with fail
    refine (HI.out _).mono ?_
    rintro e w5 ⟨rfl, rfl⟩
    go_wp2_with fail
    refine HA4.out.mono ?_
    rintro e w6 ⟨rfl, hb6⟩
    go_wp2_with fail
    go_ret
    exact ⟨_, rfl, Own.nil _ _, hB4.trans (hb6.mono hB4.size)⟩
  have hNA : NA t list who := ⟨h1, h2, h3, h4⟩
  rw [naI_yes hNA hmm]
  rw [h4] at HA
  have hw0 := h3.1
  have hw3 := h3.2
  have HVM := Lib.hid hvm
  have hn12 : n ≤ 12 := by have := h1.2.1; have := HL.out; omega
  generalize hR : naF t mm (hadF list who) who = R
  have HR := Lib.hid hR
  clear h1 h2 h3 h4 hge hNA hmm hvm hR
  go_enter Tryd.func42, Tryd.ntmps42
  go_wp2_with fail
  refine HTA.out.mono ?_
  rintro e w3 ⟨v3, rfl, ho3, hb3⟩
  obtain ⟨A7, n7, c7, rfl, hc7, _⟩ := ho3.rdn elL.len (by have := HVM.out.1; omega)
  have HVT3 := Lib.hid (HVT.out w3 hb3)
  go_wp2_with fail
  refine HVT3.out.mono ?_
  rintro e w4 ⟨rfl, hb4⟩
  have hB4 := hb3.trans (hb4.mono hb3.size)
  have HA4 := Lib.hid (HA.out w4 hB4)
  have ho4 := ho3.below hb4
  go_wp2_with fail
  refine (HI.out _).mono ?_
  rintro e w5 ⟨rfl, rfl⟩
  go_wp2_with fail
  refine HA4.out.mono ?_
  rintro e w6 ⟨rfl, hb6⟩
  have hB6 := hB4.trans (hb6.mono hB4.size)
  have ho6 := ho4.below hb6
  clear HTA HVT HVT3 HA HA4 ho3 ho4 hb3 hb4 hb6 hB4
  go_wp2_with fail
  go_loopw [9, 40] (fun v i wr => ∃ k : Nat, k ≤ m ∧ i = .int .i64 k ∧ Below w.heap.size w wr ∧ Own cI 1 3 wr w.heap.size v (hadF (list.take k) who) ∧ Own cL 3 62 wr w.heap.size (.slice A7 n7 c7) mm) (fun _ i _ => m - (intOf i).toNat)
  case atStart => exact ⟨0, Nat.zero_le _, rfl, hB6, Own.nil _ _, ho6⟩
  case round =>
    rename World => W1
    obtain ⟨k, hk, rfl, hbl, ho, hot⟩ := hrel
    have hs := hbl.size
    by_cases hlt : k < m
    case neg =>
      rw [List.take_of_length_le (by have := HL2.out; omega)] at ho
      have hHl : (hadF list who).length ≤ 16 := by have := had_len list who; have := HL2.out; omega
      obtain ⟨A9, n9, c9, rfl, hc9, _⟩ := ho.rdn elI.len (by omega)
      go_wp2_with fail
      go_loopw [12, 61] (fun v i wr => ∃ j : Nat, j ≤ n ∧ i = .int .i64 j ∧ Below w.heap.size w wr ∧ Own cI 1 3 wr w.heap.size v (naT t mm (hadF list who) who j) ∧ Own cL 3 62 wr w.heap.size (.slice A7 n7 c7) mm ∧ Own cI 1 3 wr w.heap.size (.slice A9 n9 c9) (hadF list who) ∧
        ((Value.slice A9 n9 c9).ownBlock = none ∨ (Value.slice A9 n9 c9).ownBlock ≠ v.ownBlock)) (fun _ i _ => n - (intOf i).toNat)
      case atStart =>
        refine ⟨0, Nat.zero_le _, rfl, hbl, Own.nil _ _, hot, ho, ?_⟩
        cases (Value.slice A9 n9 c9).ownBlock with
        | none => exact .inl rfl
        | some _ => exact .inr (by simp [Value.ownBlock])
      case round =>
        rename World => W2
        clear ho hot
        obtain ⟨j, hj, rfl, hbl2, ho, hot, hoh, hap⟩ := hrel
        have hs2 := hbl2.size
        by_cases hlt2 : j < n
        case neg =>
          have hq : naT t mm (hadF list who) who j = R := by rw [show j = n by omega, ← HL.out, naT_all, HR.out]
          rw [hq] at ho
          clear hq
          go_wp2_with fail
          go_ret
          exact ⟨_, rfl, ho, hbl2⟩
        have hPl := naT_len t mm (hadF list who) who j
        have HT1 := Lib.hid (naT_t (t := t) (m := mm) (had := hadF list who) (who := who) (k := j))
        have HF1 := Lib.hid (naT_f (t := t) (m := mm) (had := hadF list who) (who := who) (k := j))
        generalize naT t mm (hadF list who) who j = P at *
        have hrt2 := (hot.rds elL.len (by have := HVM.out.1; omega)).2
        have hrh2 := (hoh.rds elI.len (by omega)).2
        have HGO := Lib.hid (goesOn_any _ _ _ A A7 A9 n c n7 c7 n9 c9 t mm (hadF list who) who (j : Int) W2 (hr.below hbl2) hrt2 hrh2 HVM.out)
        have hT2 := hT.below hbl2
        by_cases hg : Goes t mm (hadF list who) who j
        case neg =>
          have HF2 := Lib.hid (HF1.out fun h => hg h.1)
          rw [goB_f hg] at HGO
          clear hg HT1 HF1
          go_wp2_with fail
          refine HGO.out.mono ?_
          rintro e w8 ⟨rfl, hb8⟩
          go_wp2_with fail
          go_roundw
          case rel => exact ⟨j + 1, by omega, by go_num, hbl2.trans (hb8.mono hs2), by rw [HF2.out]; exact ho.below hb8, hot.below hb8, hoh.below hb8, hap⟩
          case measure => simp [intOf]; omega
        rw [goB_t hg] at HGO
        have HG := Lib.hid hg
        clear hg
        go_wp2_with fail
        refine HGO.out.mono ?_
        rintro e w8 ⟨rfl, hb8⟩
        have hB8 := hbl2.trans (hb8.mono hs2)
        have hs8 := hB8.size
        have HBK := Lib.hid (LockBlockers_any _ A7 n7 c7 mm who (j : Int) 5 w8 (hrt2.below hb8) hc7 (hT2.below hb8))
        have hlb : lbF mm who (j : Int) 5 = blkF mm who (j : Int) 5 := by
          rw [lbF_yes HVM.out ⟨⟨hw0, hw3⟩, ⟨by omega, by omega⟩, by omega, by omega⟩, all6 (p := fun h => joinF h 5 = 5) (by decide) _ (heldF_isM HVM.out _ _)]
        rw [hlb] at HBK
        have hbl4 := blkF_len mm who (j : Int) 5
        have ho8 := ho.below hb8
        have hot8 := hot.below hb8
        have hoh8 := hoh.below hb8
        clear HGO hlb ho hot hoh hrt2 hrh2
        go_wp2_with fail
        refine HBK.out.mono ?_
        rintro e w11 ⟨v11, rfl, ho11, hb11⟩
        obtain ⟨A11, n11, c11, rfl, hc11, hr11⟩ := ho11.rdn elI.len (by omega)
        have HL11 := Lib.hid hr11.len
        have hB11 := hB8.trans (hb11.mono hs8)
        have hs11 := hB11.size
        have ho11' := ho8.below hb11
        have hot11 := hot8.below hb11
        have hoh11 := hoh8.below hb11
        clear ho11 hr11 hbl4 ho8 hot8 hoh8 hb11 hb8
        by_cases hbk : n11 = 0
        · subst hbk
          have HT2 := Lib.hid (HT1.out ⟨HG.out, List.eq_nil_of_length_eq_zero HL11.out⟩)
          clear HT1 HF1
          go_wp2_with (at_builtin; refine wpList_append_rd elI _ rfl (.tmp 78) (.tmp 80) rfl rfl (ho11'.alloc _) rfl (Rd_one w11 #[.int .i64 j] 3 (j : Int) rfl) (by omega) (by simp; omega) ?_; intro v12 w12 ho12 hg12 hx12)
          have hb12 := below_own (hB11.alloc hs11 _) (ho11'.alloc (.cells #[.int .i64 j] 3)) hg12 (Nat.le_refl _) (by simp; omega)
          have hot12 := (hot11.alloc (.cells #[.int .i64 j] 3)).grown' hg12 (Own.apart (hot11.alloc (.cells #[.int .i64 j] 3)) (ho11'.alloc (.cells #[.int .i64 j] 3)) (by decide))
          have hohA := hoh11.alloc (.cells #[.int .i64 j] 3)
          go_roundw
          case rel => exact ⟨j + 1, by omega, by go_num, hb12, by rw [HT2.out]; exact ho12, hot12, hohA.grown' hg12 hap, Own.apart_next hohA hx12 (Nat.le_refl _) hap⟩
          case measure => simp [intOf]; omega
        · have HF2 := Lib.hid (HF1.out fun h => hbk (by have h1 := HL11.out; rw [h.2] at h1; exact h1.symm))
          have hbk' : ((n11 : Int) == 0) = false := by simp; omega
          clear HT1 HF1
          go_wp2_with fail
          go_roundw
          case rel => exact ⟨j + 1, by omega, by go_num, hB11, by rw [HF2.out]; exact ho11', hot11, hoh11, hap⟩
          case measure => simp [intOf]; omega
    obtain ⟨b, o, x, rfl, _, hb, hx, g0, g1, g2, g3⟩ := (hr2.below hbl).atS hlt
    have HSN := Lib.hid (had_snoc hx who)
    have hHl : (hadF (list.take k) who).length ≤ 16 := by
      have := had_len (list.take k) who
      rw [List.length_take] at this; omega
    generalize hadF (list.take k) who = P at *
    have hbA := hbl.alloc hs (.cells #[.int .i64 x.who, .bool x.free, .int .i64 x.node, .int .i64 x.mode] 30)
    have hsA := hbA.size
    have hoA := ho.alloc (.cells #[.int .i64 x.who, .bool x.free, .int .i64 x.node, .int .i64 x.mode] 30)
    have hotA := hot.alloc (.cells #[.int .i64 x.who, .bool x.free, .int .i64 x.node, .int .i64 x.mode] 30)
    obtain ⟨xw, xf, xn, xm⟩ := x
    simp only at g0 g1 g2 g3
    clear hx ho hot
    by_cases e1 : xw = who
    case neg =>
      have HS : Hid (hadF (list.take (k + 1)) who = P) := by rw [HSN.out, if_neg fun h => e1 h.1, List.append_nil]; exact Lib.hid rfl
      have e2 : (xw == who) = false := by simpa using e1
      clear HSN e1
      go_wp2_with fail
      go_roundw
      case rel => exact ⟨k + 1, by omega, by go_num, hbA, by rw [HS.out]; exact hoA, hotA⟩
      case measure => simp [intOf]; omega
    subst e1
    cases xf with
    | true =>
      have HS : Hid (hadF (list.take (k + 1)) xw = P) := by rw [HSN.out, if_neg (fun h => by cases h.2), List.append_nil]; exact Lib.hid rfl
      clear HSN
      go_wp2_with fail
      go_roundw
      case rel => exact ⟨k + 1, by omega, by go_num, hbA, by rw [HS.out]; exact hoA, hotA⟩
      case measure => simp [intOf]; omega
    | false =>
      have HS : Hid (hadF (list.take (k + 1)) xw = P ++ [xn]) := by rw [HSN.out, if_pos ⟨rfl, rfl⟩]; exact Lib.hid rfl
      clear HSN
      go_wp2_with (at_builtin; refine wpList_append_rd elI _ rfl (.tmp 53) (.tmp 56) rfl rfl (hoA.alloc _) rfl (Rd_oneg (W1.alloc (.cells #[.int .i64 xw, .bool false, .int .i64 xn, .int .i64 xm] 30)) #[.int .i64 xn] 3 xn rfl (W1.heap.size + 1) (by simp)) (by omega) (by simp; omega) ?_; intro v5 w5 ho5 hg5 _)
      have hb5 := below_own (hbA.alloc hsA _) (hoA.alloc (.cells #[.int .i64 xn] 3)) hg5 (Nat.le_refl _) (by simp; omega)
      have hot5 := (hotA.alloc (.cells #[.int .i64 xn] 3)).grown' hg5 (Own.apart (hotA.alloc (.cells #[.int .i64 xn] 3)) (hoA.alloc (.cells #[.int .i64 xn] 3)) (by decide))
      go_roundw
      case rel => exact ⟨k + 1, by omega, by go_num, hb5, by rw [HS.out]; exact ho5, hot5⟩
      case measure => simp [intOf]; omega
set_option maxRecDepth 100000 in
set_option maxHeartbeats 3200000 in
theorem lawNextAlongFirst (A : Option Addr) (n c : Nat) (zs : List Int) (w : World) (hn : n ≤ 1048576) (hr : Rd cB 1 w 0 A n zs) (hc : n ≤ c) (hz : ∀ (k : Nat) (z : Int), zs[k]? = some z → 0 ≤ z ∧ z ≤ 255) (hT : Tb w) :
    Calls Tryd.prog 14 #[.slice A n c] w fun e w' => e = .returned (.bool true) ∧ Below w.heap.size w w' := by
  have hn' : (n : Int) ≤ 1048576 := by omega
  go_enter Tryd.func14, Tryd.ntmps14
  go_wp2_with fail
  refine (DrawNextAlong_any A n c zs _ hr hc hz).mono ?_
  rintro e w1 ⟨A1, n1, c1, t, A2, m, c2, list, who, rfl, hc1, hrt, hn1, hzt, hc2, hrl, hm, hw0, hw3, hb1⟩
  have hT1 := hT.below hb1
  have HL := Lib.hid hrl.len
  have HLT := Lib.hid hrt.len
  have HN1 : Hid (∀ w', Below w1.heap.size w1 w' → Calls Tryd.prog 42 #[.slice A1 n1 c1, .slice A2 m c2, .int .i64 who] w' (IntsP w' (naI t list who))) := fun w' hb' =>
    NextAlong_any _ _ A1 A2 n1 c1 m c2 t list who w' (hrt.below hb') hc1 (hrl.below hb') (by omega) (hT1.below hb')
  have HN2 : Hid (∀ w', Below w1.heap.size w1 w' → Calls Tryd.prog 43 #[.slice A1 n1 c1, .slice A2 m c2, .int .i64 who] w' (IntsP w' (naI t list who))) := fun w' hb' =>
    NextAlongS_any _ _ A1 A2 n1 c1 m c2 t list who w' (hrt.below hb') hc1 hzt (hrl.below hb') (by omega)
  have hnl := naI_len t list who
  have hs1 := hb1.size
  have HA1 := Lib.hid (HN1.out w1 (Below.refl _ _))
  go_wp2_with fail
  refine HA1.out.mono ?_
  rintro e w2 ⟨v2, rfl, ho2, hb2⟩
  obtain ⟨A3, m3, c3, rfl, hc3, hr3⟩ := ho2.rdn elI.len (by omega)
  have HL3 := Lib.hid hr3.len
  have hm3 : m3 ≤ 12 := by have := HL3.out; omega
  have HA2 := Lib.hid (HN2.out w2 hb2)
  clear ho2
  go_wp2_with fail
  refine HA2.out.mono ?_
  rintro e w3 ⟨v3, rfl, ho3, hb3⟩
  have hB3 := hb2.trans (hb3.mono hb2.size)
  obtain ⟨A4, m4, c4, rfl, hc4, hr4⟩ := ho3.rdn elI.len (by omega)
  have hr33 := hr3.below hb3
  clear ho3 hr3
  go_wp2_with fail
  refine (equalInts_t _ _ A3 A4 m3 c3 m4 c4 _ _ hr33 hr4).mono ?_
  rintro e w4 ⟨rfl, hb4⟩
  have hB4 := hB3.trans (hb4.mono hB3.size)
  have hr34 := hr33.below hb4
  have HEND : Hid (∀ w', Below w1.heap.size w1 w' → Calls Tryd.prog 43 #[.slice A1 n1 c1, .slice A2 m c2, .int .i64 who] w' (IntsP w' (naI t list who))) := HN2.out
  clear hr33 hr4 hb3 hb4 HA1 HA2 HN1 HN2 hr hz hT
  have hw0' : ¬ who < 0 := by omega
  have hw3' : ¬ 4 ≤ who := by omega
  have HVT := Lib.hid (ValidTree_any _ A1 n1 c1 t w4 (hrt.below hB4) hc1)
  by_cases hv1 : VT t
  case neg =>
    rw [vt_false hv1] at HVT
    clear hv1
    go_wp2_with fail
    refine HVT.out.mono ?_
    rintro e w5 ⟨rfl, hb5⟩
    have hB5 := hB4.trans (hb5.mono hB4.size)
    have hr35 := hr34.below hb5
    have HE := Lib.hid (HEND.out w5 hB5)
    go_wp2_with fail
    refine HE.out.mono ?_
    rintro e w11 ⟨v11, rfl, ho11, hb11⟩
    have hB11 := hB5.trans (hb11.mono hB5.size)
    obtain ⟨A11, m11, c11, rfl, hc11, hr11⟩ := ho11.rdn elI.len (by omega)
    go_wp2_with fail
    refine (equalInts_t _ _ A3 A11 m3 c3 m11 c11 _ _ (hr35.below hb11) hr11).mono ?_
    rintro e w12 ⟨rfl, hb12⟩
    go_wp2_with fail
    go_ret
    exact ⟨rfl, hb1.trans ((hB11.trans (hb12.mono hB11.size)).mono hs1)⟩
  rw [vt_true hv1] at HVT
  have hE : naI t [] who = (List.range t.length).map (fun (k : Nat) => (k : Int)) := by
    rw [naI_yes (m := []) ⟨hv1, VS_nil, ⟨hw0, hw3⟩, rfl⟩ rfl, naF_first]
  have HEL : Hid (∀ k : Nat, k < n1 → (naI t [] who)[k]? = some (k : Int)) := fun k hk => by
    rw [hE, List.getElem?_map, List.getElem?_range (by have := HLT.out; omega)]; rfl
  have HEN : Hid ((naI t [] who).length = n1) := by
    show _ = _
    rw [hE]; simp; exact HLT.out
  have HN0 : Hid (∀ w', Below w1.heap.size w1 w' → Calls Tryd.prog 42 #[.slice A1 n1 c1, .slice none 0 0, .int .i64 who] w' (IntsP w' (naI t [] who))) := fun w' hb' =>
    NextAlong_any _ 0 A1 none n1 c1 0 0 t [] who w' (hrt.below hb') hc1 Rd.nil (by omega) (hT1.below hb')
  generalize naI t [] who = NE at *
  clear hv1 hE
  go_wp2_with fail
  refine HVT.out.mono ?_
  rintro e w5 ⟨rfl, hb5⟩
  have hB5 := hB4.trans (hb5.mono hB4.size)
  have HN5 := Lib.hid (HN0.out w5 hB5)
  go_wp2_with fail
  refine HN5.out.mono ?_
  rintro e w6 ⟨v6, rfl, ho6, hb6⟩
  have hB6 := hb1.trans ((hB5.trans (hb6.mono hB5.size)).mono hs1)
  obtain ⟨A6, m6, c6, rfl, hc6, hr6⟩ := ho6.rdn elI.len (by have := HEN.out; omega)
  obtain rfl : m6 = n1 := hr6.len.symm.trans HEN.out
  clear ho6 HN5 HN0 HVT HEND
  go_wp2_with fail
  go_loop [8] (fun v => ∃ k : Nat, k ≤ m6 ∧ v = .int .i64 k) (fun v => m6 - (intOf v).toNat)
  case atStart => exact ⟨0, Nat.zero_le _, rfl⟩
  case round =>
    obtain ⟨k, hk, rfl⟩ := hrel
    by_cases hlt : k < m6
    case neg =>
      go_wp2_with fail
      go_ret
      exact ⟨rfl, hB6⟩
    obtain ⟨b, o, x, rfl, _, hb, hx, g0⟩ := hr6.atI hlt
    rw [HEL.out k hlt] at hx
    injection hx with hx
    subst hx
    go_wp2_with fail
    go_round
    case rel => exact ⟨k + 1, by omega, by go_num⟩
    case measure => simp [intOf]; omega
set_option maxRecDepth 100000 in
set_option maxHeartbeats 3200000 in
theorem lawNextAlongBelow (A : Option Addr) (n c : Nat) (zs : List Int) (w : World) (hn : n ≤ 1048576) (hr : Rd cB 1 w 0 A n zs) (hc : n ≤ c) (hz : ∀ (k : Nat) (z : Int), zs[k]? = some z → 0 ≤ z ∧ z ≤ 255) (hT : Tb w) :
    Calls Tryd.prog 15 #[.slice A n c] w fun e w' => e = .returned (.bool true) ∧ Below w.heap.size w w' := by
  have hn' : (n : Int) ≤ 1048576 := by omega
  go_enter Tryd.func15, Tryd.ntmps15
  go_wp2_with fail
  refine (DrawNextAlong_any A n c zs _ hr hc hz).mono ?_
  rintro e w1 ⟨A1, n1, c1, t, A2, m, c2, list, who, rfl, hc1, hrt, hn1, hzt, hc2, hrl, hm, hw0, hw3, hb1⟩
  have hT1 := hT.below hb1
  have HL := Lib.hid hrl.len
  have HLT := Lib.hid hrt.len
  have HN1 : Hid (∀ w', Below w1.heap.size w1 w' → Calls Tryd.prog 42 #[.slice A1 n1 c1, .slice A2 m c2, .int .i64 who] w' (IntsP w' (naI t list who))) := fun w' hb' =>
    NextAlong_any _ _ A1 A2 n1 c1 m c2 t list who w' (hrt.below hb') hc1 (hrl.below hb') (by omega) (hT1.below hb')
  have HN2 : Hid (∀ w', Below w1.heap.size w1 w' → Calls Tryd.prog 43 #[.slice A1 n1 c1, .slice A2 m c2, .int .i64 who] w' (IntsP w' (naI t list who))) := fun w' hb' =>
    NextAlongS_any _ _ A1 A2 n1 c1 m c2 t list who w' (hrt.below hb') hc1 hzt (hrl.below hb') (by omega)
  have hnl := naI_len t list who
  have hs1 := hb1.size
  have HA1 := Lib.hid (HN1.out w1 (Below.refl _ _))
  go_wp2_with fail
  refine HA1.out.mono ?_
  rintro e w2 ⟨v2, rfl, ho2, hb2⟩
  obtain ⟨A3, m3, c3, rfl, hc3, hr3⟩ := ho2.rdn elI.len (by omega)
  have HL3 := Lib.hid hr3.len
  have hm3 : m3 ≤ 12 := by have := HL3.out; omega
  have HA2 := Lib.hid (HN2.out w2 hb2)
  clear ho2
  go_wp2_with fail
  refine HA2.out.mono ?_
  rintro e w3 ⟨v3, rfl, ho3, hb3⟩
  have hB3 := hb2.trans (hb3.mono hb2.size)
  obtain ⟨A4, m4, c4, rfl, hc4, hr4⟩ := ho3.rdn elI.len (by omega)
  have hr33 := hr3.below hb3
  clear ho3 hr3
  go_wp2_with fail
  refine (equalInts_t _ _ A3 A4 m3 c3 m4 c4 _ _ hr33 hr4).mono ?_
  rintro e w4 ⟨rfl, hb4⟩
  have hB4 := hB3.trans (hb4.mono hB3.size)
  have hr34 := hr33.below hb4
  have HEND : Hid (∀ w', Below w1.heap.size w1 w' → Calls Tryd.prog 43 #[.slice A1 n1 c1, .slice A2 m c2, .int .i64 who] w' (IntsP w' (naI t list who))) := HN2.out
  clear hr33 hr4 hb3 hb4 HA1 HA2 HN1 HN2 hr hz hT
  have HLP := Lib.hid (LockPoint_any _ A2 m c2 list who w4 (hrl.below hB4) (by omega) (hT1.below hB4))
  by_cases hp : 0 ≤ lpI list who
  case neg =>
    generalize lpI list who = q at *
    have hp' : q < 0 := by omega
    clear hp
    go_wp2_with fail
    refine HLP.out.mono ?_
    rintro e w5 ⟨rfl, hb5⟩
    have hB5 := hB4.trans (hb5.mono hB4.size)
    have hr35 := hr34.below hb5
    have HE := Lib.hid (HEND.out w5 hB5)
    go_wp2_with fail
    refine HE.out.mono ?_
    rintro e w11 ⟨v11, rfl, ho11, hb11⟩
    have hB11 := hB5.trans (hb11.mono hB5.size)
    obtain ⟨A11, m11, c11, rfl, hc11, hr11⟩ := ho11.rdn elI.len (by omega)
    go_wp2_with fail
    refine (equalInts_t _ _ A3 A11 m3 c3 m11 c11 _ _ (hr35.below hb11) hr11).mono ?_
    rintro e w12 ⟨rfl, hb12⟩
    go_wp2_with fail
    go_ret
    exact ⟨rfl, hb1.trans ((hB11.trans (hb12.mono hB11.size)).mono hs1)⟩
  have hvs : VS list := Classical.byContradiction fun h => by rw [lpI_f h] at hp; omega
  obtain ⟨mm, hmm⟩ := hvs.ex
  have HTA : Hid (∀ w', Below w1.heap.size w1 w' → Calls Tryd.prog 44 #[.slice A2 m c2] w' (LksT w' mm)) := fun w' hb' => by
    have := TableAfter_any _ A2 m c2 list w' (hrl.below hb') (by omega) (hT1.below hb')
    rw [hmm] at this
    exact this
  have HVM := Lib.hid (tabF_VTb hmm)
  have hpl : lpF list who ≠ -1 := by rw [lpI_t hvs] at hp; omega
  have HBL : Hid (∀ (i : Nat) (z : Int), (naI t list who)[i]? = some z → 1 ≤ z ∧ z < t.length ∧ ∃ x, t[z.toNat]? = some x ∧ heldF mm who x.par = 5) := fun i z hz => by
    by_cases hna : NA t list who
    · rw [naI_yes hna hmm] at hz
      exact hna.below hmm hpl (List.mem_of_getElem? hz)
    · rw [naI_no hna] at hz; simp at hz
  generalize lpI list who = q at *
  have hp' : ¬ q < 0 := by omega
  clear hp hvs hmm hpl
  go_wp2_with fail
  refine HLP.out.mono ?_
  rintro e w5 ⟨rfl, hb5⟩
  have hB5 := hB4.trans (hb5.mono hB4.size)
  have hr35 := hr34.below hb5
  have HTA5 := Lib.hid (HTA.out w5 hB5)
  go_wp2_with fail
  refine HTA5.out.mono ?_
  rintro e w6 ⟨v6, rfl, ho6, hb6⟩
  have hB6 := hB5.trans (hb6.mono hB5.size)
  obtain ⟨A6, m6, c6, rfl, hc6, hr6⟩ := ho6.rdn elL.len (by have := HVM.out.1; omega)
  have hr36 := hr35.below hb6
  have hrt6 := hrt.below hB6
  have hT6 := hT1.below hB6
  have hB := hb1.trans (hB6.mono hs1)
  clear ho6 HTA HTA5 HLP hr34 hr35 HEND hB4 hB5 hb5 hb6
  go_wp2_with fail
  go_loopw [9] (fun i wr => ∃ k : Nat, k ≤ m3 ∧ i = .int .i64 k ∧ Below w6.heap.size w6 wr) (fun i _ => m3 - (intOf i).toNat)
  case atStart => exact ⟨0, Nat.zero_le _, rfl, Below.refl _ _⟩
  case round =>
    rename World => W1
    obtain ⟨k, hk, rfl, hbl⟩ := hrel
    have hs := hbl.size
    by_cases hlt : k < m3
    case neg =>
      go_wp2_with fail
      go_ret
      exact ⟨rfl, hB.trans (hbl.mono hB.size)⟩
    obtain ⟨b, o, z, rfl, _, hb, hz, g0⟩ := (hr36.below hbl).atI hlt
    obtain ⟨z1, z2, x, hx, hx5⟩ := HBL.out k z hz
    obtain ⟨kk, rfl⟩ := Int.eq_ofNat_of_zero_le (a := z) (by omega)
    obtain ⟨b', o', y, rfl, _, hb', hy, p0, p1, p2⟩ := (hrt6.below hbl).atN (k := kk) (by have := HLT.out; omega)
    have hx' : t[kk]? = some x := hx
    rw [hy] at hx'
    injection hx' with hx'
    subst hx'
    have HH := Lib.hid (HeldMode_t _ A6 m6 c6 mm who y.par W1 (hr6.below hbl) hc6 (hT6.below hbl) HVM.out)
    rw [hx5] at HH
    have hz1 : ¬ (kk : Int) < 1 := by omega
    have hz2 : ¬ (n1 : Int) ≤ (kk : Int) := by have := HLT.out; omega
    clear hz hx hy hx5
    go_wp2_with fail
    refine HH.out.mono ?_
    rintro e w7 ⟨rfl, hb7⟩
    go_wp2_with fail
    go_roundw
    case rel => exact ⟨k + 1, by omega, by go_num, hbl.trans (hb7.mono hs)⟩
    case measure => simp [intOf]; omega
set_option maxRecDepth 100000 in
set_option maxHeartbeats 3200000 in
theorem lawNextAlong (A : Option Addr) (n c : Nat) (zs : List Int) (w : World) (hn : n ≤ 1048576) (hr : Rd cB 1 w 0 A n zs) (hc : n ≤ c) (hz : ∀ (k : Nat) (z : Int), zs[k]? = some z → 0 ≤ z ∧ z ≤ 255) (hT : Tb w) :
    Calls Tryd.prog 13 #[.slice A n c] w fun e w' => e = .returned (.bool true) ∧ Below w.heap.size w w' := by
  have hn' : (n : Int) ≤ 1048576 := by omega
  go_enter Tryd.func13, Tryd.ntmps13
  go_wp2_with fail
  refine (DrawNextAlong_any A n c zs _ hr hc hz).mono ?_
  rintro e w1 ⟨A1, n1, c1, t, A2, m, c2, list, who, rfl, hc1, hrt, hn1, hzt, hc2, hrl, hm, hw0, hw3, hb1⟩
  have hT1 := hT.below hb1
  have HL := Lib.hid hrl.len
  have HLT := Lib.hid hrt.len
  have HN1 : Hid (∀ w', Below w1.heap.size w1 w' → Calls Tryd.prog 42 #[.slice A1 n1 c1, .slice A2 m c2, .int .i64 who] w' (IntsP w' (naI t list who))) := fun w' hb' =>
    NextAlong_any _ _ A1 A2 n1 c1 m c2 t list who w' (hrt.below hb') hc1 (hrl.below hb') (by omega) (hT1.below hb')
  have HN2 : Hid (∀ w', Below w1.heap.size w1 w' → Calls Tryd.prog 43 #[.slice A1 n1 c1, .slice A2 m c2, .int .i64 who] w' (IntsP w' (naI t list who))) := fun w' hb' =>
    NextAlongS_any _ _ A1 A2 n1 c1 m c2 t list who w' (hrt.below hb') hc1 hzt (hrl.below hb') (by omega)
  have hnl := naI_len t list who
  have hs1 := hb1.size
  have HA1 := Lib.hid (HN1.out w1 (Below.refl _ _))
  go_wp2_with fail
  refine HA1.out.mono ?_
  rintro e w2 ⟨v2, rfl, ho2, hb2⟩
  obtain ⟨A3, m3, c3, rfl, hc3, hr3⟩ := ho2.rdn elI.len (by omega)
  have HL3 := Lib.hid hr3.len
  have hm3 : m3 ≤ 12 := by have := HL3.out; omega
  have HA2 := Lib.hid (HN2.out w2 hb2)
  clear ho2
  go_wp2_with fail
  refine HA2.out.mono ?_
  rintro e w3 ⟨v3, rfl, ho3, hb3⟩
  have hB3 := hb2.trans (hb3.mono hb2.size)
  obtain ⟨A4, m4, c4, rfl, hc4, hr4⟩ := ho3.rdn elI.len (by omega)
  have hr33 := hr3.below hb3
  clear ho3 hr3
  go_wp2_with fail
  refine (equalInts_t _ _ A3 A4 m3 c3 m4 c4 _ _ hr33 hr4).mono ?_
  rintro e w4 ⟨rfl, hb4⟩
  have hB4 := hB3.trans (hb4.mono hB3.size)
  have hr34 := hr33.below hb4
  have HEND : Hid (∀ w', Below w1.heap.size w1 w' → Calls Tryd.prog 43 #[.slice A1 n1 c1, .slice A2 m c2, .int .i64 who] w' (IntsP w' (naI t list who))) := HN2.out
  clear hr33 hr4 hb3 hb4 HA1 HA2 HN1 HN2 hr hz hT
  by_cases hm16 : m < 16
  case neg =>
    have hm' : (16 : Int) ≤ (m : Int) := by omega
    have HE := Lib.hid (HEND.out w4 hB4)
    go_wp2_with fail
    refine HE.out.mono ?_
    rintro e w11 ⟨v11, rfl, ho11, hb11⟩
    have hB11 := hB4.trans (hb11.mono hB4.size)
    obtain ⟨A11, m11, c11, rfl, hc11, hr11⟩ := ho11.rdn elI.len (by omega)
    go_wp2_with fail
    refine (equalInts_t _ _ A3 A11 m3 c3 m11 c11 _ _ (hr34.below hb11) hr11).mono ?_
    rintro e w12 ⟨rfl, hb12⟩
    go_wp2_with fail
    go_ret
    exact ⟨rfl, hb1.trans ((hB11.trans (hb12.mono hB11.size)).mono hs1)⟩
  have hm' : ¬ (16 : Int) ≤ (m : Int) := by omega
  have HMR : Hid (∀ (i : Nat) (z : Int), (naI t list who)[i]? = some z → VT t ∧ VS (list ++ [⟨who, false, z, 5⟩]) ∧ alF t (list ++ [⟨who, false, z, 5⟩]) who = -1) := fun i z hz => by
    by_cases hna : NA t list who
    · obtain ⟨mm, hmm⟩ := hna.2.1.ex
      rw [naI_yes hna hmm] at hz
      have := hna.more hmm (by have := HL.out; omega) (List.mem_of_getElem? hz)
      exact ⟨hna.1, this⟩
    · rw [naI_no hna] at hz; simp at hz
  have hB := hb1.trans (hB4.mono hs1)
  have hrt4 := hrt.below hB4
  have hrl4 := hrl.below hB4
  have hT4 := hT1.below hB4
  clear HEND
  go_wp2_with fail
  go_loopw [7] (fun i wr => ∃ k : Nat, k ≤ m3 ∧ i = .int .i64 k ∧ Below w4.heap.size w4 wr) (fun i _ => m3 - (intOf i).toNat)
  case atStart => exact ⟨0, Nat.zero_le _, rfl, Below.refl _ _⟩
  case round =>
    rename World => W1
    obtain ⟨k, hk, rfl, hbl⟩ := hrel
    have hs := hbl.size
    by_cases hlt : k < m3
    case neg =>
      go_wp2_with fail
      go_ret
      exact ⟨rfl, hB.trans (hbl.mono hB.size)⟩
    obtain ⟨b, o, z, rfl, _, hb, hz, g0⟩ := (hr34.below hbl).atI hlt
    obtain ⟨hv1, hv2, hal⟩ := HMR.out k z hz
    have HV : Hid (∀ (w' : World) (lo' : Nat) (A' : Option Addr) (c' : Nat), Below W1.heap.size W1 w' → Rd cS 4 w' lo' A' (m + 1) (list ++ [(⟨who, false, z, 5⟩ : St)]) → Calls Tryd.prog 22 #[.slice A' (m + 1) c'] w' fun e w'' => e = .returned (.bool true) ∧ Below w'.heap.size w' w'') := fun w' lo' A' c' hb' hr' => by
      have := ValidSteps_any lo' A' (m + 1) c' _ w' hr' (by omega) ((hT4.below hbl).below hb')
      rw [vsB_t hv2] at this
      exact this
    have HA : Hid (∀ (w' : World) (lo' : Nat) (A' : Option Addr) (c' : Nat), Below W1.heap.size W1 w' → Rd cS 4 w' lo' A' (m + 1) (list ++ [(⟨who, false, z, 5⟩ : St)]) → Calls Tryd.prog 35 #[.slice A1 n1 c1, .slice A' (m + 1) c', .int .i64 who] w' fun e w'' => e = .returned (.int .i64 (-1)) ∧ Below w'.heap.size w' w'') := fun w' lo' A' c' hb' hr' => by
      have := AlongFault_any _ lo' A1 A' n1 c1 (m + 1) c' t _ who w' (((hrt4.below hbl).below hb')) hc1 hr' (by omega) ((hT4.below hbl).below hb')
      rw [alI_yes hv1 hv2, hal] at this
      exact this
    have hrlW := hrl4.below hbl
    have q0 : (k : Int) < (m3 : Int) := by omega
    have hoE : Own cS 4 30 (W1.alloc (.cells #[] 30)).drew W1.heap.size (.slice (some ⟨W1.heap.size, 0, none⟩) 0 0) ([] : List St) := (Own.empty W1 elS.len).drew
    have hrdA := (hrlW.alloc (.cells #[] 30)).drew
    have h2B := two_B (cs := cS) (sz := 4) (e := 30) W1 #[.int .i64 who, .bool false, .int .i64 z, .int .i64 5] (⟨who, false, z, 5⟩ : St) elS.len rfl
    have h2C := two_C (cs := cS) (sz := 4) (e := 30) W1 #[.int .i64 who, .bool false, .int .i64 z, .int .i64 5] (⟨who, false, z, 5⟩ : St) elS.len rfl
    have hrdB := ((hrlW.alloc (.cells #[] 30)).alloc (.cells #[.int .i64 who, .bool false, .int .i64 z, .int .i64 5] 30)).drew
    have hrdC := ((hrlW.alloc (.cells #[.int .i64 who, .bool false, .int .i64 z, .int .i64 5] 30)).alloc (.cells #[] 30)).drew
    have kA : (W1.alloc (.cells #[] 30)).drew.cell? ⟨b, o + k, none⟩ = some (.int .i64 z) := (((Below.refl W1.heap.size W1).alloc (Nat.le_refl _) (.cells #[] 30)).cell hb).trans g0
    clear hz hv1 hv2 hal
    go_wp2_with fail
    go_region_law ((first
      | (refine step_append_rd elS _ rfl (.tmp 46) (.tmp 47) rfl rfl hoE rfl hrdA (by simp; omega) (by simp) ?_; intro v8 w8 ho8 hg8 _; have hb8 := below_own (((Below.refl W1.heap.size W1).alloc (Nat.le_refl _) _).drew) hoE hg8 (Nat.le_refl _) (by simp); have k0 := (hb8.cell hb).trans g0)
      | (refine step_append_rd elS _ rfl (.tmp 46) (.tmp 47) rfl rfl h2B.1 rfl hrdB (by simp; omega) (by simp; omega) ?_; intro v8 w8 ho8 hg8 _; have hb8 := below_own (((Below.refl W1.heap.size W1).alloc (Nat.le_refl _) _).alloc (by simp) _).drew h2B.1 hg8 (Nat.le_refl _) (by simp; omega); have hx8 := h2B.2.ne (row := some W1.heap.size) hg8 (by simp))
      | (refine step_append_rd elS _ rfl (.tmp 46) (.tmp 47) rfl rfl h2C.1 rfl hrdC (by simp; omega) (by simp; omega) ?_; intro v8 w8 ho8 hg8 _; have hb8 := below_own (((Below.refl W1.heap.size W1).alloc (Nat.le_refl _) _).alloc (by simp) _).drew h2C.1 hg8 (Nat.le_refl _) (by simp; omega); have hx8 := h2C.2.ne (row := some (W1.heap.size + 1)) hg8 (by simp))
      | (refine step_append_rd elS _ rfl (.tmp 48) (.tmp 55) rfl rfl ho8 rfl hx8 (by simp only [List.nil_append]; have := HL.out; omega) (by have := hb8.size; omega) ?_; intro v9 w9 ho9 hg9 _; have hb9 := below_own hb8 ho8 hg9 (Nat.le_refl _) hb8.size; simp only [List.nil_append] at ho9; obtain ⟨A9, m9, c9, rfl, hc9, hr9⟩ := ho9.rdn elS.len (by simp; have := HL.out; omega); clear ho8 ho9 hg8 hg9)
      | (refine step_append_rd elS _ rfl (.tmp 48) (.tmp 55) rfl rfl (ho8.alloc (.cells #[.int .i64 who, .bool false, .int .i64 z, .int .i64 5] 30)) rfl (Rd_one w8 #[.int .i64 who, .bool false, .int .i64 z, .int .i64 5] 30 (⟨who, false, z, 5⟩ : St) rfl) ?_ ?_ ?_
         · simp only [List.nil_append]; have := HL.out; omega
         · have := hb8.size; simp only [World.size_alloc]; omega
         intro v9 w9 ho9 hg9 _
         have hb9 := below_own (hb8.alloc hb8.size (.cells #[.int .i64 who, .bool false, .int .i64 z, .int .i64 5] 30)) (ho8.alloc _) hg9 (Nat.le_refl _) (by have := hb8.size; simp only [World.size_alloc]; omega)
         simp only [List.nil_append] at ho9
         obtain ⟨A9, m9, c9, rfl, hc9, hr9⟩ := ho9.rdn elS.len (by simp; have := HL.out; omega)
         clear ho8 ho9 hg8 hg9)))
    all_goals (
      obtain rfl : m9 = m + 1 := by have h1 := hr9.len; rw [List.length_append, HL.out] at h1; exact h1.symm
      have HV9 := Lib.hid (HV.out _ _ A9 c9 hb9 hr9)
      have hs9 := hb9.size
      clear h2B h2C hrdA hrdB hrdC hoE kA
      go_wp2_with fail
      refine HV9.out.mono ?_
      rintro e w10 ⟨rfl, hb10⟩
      have hB10 := hb9.trans (hb10.mono hs9)
      have HA10 := Lib.hid (HA.out _ _ A9 c9 hB10 (hr9.below hb10))
      go_wp2_with fail
      refine HA10.out.mono ?_
      rintro e w11 ⟨rfl, hb11⟩
      have hB11 := hbl.trans ((hB10.trans (hb11.mono hB10.size)).mono hs)
      go_wp2_with fail
      go_roundw
      case rel => exact ⟨k + 1, by omega, by go_num, hB11⟩
      case measure => simp [intOf]; omega)
end Go.Proofs.YtddpdcnbdbnljaaDoor
