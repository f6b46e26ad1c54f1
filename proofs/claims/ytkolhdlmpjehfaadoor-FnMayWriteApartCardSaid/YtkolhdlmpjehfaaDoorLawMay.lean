/- The walks of the laws on who may read and write. -/
import Derived.Test.YtkolhdlmpjehfaaDoorLawTake
import Derived.Test.YtkolhdlmpjehfaaDoorGrainL
namespace Go.Proofs.YtkolhdlmpjehfaaDoor
open Go.RowKit

set_option maxRecDepth 100000 in
set_option maxHeartbeats 1600000 in
theorem lawMayReadFree (A : Option Addr) (n c : Nat) (zs : List Int) (w : World) (hn : n ≤ 1048576) (hr : Rd cB 1 w 0 A n zs) (hc : n ≤ c) (hz : ∀ (k : Nat) (z : Int), zs[k]? = some z → 0 ≤ z ∧ z ≤ 255) (hT : Tb w) :
    Calls Tryd.prog 9 #[.slice A n c] w fun e w' => e = .returned (.bool true) ∧ Below w.heap.size w w' := by
  have hn' : (n : Int) ≤ 1048576 := by omega
  go_enter Tryd.func9, Tryd.ntmps9
  go_wp2_with fail
  refine (DrawMayRead_any A n c zs _ hr hc hz).mono ?_
  rintro e w1 ⟨A1, n1, c1, t, A2, m, c2, l, who, node, rfl, hc1, hrt, hn1, hzt, hc2, hrl, hm, hw0, hw3, hb1⟩
  have hT1 := hT.below hb1
  have hmay : ∃ ok, mayF 3 t l who node = ok := ⟨_, rfl⟩
  obtain ⟨ok, hok⟩ := hmay
  go_wp2_with fail
  refine (MayRead_any _ _ A1 A2 n1 c1 m c2 t l who node _ hrt hc1 hrl hc2 hT1).mono ?_
  rintro e w2 ⟨rfl, hb2⟩
  rw [hok]
  have hB2 := hb1.trans (hb2.mono hb1.size)
  have hrt2 := hrt.below hb2
  have hrl2 := hrl.below hb2
  have HOK := Lib.hid hok
  clear hok
  go_wp2_with fail
  refine (MayReadS_any _ _ A1 A2 n1 c1 m c2 t l who node _ hrt2 hc1 hzt hrl2).mono ?_
  rintro e w3 ⟨rfl, hb3⟩
  rw [HOK.out]
  have hB3 := hB2.trans (hb3.mono hB2.size)
  have hrt3 := hrt2.below hb3
  have hrl3 := hrl2.below hb3
  have hT3 := hT.below hB3
  have HLT := Lib.hid hrt.len
  clear hrt hrl hrt2 hrl2 hT1 hb1 hb2 hb3 hB2 hr hz
  by_cases hv : VTb l
  · have HV := Lib.hid hv
    have hn49 : m ≤ 49 := hm
    clear hv
    go_wp2_with fail
    refine (FreeLocks_t _ A2 m c2 l who _ hrl3 hc2 hT3 HV.out).mono ?_
    rintro e w4 ⟨v4, rfl, ho4, hb4⟩
    have hB4 := hB3.trans (hb4.mono hB3.size)
    obtain ⟨A4, m4, c4, rfl, hc4, hrd4⟩ := ho4.rdn elL.len (by have := (freeF_VTb HV.out who).1; omega)
    have h0 : ∀ a, heldF (freeF l who) who a = 0 := fun a => by rw [freeF_held HV.out, if_pos rfl]
    have HR := Lib.hid (may_free (t := t) (node := node) h0 (m := 3) (by decide) (by omega))
    have HW := Lib.hid (may_free (t := t) (node := node) h0 (m := 5) (by decide) (by omega))
    clear ho4 h0
    go_wp2_with fail
    refine (MayRead_any _ _ A1 A4 n1 c1 m4 c4 t _ who node _ (hrt3.below hb4) hc1 hrd4 hc4 (hT3.below hb4)).mono ?_
    rintro e w5 ⟨rfl, hb5⟩
    rw [HR.out]
    have hB5 := hB4.trans (hb5.mono hB4.size)
    go_wp2_with fail
    refine (MayWrite_any _ _ A1 A4 n1 c1 m4 c4 t _ who node _ ((hrt3.below hb4).below hb5) hc1 (hrd4.below hb5) hc4 ((hT3.below hb4).below hb5)).mono ?_
    rintro e w6 ⟨rfl, hb6⟩
    rw [HW.out]
    go_wp2_with fail
    go_ret
    exact ⟨rfl, hB5.trans (hb6.mono hB5.size)⟩
  · have HV := Lib.hid hv
    clear hv
    go_wp2_with fail
    refine (FreeLocks_f _ A2 m c2 l who _ hrl3 hc2 hT3 HV.out).mono ?_
    rintro e w4 ⟨rfl, hb4⟩
    have hB4 := hB3.trans (hb4.mono hB3.size)
    have h0 : ∀ a, heldF [] who a = 0 := fun a => rfl
    have HR := Lib.hid (may_free (t := t) (node := node) h0 (m := 3) (by decide) (by omega))
    have HW := Lib.hid (may_free (t := t) (node := node) h0 (m := 5) (by decide) (by omega))
    clear h0
    go_wp2_with fail
    refine (MayRead_any _ 0 A1 none n1 c1 0 0 t [] who node _ (hrt3.below hb4) hc1 Rd.nil (Nat.le_refl _) (hT3.below hb4)).mono ?_
    rintro e w5 ⟨rfl, hb5⟩
    rw [HR.out]
    have hB5 := hB4.trans (hb5.mono hB4.size)
    go_wp2_with fail
    refine (MayWrite_any _ 0 A1 none n1 c1 0 0 t [] who node _ ((hrt3.below hb4).below hb5) hc1 Rd.nil (Nat.le_refl _) ((hT3.below hb4).below hb5)).mono ?_
    rintro e w6 ⟨rfl, hb6⟩
    rw [HW.out]
    go_wp2_with fail
    go_ret
    exact ⟨rfl, hB5.trans (hb6.mono hB5.size)⟩
set_option maxRecDepth 100000 in
set_option maxHeartbeats 1600000 in
theorem lawMayRead (A : Option Addr) (n c : Nat) (zs : List Int) (w : World) (hn : n ≤ 1048576) (hr : Rd cB 1 w 0 A n zs) (hc : n ≤ c) (hz : ∀ (k : Nat) (z : Int), zs[k]? = some z → 0 ≤ z ∧ z ≤ 255) (hT : Tb w) :
    Calls Tryd.prog 10 #[.slice A n c] w fun e w' => e = .returned (.bool true) ∧ Below w.heap.size w w' := by
  have hn' : (n : Int) ≤ 1048576 := by omega
  go_enter Tryd.func10, Tryd.ntmps10
  go_wp2_with fail
  refine (DrawMayRead_any A n c zs _ hr hc hz).mono ?_
  rintro e w1 ⟨A1, n1, c1, t, A2, m, c2, l, who, node, rfl, hc1, hrt, hn1, hzt, hc2, hrl, hm, hw0, hw3, hb1⟩
  have hT1 := hT.below hb1
  have hmay : ∃ ok, mayF 3 t l who node = ok := ⟨_, rfl⟩
  obtain ⟨ok, hok⟩ := hmay
  go_wp2_with fail
  refine (MayRead_any _ _ A1 A2 n1 c1 m c2 t l who node _ hrt hc1 hrl hc2 hT1).mono ?_
  rintro e w2 ⟨rfl, hb2⟩
  rw [hok]
  have hB2 := hb1.trans (hb2.mono hb1.size)
  have hrt2 := hrt.below hb2
  have hrl2 := hrl.below hb2
  have HOK := Lib.hid hok
  clear hok
  go_wp2_with fail
  refine (MayReadS_any _ _ A1 A2 n1 c1 m c2 t l who node _ hrt2 hc1 hzt hrl2).mono ?_
  rintro e w3 ⟨rfl, hb3⟩
  rw [HOK.out]
  have hB3 := hB2.trans (hb3.mono hB2.size)
  have hrt3 := hrt2.below hb3
  have hrl3 := hrl2.below hb3
  have hT3 := hT.below hB3
  have HLT := Lib.hid hrt.len
  clear hrt hrl hrt2 hrl2 hT1 hb1 hb2 hb3 hB2 hr hz
  by_cases hv : VT t
  case neg =>
    have HV := Lib.hid hv
    clear hv
    go_wp2_with fail
    refine (ValidTree_f _ A1 n1 c1 t _ hrt3 hc1 HV.out).mono ?_
    rintro e w4 ⟨rfl, hb4⟩
    go_wp2_with fail
    refine (MayReadS_any _ _ A1 A2 n1 c1 m c2 t l who node _ (hrt3.below hb4) hc1 hzt (hrl3.below hb4)).mono ?_
    rintro e w5 ⟨rfl, hb5⟩
    rw [HOK.out]
    go_wp2_with fail
    go_ret
    exact ⟨by simp, hB3.trans ((hb4.trans (hb5.mono hb4.size)).mono hB3.size)⟩
  have HV := Lib.hid hv
  clear hv
  go_wp2_with fail
  refine (ValidTree_t _ A1 n1 c1 t _ hrt3 hc1 HV.out).mono ?_
  rintro e w4 ⟨rfl, hb4⟩
  have hB4 := hB3.trans (hb4.mono hB3.size)
  have hrt4 := hrt3.below hb4
  have hrl4 := hrl3.below hb4
  have hT4 := hT3.below hb4
  clear hrt3 hrl3 hT3 hb4 hB3
  cases ok with
  | true =>
    go_wp2_with fail
    go_loopw [8] (fun i wr => ∃ k : Nat, k ≤ n1 ∧ i = .int .i64 k ∧ Below w4.heap.size w4 wr) (fun i _ => n1 - (intOf i).toNat)
    case atStart => exact ⟨0, Nat.zero_le _, rfl, Below.refl _ _⟩
    case round =>
      rename World => W1
      obtain ⟨k, hk, rfl, hbl⟩ := hrel
      by_cases hlt : k < n1
      case neg =>
        go_wp2_with fail
        go_ret
        exact ⟨rfl, hB4.trans (hbl.mono hB4.size)⟩
      have hnd : IsNd t k := ⟨HV.out, by omega, by have := HLT.out; omega⟩
      have HND := Lib.hid hnd
      have HNN := Lib.hid (may_valid HOK.out).1
      have hcv := fun w' (hb' : Below W1.heap.size W1 w') => IsAbove_t _ A1 n1 c1 t node k w' ((hrt4.below hbl).below hb') hc1 HNN.out HND.out
      have hmb : abv t node k = true → mayF 3 t l who k = true := fun h => may_below HOK.out HND.out (by simpa [abv] using h)
      have HMB := Lib.hid hmb
      clear hnd hmb
      generalize hab : abv t node k = ab at *
      have HCV := Lib.hid hcv
      clear hcv hab
      cases ab with
      | false =>
        go_wp2_with fail
        refine (HCV.out _ (Below.refl _ _)).mono ?_
        rintro e w5 ⟨rfl, hb5⟩
        go_wp2_with fail
        go_roundw
        case rel => exact ⟨k + 1, by omega, by go_num, hbl.trans (hb5.mono hbl.size)⟩
        case measure => simp [intOf]; omega
      | true =>
        go_wp2_with fail
        refine (HCV.out _ (Below.refl _ _)).mono ?_
        rintro e w5 ⟨rfl, hb5⟩
        have hb45 := hbl.trans (hb5.mono hbl.size)
        go_wp2_with fail
        refine (MayRead_any _ _ A1 A2 n1 c1 m c2 t l who k _ (hrt4.below hb45) hc1 (hrl4.below hb45) hc2 (hT4.below hb45)).mono ?_
        rintro e w6 ⟨rfl, hb6⟩
        rw [HMB.out trivial]
        go_wp2_with fail
        go_roundw
        case rel => exact ⟨k + 1, by omega, by go_num, hb45.trans (hb6.mono hb45.size)⟩
        case measure => simp [intOf]; omega
  | false =>
    go_wp2_with fail
    go_loopw [8] (fun i wr => ∃ k : Nat, k ≤ n1 ∧ i = .int .i64 k ∧ wr = w4) (fun i _ => n1 - (intOf i).toNat)
    case atStart => exact ⟨0, Nat.zero_le _, rfl, rfl⟩
    case round =>
      obtain ⟨k, hk, rfl, rfl⟩ := hrel
      by_cases hlt : k < n1
      case neg =>
        have hnw : mayF 5 t l who node = false := by
          cases h : mayF 5 t l who node with
          | false => rfl
          | true => have := may_write_read h; rw [HOK.out] at this; cases this
        have HNW := Lib.hid hnw
        clear hnw
        go_wp2_with fail
        refine (MayWrite_any _ _ A1 A2 n1 c1 m c2 t l who node _ hrt4 hc1 hrl4 hc2 hT4).mono ?_
        rintro e w6 ⟨rfl, hb6⟩
        rw [HNW.out]
        go_wp2_with fail
        go_ret
        exact ⟨rfl, hB4.trans (hb6.mono hB4.size)⟩
      go_wp2_with fail
      go_roundw
      case rel => exact ⟨k + 1, by omega, by go_num, by first | trivial | rfl⟩
      case measure => simp [intOf]; omega
set_option maxRecDepth 100000 in
set_option maxHeartbeats 1600000 in
theorem lawMayReadApart (A : Option Addr) (n c : Nat) (zs : List Int) (w : World) (hn : n ≤ 1048576) (hr : Rd cB 1 w 0 A n zs) (hc : n ≤ c) (hz : ∀ (k : Nat) (z : Int), zs[k]? = some z → 0 ≤ z ∧ z ≤ 255) (hT : Tb w) :
    Calls Tryd.prog 11 #[.slice A n c] w fun e w' => e = .returned (.bool true) ∧ Below w.heap.size w w' := by
  have hn' : (n : Int) ≤ 1048576 := by omega
  go_enter Tryd.func11, Tryd.ntmps11
  go_wp2_with fail
  refine (DrawMayRead_any A n c zs _ hr hc hz).mono ?_
  rintro e w1 ⟨A1, n1, c1, t, A2, m, c2, l, who, node, rfl, hc1, hrt, hn1, hzt, hc2, hrl, hm, hw0, hw3, hb1⟩
  have hT1 := hT.below hb1
  have hmay : ∃ ok, mayF 3 t l who node = ok := ⟨_, rfl⟩
  obtain ⟨ok, hok⟩ := hmay
  go_wp2_with fail
  refine (MayRead_any _ _ A1 A2 n1 c1 m c2 t l who node _ hrt hc1 hrl hc2 hT1).mono ?_
  rintro e w2 ⟨rfl, hb2⟩
  rw [hok]
  have hB2 := hb1.trans (hb2.mono hb1.size)
  have hrt2 := hrt.below hb2
  have hrl2 := hrl.below hb2
  have HOK := Lib.hid hok
  clear hok
  go_wp2_with fail
  refine (MayReadS_any _ _ A1 A2 n1 c1 m c2 t l who node _ hrt2 hc1 hzt hrl2).mono ?_
  rintro e w3 ⟨rfl, hb3⟩
  rw [HOK.out]
  have hB3 := hB2.trans (hb3.mono hB2.size)
  have hrt3 := hrt2.below hb3
  have hrl3 := hrl2.below hb3
  have hT3 := hT.below hB3
  have HLT := Lib.hid hrt.len
  clear hrt hrl hrt2 hrl2 hT1 hb1 hb2 hb3 hB2 hr hz
  cases ok with
  | false =>
    go_wp2_with fail
    refine (MayReadS_any _ _ A1 A2 n1 c1 m c2 t l who node _ hrt3 hc1 hzt hrl3).mono ?_
    rintro e w5 ⟨rfl, hb5⟩
    rw [HOK.out]
    go_wp2_with fail
    go_ret
    exact ⟨rfl, hB3.trans (hb5.mono hB3.size)⟩
  | true =>
  have HVV := Lib.hid (may_valid HOK.out)
  go_wp2_with fail
  go_loopw [8] (fun i wr => ∃ k : Nat, k ≤ 4 ∧ i = .int .i64 k ∧ Below w3.heap.size w3 wr ∧ ∀ a : Int, 0 ≤ a → a < k → Fine t l a) (fun i _ => 4 - (intOf i).toNat)
  case atStart => exact ⟨0, Nat.zero_le _, rfl, Below.refl _ _, fun a h1 h2 => by omega⟩
  case round =>
    rename World => W1
    obtain ⟨k, hk, rfl, hbl0, hF⟩ := hrel
    have HF := Lib.hid hF
    clear hF
    by_cases hlt : k < 4
    · have hlt' : (k : Int) < 4 := by omega
      have HG := Lib.hid (GrainFault_any _ _ A1 A2 n1 c1 m c2 t l k _ (hrt3.below hbl0) hc1 (hrl3.below hbl0) hc2 (hT3.below hbl0))
      by_cases hg : gfF t l k = -1
      · rw [hg] at HG
        have hf1 := (gfF_fine HVV.out.1.1 HVV.out.2).1 hg
        have HN : Hid (∀ a : Int, 0 ≤ a → a < ((k + 1 : Nat) : Int) → Fine t l a) := fun a h1 h2 => by
          by_cases e : a = k
          · rw [e]; exact hf1
          · exact HF.out a h1 (by omega)
        clear hg hf1
        go_wp2_with fail
        refine HG.out.mono ?_
        rintro e w5 ⟨rfl, hb5⟩
        go_wp2_with fail
        go_roundw
        case rel => exact ⟨k + 1, by omega, by go_num, hbl0.trans (hb5.mono hbl0.size), HN.out⟩
        case measure => simp [intOf]; omega
      · have hg' : (gfF t l k != -1) = true := by simpa using hg
        generalize gfF t l k = gf at *
        clear hg
        go_wp2_with fail
        refine HG.out.mono ?_
        rintro e w5 ⟨rfl, hb5⟩
        go_wp2_with fail
        go_ret
        exact ⟨rfl, hB3.trans ((hbl0.trans (hb5.mono hbl0.size)).mono hB3.size)⟩
    have HFA : Hid (∀ a : Int, 0 ≤ a → a ≤ 3 → Fine t l a) := fun a h1 h2 => HF.out a h1 (by omega)
    clear HF
    go_wp2_with fail
    go_loopw [9] (fun i wr => ∃ k : Nat, k ≤ 4 ∧ i = .int .i64 k ∧ Below w3.heap.size w3 wr) (fun i _ => 4 - (intOf i).toNat)
    case atStart => exact ⟨0, Nat.zero_le _, rfl, hbl0⟩
    case round =>
      rename World => W2
      clear hlt hk
      obtain ⟨k, hk, rfl, hbl⟩ := hrel
      by_cases hlt : k < 4
      case neg =>
        obtain rfl : k = 4 := by omega
        go_wp2_with fail
        go_ret
        exact ⟨rfl, hB3.trans (hbl.mono hB3.size)⟩
      have hlt' : (k : Int) < 4 := by omega
      by_cases hne : (k : Int) = who
      · subst hne
        go_wp2_with fail
        go_roundw
        case rel => exact ⟨k + 1, by omega, by go_num, hbl⟩
        case measure => simp [intOf]; omega
      · have hne' : ((k : Int) != who) = true := by simpa using hne
        have hnw : mayF 5 t l k node = false := by
          cases h : mayF 5 t l k node with
          | false => rfl
          | true => exact (may_apart (fun h => hne h.symm) HOK.out h (HFA.out who hw0 hw3) (HFA.out k (by omega) (by omega))).elim
        have HNW := Lib.hid hnw
        clear hnw
        clear hne
        go_wp2_with fail
        refine (MayWrite_any _ _ A1 A2 n1 c1 m c2 t l k node _ (hrt3.below hbl) hc1 (hrl3.below hbl) hc2 (hT3.below hbl)).mono ?_
        rintro e w6 ⟨rfl, hb6⟩
        rw [HNW.out]
        go_wp2_with fail
        go_roundw
        case rel => exact ⟨k + 1, by omega, by go_num, hbl.trans (hb6.mono hbl.size)⟩
        case measure => simp [intOf]; omega
set_option maxRecDepth 100000 in
set_option maxHeartbeats 1600000 in
theorem lawMayWriteApart (A : Option Addr) (n c : Nat) (zs : List Int) (w : World) (hn : n ≤ 1048576) (hr : Rd cB 1 w 0 A n zs) (hc : n ≤ c) (hz : ∀ (k : Nat) (z : Int), zs[k]? = some z → 0 ≤ z ∧ z ≤ 255) (hT : Tb w) :
    Calls Tryd.prog 12 #[.slice A n c] w fun e w' => e = .returned (.bool true) ∧ Below w.heap.size w w' := by
  have hn' : (n : Int) ≤ 1048576 := by omega
  go_enter Tryd.func12, Tryd.ntmps12
  go_wp2_with fail
  refine (DrawMayWrite_any A n c zs _ hr hc hz).mono ?_
  rintro e w1 ⟨A1, n1, c1, t, A2, m, c2, l, who, node, rfl, hc1, hrt, hn1, hzt, hc2, hrl, hm, hw0, hw3, hb1⟩
  have hT1 := hT.below hb1
  have hmay : ∃ ok, mayF 5 t l who node = ok := ⟨_, rfl⟩
  obtain ⟨ok, hok⟩ := hmay
  go_wp2_with fail
  refine (MayWrite_any _ _ A1 A2 n1 c1 m c2 t l who node _ hrt hc1 hrl hc2 hT1).mono ?_
  rintro e w2 ⟨rfl, hb2⟩
  rw [hok]
  have hB2 := hb1.trans (hb2.mono hb1.size)
  have hrt2 := hrt.below hb2
  have hrl2 := hrl.below hb2
  have HOK := Lib.hid hok
  clear hok
  go_wp2_with fail
  refine (MayWriteS_any _ _ A1 A2 n1 c1 m c2 t l who node _ hrt2 hc1 hzt hrl2).mono ?_
  rintro e w3 ⟨rfl, hb3⟩
  rw [HOK.out]
  have hB3 := hB2.trans (hb3.mono hB2.size)
  have hrt3 := hrt2.below hb3
  have hrl3 := hrl2.below hb3
  have hT3 := hT.below hB3
  have HLT := Lib.hid hrt.len
  clear hrt hrl hrt2 hrl2 hT1 hb1 hb2 hb3 hB2 hr hz
  cases ok with
  | false =>
    go_wp2_with fail
    refine (MayWriteS_any _ _ A1 A2 n1 c1 m c2 t l who node _ hrt3 hc1 hzt hrl3).mono ?_
    rintro e w5 ⟨rfl, hb5⟩
    rw [HOK.out]
    go_wp2_with fail
    go_ret
    exact ⟨rfl, hB3.trans (hb5.mono hB3.size)⟩
  | true =>
  have HVV := Lib.hid (may_valid HOK.out)
  go_wp2_with fail
  go_loopw [8] (fun i wr => ∃ k : Nat, k ≤ 4 ∧ i = .int .i64 k ∧ Below w3.heap.size w3 wr ∧ ∀ a : Int, 0 ≤ a → a < k → Fine t l a) (fun i _ => 4 - (intOf i).toNat)
  case atStart => exact ⟨0, Nat.zero_le _, rfl, Below.refl _ _, fun a h1 h2 => by omega⟩
  case round =>
    rename World => W1
    obtain ⟨k, hk, rfl, hbl0, hF⟩ := hrel
    have HF := Lib.hid hF
    clear hF
    by_cases hlt : k < 4
    · have hlt' : (k : Int) < 4 := by omega
      have HG := Lib.hid (GrainFault_any _ _ A1 A2 n1 c1 m c2 t l k _ (hrt3.below hbl0) hc1 (hrl3.below hbl0) hc2 (hT3.below hbl0))
      by_cases hg : gfF t l k = -1
      · rw [hg] at HG
        have hf1 := (gfF_fine HVV.out.1.1 HVV.out.2).1 hg
        have HN : Hid (∀ a : Int, 0 ≤ a → a < ((k + 1 : Nat) : Int) → Fine t l a) := fun a h1 h2 => by
          by_cases e : a = k
          · rw [e]; exact hf1
          · exact HF.out a h1 (by omega)
        clear hg hf1
        go_wp2_with fail
        refine HG.out.mono ?_
        rintro e w5 ⟨rfl, hb5⟩
        go_wp2_with fail
        go_roundw
        case rel => exact ⟨k + 1, by omega, by go_num, hbl0.trans (hb5.mono hbl0.size), HN.out⟩
        case measure => simp [intOf]; omega
      · have hg' : (gfF t l k != -1) = true := by simpa using hg
        generalize gfF t l k = gf at *
        clear hg
        go_wp2_with fail
        refine HG.out.mono ?_
        rintro e w5 ⟨rfl, hb5⟩
        go_wp2_with fail
        go_ret
        exact ⟨rfl, hB3.trans ((hbl0.trans (hb5.mono hbl0.size)).mono hB3.size)⟩
    have HFA : Hid (∀ a : Int, 0 ≤ a → a ≤ 3 → Fine t l a) := fun a h1 h2 => HF.out a h1 (by omega)
    clear HF
    go_wp2_with fail
    go_loopw [9] (fun i wr => ∃ k : Nat, k ≤ 4 ∧ i = .int .i64 k ∧ Below w3.heap.size w3 wr) (fun i _ => 4 - (intOf i).toNat)
    case atStart => exact ⟨0, Nat.zero_le _, rfl, hbl0⟩
    case round =>
      rename World => W2
      clear hlt hk
      obtain ⟨k, hk, rfl, hbl⟩ := hrel
      by_cases hlt : k < 4
      case neg =>
        obtain rfl : k = 4 := by omega
        go_wp2_with fail
        go_ret
        exact ⟨rfl, hB3.trans (hbl.mono hB3.size)⟩
      have hlt' : (k : Int) < 4 := by omega
      by_cases hne : (k : Int) = who
      · subst hne
        go_wp2_with fail
        go_roundw
        case rel => exact ⟨k + 1, by omega, by go_num, hbl⟩
        case measure => simp [intOf]; omega
      · have hne' : ((k : Int) != who) = true := by simpa using hne
        have hnr : mayF 3 t l k node = false := by
          cases h : mayF 3 t l k node with
          | false => rfl
          | true => exact (may_apart (fun h => hne h) h HOK.out (HFA.out k (by omega) (by omega)) (HFA.out who hw0 hw3)).elim
        have hnw : mayF 5 t l k node = false := by
          cases h : mayF 5 t l k node with
          | false => rfl
          | true => have := may_write_read h; rw [hnr] at this; cases this
        have HNW := Lib.hid hnw
        have HNR := Lib.hid hnr
        clear hnw hnr
        clear hne
        go_wp2_with fail
        refine (MayWrite_any _ _ A1 A2 n1 c1 m c2 t l k node _ (hrt3.below hbl) hc1 (hrl3.below hbl) hc2 (hT3.below hbl)).mono ?_
        rintro e w6 ⟨rfl, hb6⟩
        rw [HNW.out]
        go_wp2_with fail
        refine (MayRead_any _ _ A1 A2 n1 c1 m c2 t l k node _ ((hrt3.below hbl).below hb6) hc1 ((hrl3.below hbl).below hb6) hc2 ((hT3.below hbl).below hb6)).mono ?_
        rintro e w7 ⟨rfl, hb7⟩
        rw [HNR.out]
        go_wp2_with fail
        go_roundw
        case rel => exact ⟨k + 1, by omega, by go_num, (hbl.trans (hb6.mono hbl.size)).trans (hb7.mono (hbl.trans (hb6.mono hbl.size)).size)⟩
        case measure => simp [intOf]; omega
end Go.Proofs.YtkolhdlmpjehfaaDoor
