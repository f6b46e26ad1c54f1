/- The walks of the laws FnGoesAlong, FnGoesAlongOnce, FnGoesAlongShort. -/
import Derived.Test.YtddpdcnbdbnljaaDoorDrawAlong2
namespace Go.Proofs.YtddpdcnbdbnljaaDoor
open Go.RowKit

open Classical in
noncomputable def allB (t : List Nd) (list : List St) (k : Nat) : Bool := decide (∀ j : Nat, j < k → alF t list (j : Int) = -1)
open Classical in
theorem allB_iff {t : List Nd} {list : List St} {k : Nat} : allB t list k = true ↔ ∀ j : Nat, j < k → alF t list (j : Int) = -1 := by unfold allB; exact decide_eq_true_iff
theorem allB_t {t : List Nd} {list : List St} {k : Nat} (h : allB t list k = true) (hq : alF t list (k : Int) = -1) : allB t list (k + 1) = true :=
  allB_iff.2 fun j hj => by
    by_cases e : j = k
    · rw [e]; exact hq
    · exact allB_iff.1 h j (by omega)
theorem allB_f {t : List Nd} {list : List St} {k : Nat} (hq : alF t list (k : Int) ≠ -1) : allB t list (k + 1) = false := by
  cases e : allB t list (k + 1) with
  | false => rfl
  | true => exact absurd (allB_iff.1 e k (by omega)) hq
theorem allB_s {t : List Nd} {list : List St} {k : Nat} (h : allB t list k = false) : allB t list (k + 1) = false := by
  cases e : allB t list (k + 1) with
  | false => rfl
  | true =>
    have : allB t list k = true := allB_iff.2 fun j hj => allB_iff.1 e j (by omega)
    rw [h] at this; cases this
theorem allB_end {t : List Nd} {list : List St} (h1 : VT t) (h2 : VS list) : allB t list 4 = gaB t list := by
  by_cases hg : GA t list
  · rw [gaB_t hg]; exact allB_iff.2 fun j hj => hg.2.2 j (by omega) (by omega)
  · rw [gaB_f hg]
    cases e : allB t list 4 with
    | false => rfl
    | true => exact absurd ⟨h1, h2, fun who h0 h3 => by
        have := allB_iff.1 e who.toNat (by omega)
        rw [show ((who.toNat : Nat) : Int) = who by omega] at this
        exact this⟩ hg
set_option maxRecDepth 100000 in
set_option maxHeartbeats 3200000 in
theorem lawGoesAlongShort (A : Option Addr) (n c : Nat) (zs : List Int) (w : World) (hn : n ≤ 1048576) (hr : Rd cB 1 w 0 A n zs) (hc : n ≤ c) (hz : ∀ (k : Nat) (z : Int), zs[k]? = some z → 0 ≤ z ∧ z ≤ 255) (hT : Tb w) :
    Calls Tryd.prog 12 #[.slice A n c] w fun e w' => e = .returned (.bool true) ∧ Below w.heap.size w w' := by
  have hn' : (n : Int) ≤ 1048576 := by omega
  go_enter Tryd.func12, Tryd.ntmps12
  go_wp2_with fail
  refine (DrawGoesAlong_any A n c zs _ hr hc hz).mono ?_
  rintro e w1 ⟨A1, n1, c1, t, A2, m, c2, list, rfl, hc1, hrt, hn1, hzt, hc2, hrl, hm, hb1⟩
  have hT1 := hT.below hb1
  have HL := Lib.hid hrl.len
  have HGA : Hid (∀ (k : Nat) w', k ≤ m → Below w1.heap.size w1 w' → Calls Tryd.prog 39 #[.slice A1 n1 c1, .slice A2 k c2] w' fun e w'' => e = .returned (.bool (gaB t (list.take k))) ∧ Below w'.heap.size w' w'') := fun k w' hk hb' =>
    GoesAlong_any _ _ A1 A2 n1 c1 k c2 t (list.take k) w' (hrt.below hb') hc1 ((hrl.take hk).below hb') (by omega) (hT1.below hb')
  have HGS : Hid (∀ w', Below w1.heap.size w1 w' → Calls Tryd.prog 40 #[.slice A1 n1 c1, .slice A2 m c2] w' fun e w'' => e = .returned (.bool (gaB t list)) ∧ Below w'.heap.size w' w'') := fun w' hb' =>
    GoesAlongS_any _ _ A1 A2 n1 c1 m c2 t list w' (hrt.below hb') hc1 hzt (hrl.below hb') (by omega)
  have HALL := Lib.hid (List.take_of_length_le (by have := HL.out; omega) : list.take m = list)
  have HG1 := Lib.hid (HGA.out m w1 (Nat.le_refl _) (Below.refl _ _))
  rw [HALL.out] at HG1
  have hs1 := hb1.size
  by_cases hg : GA t list
  case neg =>
    have HF := Lib.hid (gaB_f hg)
    rw [HF.out] at HG1 HGS
    clear hg
    go_wp2_with fail
    refine HG1.out.mono ?_
    rintro e w2 ⟨rfl, hb2⟩
    have HG2 := Lib.hid (HGS.out w2 hb2)
    go_wp2_with fail
    refine HG2.out.mono ?_
    rintro e w3 ⟨rfl, hb3⟩
    have hB3 := hb2.trans (hb3.mono hb2.size)
    have HG3 := Lib.hid (HGS.out w3 hB3)
    go_wp2_with fail
    refine HG3.out.mono ?_
    rintro e w4 ⟨rfl, hb4⟩
    go_wp2_with fail
    go_ret
    exact ⟨rfl, hb1.trans ((hB3.trans (hb4.mono hB3.size)).mono hs1)⟩
  have HF := Lib.hid (gaB_t hg)
  rw [HF.out] at HG1 HGS
  have HGG := Lib.hid hg
  clear hg
  by_cases hm0 : m = 0
  · subst hm0
    go_wp2_with fail
    refine HG1.out.mono ?_
    rintro e w2 ⟨rfl, hb2⟩
    have HG2 := Lib.hid (HGS.out w2 hb2)
    go_wp2_with fail
    refine HG2.out.mono ?_
    rintro e w3 ⟨rfl, hb3⟩
    have hB3 := hb2.trans (hb3.mono hb2.size)
    have HG3 := Lib.hid (HGS.out w3 hB3)
    go_wp2_with fail
    refine HG3.out.mono ?_
    rintro e w4 ⟨rfl, hb4⟩
    go_wp2_with fail
    go_ret
    exact ⟨rfl, hb1.trans ((hB3.trans (hb4.mono hB3.size)).mono hs1)⟩
  obtain ⟨p, rfl⟩ : ∃ p, m = p + 1 := ⟨m - 1, by omega⟩
  have hp1 : (((p + 1 : Nat) : Int) == 0) = false := by simp; omega
  have hp2 : ((p + 1 : Nat) : Int) - 1 = (p : Int) := by omega
  go_wp2_with fail
  refine HG1.out.mono ?_
  rintro e w2 ⟨rfl, hb2⟩
  have HG2 := Lib.hid (HGS.out w2 hb2)
  go_wp2_with fail
  refine HG2.out.mono ?_
  rintro e w3 ⟨rfl, hb3⟩
  have hB3 := hb2.trans (hb3.mono hb2.size)
  have HG4 := Lib.hid (HGA.out p w3 (by omega) hB3)
  rw [gaB_t (HGG.out.take p)] at HG4
  go_wp2_with fail
  refine HG4.out.mono ?_
  rintro e w4 ⟨rfl, hb4⟩
  go_wp2_with fail
  go_ret
  exact ⟨rfl, hb1.trans ((hB3.trans (hb4.mono hB3.size)).mono hs1)⟩
set_option maxRecDepth 100000 in
set_option maxHeartbeats 3200000 in
theorem lawGoesAlongOnce (A : Option Addr) (n c : Nat) (zs : List Int) (w : World) (hn : n ≤ 1048576) (hr : Rd cB 1 w 0 A n zs) (hc : n ≤ c) (hz : ∀ (k : Nat) (z : Int), zs[k]? = some z → 0 ≤ z ∧ z ≤ 255) (hT : Tb w) :
    Calls Tryd.prog 11 #[.slice A n c] w fun e w' => e = .returned (.bool true) ∧ Below w.heap.size w w' := by
  have hn' : (n : Int) ≤ 1048576 := by omega
  go_enter Tryd.func11, Tryd.ntmps11
  go_wp2_with fail
  refine (DrawGoesAlong_any A n c zs _ hr hc hz).mono ?_
  rintro e w1 ⟨A1, n1, c1, t, A2, m, c2, list, rfl, hc1, hrt, hn1, hzt, hc2, hrl, hm, hb1⟩
  have hT1 := hT.below hb1
  have HL := Lib.hid hrl.len
  have HGA : Hid (∀ (k : Nat) w', k ≤ m → Below w1.heap.size w1 w' → Calls Tryd.prog 39 #[.slice A1 n1 c1, .slice A2 k c2] w' fun e w'' => e = .returned (.bool (gaB t (list.take k))) ∧ Below w'.heap.size w' w'') := fun k w' hk hb' =>
    GoesAlong_any _ _ A1 A2 n1 c1 k c2 t (list.take k) w' (hrt.below hb') hc1 ((hrl.take hk).below hb') (by omega) (hT1.below hb')
  have HGS : Hid (∀ w', Below w1.heap.size w1 w' → Calls Tryd.prog 40 #[.slice A1 n1 c1, .slice A2 m c2] w' fun e w'' => e = .returned (.bool (gaB t list)) ∧ Below w'.heap.size w' w'') := fun w' hb' =>
    GoesAlongS_any _ _ A1 A2 n1 c1 m c2 t list w' (hrt.below hb') hc1 hzt (hrl.below hb') (by omega)
  have HALL := Lib.hid (List.take_of_length_le (by have := HL.out; omega) : list.take m = list)
  have HG1 := Lib.hid (HGA.out m w1 (Nat.le_refl _) (Below.refl _ _))
  rw [HALL.out] at HG1
  have hs1 := hb1.size
  by_cases hg : GA t list
  case neg =>
    have HF := Lib.hid (gaB_f hg)
    rw [HF.out] at HG1 HGS
    clear hg
    go_wp2_with fail
    refine HG1.out.mono ?_
    rintro e w2 ⟨rfl, hb2⟩
    have HG2 := Lib.hid (HGS.out w2 hb2)
    go_wp2_with fail
    refine HG2.out.mono ?_
    rintro e w3 ⟨rfl, hb3⟩
    have hB3 := hb2.trans (hb3.mono hb2.size)
    have HG3 := Lib.hid (HGS.out w3 hB3)
    go_wp2_with fail
    refine HG3.out.mono ?_
    rintro e w4 ⟨rfl, hb4⟩
    go_wp2_with fail
    go_ret
    exact ⟨rfl, hb1.trans ((hB3.trans (hb4.mono hB3.size)).mono hs1)⟩
  have HF := Lib.hid (gaB_t hg)
  rw [HF.out] at HG1 HGS
  have HGG := Lib.hid hg
  clear hg
  go_wp2_with fail
  refine HG1.out.mono ?_
  rintro e w2 ⟨rfl, hb2⟩
  have HG2 := Lib.hid (HGS.out w2 hb2)
  go_wp2_with fail
  refine HG2.out.mono ?_
  rintro e w3 ⟨rfl, hb3⟩
  have hB3 := hb2.trans (hb3.mono hb2.size)
  have hrl3 := hrl.below hB3
  have hB0 := hb1.trans (hB3.mono hs1)
  clear HG1 HG2 HGS HGA hb2 hb3
  go_wp2_with fail
  go_loopw [6] (fun i wr => ∃ k : Nat, k ≤ m ∧ i = .int .i64 k ∧ Below w3.heap.size w3 wr) (fun i _ => m - (intOf i).toNat)
  case atStart => exact ⟨0, Nat.zero_le _, rfl, Below.refl _ _⟩
  case round =>
    rename World => W1
    obtain ⟨k, hk, rfl, hbl⟩ := hrel
    by_cases hlt : k < m
    case neg =>
      go_wp2_with fail
      go_ret
      exact ⟨rfl, hB0.trans (hbl.mono hB0.size)⟩
    go_wp2_with fail
    go_loopw [7] (fun i wr => ∃ j : Nat, j ≤ k ∧ i = .int .i64 j ∧ Below w3.heap.size w3 wr) (fun i _ => k - (intOf i).toNat)
    case atStart => exact ⟨0, Nat.zero_le _, rfl, hbl⟩
    case round =>
      rename World => W2
      obtain ⟨j, hj, rfl, hbl2⟩ := hrel
      by_cases hlt2 : j < k
      case neg =>
        go_wp2_with fail
        go_roundw
        case rel => exact ⟨k + 1, by omega, by go_num, hbl2⟩
        case measure => simp [intOf]; omega
      obtain ⟨b, o, x, rfl, _, hb, hx, g0, g1, g2, g3⟩ := (hrl3.below hbl2).atS hlt
      obtain ⟨b', o', y, hA, _, _, hy, d0, d1, d2, d3⟩ := (hrl3.below hbl2).atS (k := j) (by omega)
      injection hA with hA
      injection hA with e1 e2 _
      subst e1 e2
      have HON : Hid (x.free = false → y.free = false → x.who = y.who → x.node = y.node → False) := fun h1 h2 h3 h4 => by
        have := HGG.out.once (i := k) (j := j) (a := x.who) (n := x.node) ⟨x, hx, ⟨rfl, h1⟩, rfl⟩ ⟨y, hy, ⟨h3.symm, h2⟩, h4.symm⟩
        omega
      obtain ⟨xw, xf, xn, xm⟩ := x
      obtain ⟨yw, yf, yn, ym⟩ := y
      simp only at g0 g1 g2 g3 d0 d1 d2 d3 HON
      have a0 := aft g0
      have a1 := aft g1
      have a2 := aft g2
      have b0 := aft d0
      have b1 := aft d1
      have b2 := aft d2
      have q1 : (j : Int) < (m : Int) := by omega
      have q2 : (k : Int) < (m : Int) := by omega
      clear hx hy
      cases xf with
      | true =>
        go_wp2_with fail
        refine wp_region_after (by kernel_rfl) (by kernel_rfl) ?_
        repeat (go_big_quiet_step (fail))
        refine wpQuiet_nil ?_
        intro w7 hb7
        go_wp2_with fail
        go_roundw
        case rel => exact ⟨j + 1, by omega, by go_num, hbl2.trans (hb7.mono hbl2.size)⟩
        case measure => simp [intOf]; omega
      | false =>
        cases yf with
        | true =>
          go_wp2_with fail
          refine wp_region_after (by kernel_rfl) (by kernel_rfl) ?_
          repeat (go_big_quiet_step (fail))
          refine wpQuiet_nil ?_
          intro w7 hb7
          go_wp2_with fail
          go_roundw
          case rel => exact ⟨j + 1, by omega, by go_num, hbl2.trans (hb7.mono hbl2.size)⟩
          case measure => simp [intOf]; omega
        | false =>
          by_cases e1 : xw = yw
          · by_cases e2 : xn = yn
            · exact (HON.out rfl rfl e1 e2).elim
            · have h1 : (xw == yw) = true := by simpa using e1
              have h2 : (xn == yn) = false := by simpa using e2
              clear e1 e2
              go_wp2_with fail
              refine wp_region_after (by kernel_rfl) (by kernel_rfl) ?_
              repeat (go_big_quiet_step (fail))
              refine wpQuiet_nil ?_
              intro w7 hb7
              go_wp2_with fail
              go_roundw
              case rel => exact ⟨j + 1, by omega, by go_num, hbl2.trans (hb7.mono hbl2.size)⟩
              case measure => simp [intOf]; omega
          · have h1 : (xw == yw) = false := by simpa using e1
            clear e1
            go_wp2_with fail
            refine wp_region_after (by kernel_rfl) (by kernel_rfl) ?_
            repeat (go_big_quiet_step (fail))
            refine wpQuiet_nil ?_
            intro w7 hb7
            go_wp2_with fail
            go_roundw
            case rel => exact ⟨j + 1, by omega, by go_num, hbl2.trans (hb7.mono hbl2.size)⟩
            case measure => simp [intOf]; omega
set_option maxRecDepth 100000 in
set_option maxHeartbeats 3200000 in
theorem lawGoesAlong (A : Option Addr) (n c : Nat) (zs : List Int) (w : World) (hn : n ≤ 1048576) (hr : Rd cB 1 w 0 A n zs) (hc : n ≤ c) (hz : ∀ (k : Nat) (z : Int), zs[k]? = some z → 0 ≤ z ∧ z ≤ 255) (hT : Tb w) :
    Calls Tryd.prog 10 #[.slice A n c] w fun e w' => e = .returned (.bool true) ∧ Below w.heap.size w w' := by
  have hn' : (n : Int) ≤ 1048576 := by omega
  go_enter Tryd.func10, Tryd.ntmps10
  go_wp2_with fail
  refine (DrawGoesAlong_any A n c zs _ hr hc hz).mono ?_
  rintro e w1 ⟨A1, n1, c1, t, A2, m, c2, list, rfl, hc1, hrt, hn1, hzt, hc2, hrl, hm, hb1⟩
  have hT1 := hT.below hb1
  have HL := Lib.hid hrl.len
  have HGA : Hid (∀ (k : Nat) w', k ≤ m → Below w1.heap.size w1 w' → Calls Tryd.prog 39 #[.slice A1 n1 c1, .slice A2 k c2] w' fun e w'' => e = .returned (.bool (gaB t (list.take k))) ∧ Below w'.heap.size w' w'') := fun k w' hk hb' =>
    GoesAlong_any _ _ A1 A2 n1 c1 k c2 t (list.take k) w' (hrt.below hb') hc1 ((hrl.take hk).below hb') (by omega) (hT1.below hb')
  have HGS : Hid (∀ w', Below w1.heap.size w1 w' → Calls Tryd.prog 40 #[.slice A1 n1 c1, .slice A2 m c2] w' fun e w'' => e = .returned (.bool (gaB t list)) ∧ Below w'.heap.size w' w'') := fun w' hb' =>
    GoesAlongS_any _ _ A1 A2 n1 c1 m c2 t list w' (hrt.below hb') hc1 hzt (hrl.below hb') (by omega)
  have HALL := Lib.hid (List.take_of_length_le (by have := HL.out; omega) : list.take m = list)
  have HG1 := Lib.hid (HGA.out m w1 (Nat.le_refl _) (Below.refl _ _))
  rw [HALL.out] at HG1
  have hs1 := hb1.size
  have HVT := Lib.hid (fun w' (hb' : Below w1.heap.size w1 w') => ValidTree_any _ A1 n1 c1 t w' (hrt.below hb') hc1)
  have HVS := Lib.hid (fun w' (hb' : Below w1.heap.size w1 w') => ValidSteps_any _ A2 m c2 list w' (hrl.below hb') (by omega) (hT1.below hb'))
  have hR : ∃ R, gaB t list = R := ⟨_, rfl⟩
  obtain ⟨R, hR⟩ := hR
  rw [hR] at HG1 HGS
  have HR := Lib.hid hR
  clear hR
  by_cases hv1 : VT t
  case neg =>
    have e0 : R = false := by rw [← HR.out]; exact gaB_f fun h => hv1 h.1
    subst e0
    rw [vt_false hv1] at HVT
    go_wp2_with fail
    refine HG1.out.mono ?_
    rintro e w2 ⟨rfl, hb2⟩
    have HG2 := Lib.hid (HGS.out w2 hb2)
    go_wp2_with fail
    refine HG2.out.mono ?_
    rintro e w3 ⟨rfl, hb3⟩
    have hB3 := hb2.trans (hb3.mono hb2.size)
    have HVT3 := Lib.hid (HVT.out w3 hB3)
    go_wp2_with fail
    refine HVT3.out.mono ?_
    rintro e w4 ⟨rfl, hb4⟩
    have hB4 := hB3.trans (hb4.mono hB3.size)
    have HG4 := Lib.hid (HGS.out w4 hB4)
    go_wp2_with fail
    refine HG4.out.mono ?_
    rintro e w5 ⟨rfl, hb5⟩
    go_wp2_with fail
    go_ret
    exact ⟨rfl, hb1.trans ((hB4.trans (hb5.mono hB4.size)).mono hs1)⟩
  rw [vt_true hv1] at HVT
  by_cases hv2 : VS list
  case neg =>
    have e0 : R = false := by rw [← HR.out]; exact gaB_f fun h => hv2 h.2.1
    subst e0
    rw [vsB_f hv2] at HVS
    go_wp2_with fail
    refine HG1.out.mono ?_
    rintro e w2 ⟨rfl, hb2⟩
    have HG2 := Lib.hid (HGS.out w2 hb2)
    go_wp2_with fail
    refine HG2.out.mono ?_
    rintro e w3 ⟨rfl, hb3⟩
    have hB3 := hb2.trans (hb3.mono hb2.size)
    have HVT3 := Lib.hid (HVT.out w3 hB3)
    go_wp2_with fail
    refine HVT3.out.mono ?_
    rintro e w4 ⟨rfl, hb4⟩
    have hB4 := hB3.trans (hb4.mono hB3.size)
    have HVS4 := Lib.hid (HVS.out w4 hB4)
    go_wp2_with fail
    refine HVS4.out.mono ?_
    rintro e w5 ⟨rfl, hb5⟩
    have hB5 := hB4.trans (hb5.mono hB4.size)
    have HG5 := Lib.hid (HGS.out w5 hB5)
    go_wp2_with fail
    refine HG5.out.mono ?_
    rintro e w6 ⟨rfl, hb6⟩
    go_wp2_with fail
    go_ret
    exact ⟨rfl, hb1.trans ((hB5.trans (hb6.mono hB5.size)).mono hs1)⟩
  rw [vsB_t hv2] at HVS
  have HAF : Hid (∀ (who : Int) w', Below w1.heap.size w1 w' → Calls Tryd.prog 35 #[.slice A1 n1 c1, .slice A2 m c2, .int .i64 who] w' fun e w'' => e = .returned (.int .i64 (alF t list who)) ∧ Below w'.heap.size w' w'') := fun who w' hb' => by
    have := AlongFault_any _ _ A1 A2 n1 c1 m c2 t list who w' (hrt.below hb') hc1 (hrl.below hb') (by omega) (hT1.below hb')
    rw [alI_yes hv1 hv2] at this
    exact this
  have HB0 : Hid (allB t list 0 = true) := (rfl : _ = _)
  have HBT : Hid (∀ k, allB t list k = true → alF t list (k : Int) = -1 → allB t list (k + 1) = true) := fun k h1 h2 => allB_t h1 h2
  have HBF : Hid (∀ k, allB t list k = true → alF t list (k : Int) ≠ -1 → allB t list (k + 1) = false) := fun k _ h2 => allB_f h2
  have HBS : Hid (∀ k, allB t list k = false → allB t list (k + 1) = false) := fun k h => allB_s h
  have HBE : Hid (allB t list 4 = R) := by rw [← HR.out]; exact Lib.hid (allB_end hv1 hv2)
  have HNIL : Hid (∀ w', Below w1.heap.size w1 w' → Calls Tryd.prog 39 #[.slice A1 n1 c1, .slice none 0 0] w' fun e w'' => e = .returned (.bool true) ∧ Below w'.heap.size w' w'') := fun w' hb' => by
    have := GoesAlong_any _ 0 A1 none n1 c1 0 0 t [] w' (hrt.below hb') hc1 Rd.nil (by omega) (hT1.below hb')
    rw [gaB_t (GA.nil hv1)] at this
    exact this
  have hRR : (R != R) = false := by cases R <;> rfl
  clear hv1 hv2 HR
  go_wp2_with fail
  refine HG1.out.mono ?_
  rintro e w2 ⟨rfl, hb2⟩
  have HG2 := Lib.hid (HGS.out w2 hb2)
  go_wp2_with fail
  refine HG2.out.mono ?_
  rintro e w3 ⟨rfl, hb3⟩
  have hB3 := hb2.trans (hb3.mono hb2.size)
  have HVT3 := Lib.hid (HVT.out w3 hB3)
  go_wp2_with fail
  refine HVT3.out.mono ?_
  rintro e w4 ⟨rfl, hb4⟩
  have hB4 := hB3.trans (hb4.mono hB3.size)
  have HVS4 := Lib.hid (HVS.out w4 hB4)
  go_wp2_with fail
  refine HVS4.out.mono ?_
  rintro e w5 ⟨rfl, hb5⟩
  have hB5 := hB4.trans (hb5.mono hB4.size)
  clear HG1 HG2 HGS HGA HVT HVS HVT3 HVS4 hb2 hb3 hb4 hb5 hB3 hB4
  go_wp2_with fail
  go_loopw [6, 7] (fun v i wr => ∃ k : Nat, k ≤ 4 ∧ i = .int .i64 k ∧ v = .bool (allB t list k) ∧ Below w1.heap.size w1 wr) (fun _ i _ => 4 - (intOf i).toNat)
  case atStart => exact ⟨0, Nat.zero_le _, rfl, by rw [HB0.out], hB5⟩
  case round =>
    rename World => W1
    obtain ⟨k, hk, rfl, rfl, hbl⟩ := hrel
    have hs := hbl.size
    by_cases hlt : k < 4
    case neg =>
      have hk4 : allB t list k = R := by rw [show k = 4 by omega]; exact HBE.out
      rw [hk4]
      have hRE : (R == R) = true := by cases R <;> rfl
      have HN := Lib.hid (HNIL.out W1 hbl)
      clear hk4
      go_wp2_with fail
      refine HN.out.mono ?_
      rintro e w6 ⟨rfl, hb6⟩
      go_wp2_with fail
      go_ret
      exact ⟨rfl, hb1.trans ((hbl.trans (hb6.mono hs)).mono hs1)⟩
    have hlt' : (k : Int) < 4 := by omega
    have HA := Lib.hid (HAF.out (k : Int) W1 hbl)
    have HT1 := Lib.hid (HBT.out k)
    have HT2 := Lib.hid (HBF.out k)
    have HT3 := Lib.hid (HBS.out k)
    generalize allB t list k = B at *
    generalize alF t list (k : Int) = q at *
    cases B with
    | false =>
      have HN := Lib.hid (HT3.out rfl)
      go_wp2_with fail
      go_roundw
      case rel => exact ⟨k + 1, by omega, by go_num, by rw [HN.out], hbl⟩
      case measure => simp [intOf]; omega
    | true =>
      by_cases hq : q = -1
      · have HN := Lib.hid (HT1.out rfl hq)
        have hq' : (q == -1) = true := by simpa using hq
        clear hq
        go_wp2_with fail
        refine HA.out.mono ?_
        rintro e w6 ⟨rfl, hb6⟩
        go_wp2_with fail
        go_roundw
        case rel => exact ⟨k + 1, by omega, by go_num, by rw [HN.out], hbl.trans (hb6.mono hs)⟩
        case measure => simp [intOf]; omega
      · have HN := Lib.hid (HT2.out rfl hq)
        have hq' : (q == -1) = false := by simpa using hq
        clear hq
        go_wp2_with fail
        refine HA.out.mono ?_
        rintro e w6 ⟨rfl, hb6⟩
        go_wp2_with fail
        go_roundw
        case rel => exact ⟨k + 1, by omega, by go_num, by rw [HN.out], hbl.trans (hb6.mono hs)⟩
        case measure => simp [intOf]; omega
end Go.Proofs.YtddpdcnbdbnljaaDoor
