/- The walks of the laws FnAlongFault, FnAlongFaultFirst, FnAlongFaultShort. -/
import Derived.Test.YtddpdcnbdbnljaaDoorDrawAlong2
namespace Go.Proofs.YtddpdcnbdbnljaaDoor
open Go.RowKit

theorem alI_take {t : List Nd} {list : List St} {who : Int} {k i : Nat} (h1 : VT t) (h2 : VS list) (hk : k ≤ list.length) (ht : fltB t list who i = true) (h : ∀ j, j < i → fltB t list who j = false) :
    (k ≤ i → alI t (list.take k) who = -1) ∧ (i < k → alI t (list.take k) who = i) := by
  rw [alI_yes h1 (h2.take k)]
  exact ⟨fun hi => alF_take hk fun j hj => h j (by omega), fun hi => alF_take_hit hk hi ht h⟩
set_option maxRecDepth 100000 in
set_option maxHeartbeats 3200000 in
theorem lawAlongFault (A : Option Addr) (n c : Nat) (zs : List Int) (w : World) (hn : n ≤ 1048576) (hr : Rd cB 1 w 0 A n zs) (hc : n ≤ c) (hz : ∀ (k : Nat) (z : Int), zs[k]? = some z → 0 ≤ z ∧ z ≤ 255) (hT : Tb w) :
    Calls Tryd.prog 7 #[.slice A n c] w fun e w' => e = .returned (.bool true) ∧ Below w.heap.size w w' := by
  have hn' : (n : Int) ≤ 1048576 := by omega
  go_enter Tryd.func7, Tryd.ntmps7
  go_wp2_with fail
  refine (DrawAlongFault_any A n c zs _ hr hc hz).mono ?_
  rintro e w1 ⟨A1, n1, c1, t, A2, m, c2, list, who, rfl, hc1, hrt, hn1, hzt, hc2, hrl, hm, hw0, hw3, hb1⟩
  have hT1 := hT.below hb1
  have HL := Lib.hid hrl.len
  have HLT := Lib.hid hrt.len
  have HAF : Hid (∀ w', Below w1.heap.size w1 w' → Calls Tryd.prog 35 #[.slice A1 n1 c1, .slice A2 m c2, .int .i64 who] w' fun e w'' => e = .returned (.int .i64 (alI t list who)) ∧ Below w'.heap.size w' w'') := fun w' hb' =>
    AlongFault_any _ _ A1 A2 n1 c1 m c2 t list who w' (hrt.below hb') hc1 (hrl.below hb') (by omega) (hT1.below hb')
  have HAS : Hid (∀ w', Below w1.heap.size w1 w' → Calls Tryd.prog 36 #[.slice A1 n1 c1, .slice A2 m c2, .int .i64 who] w' fun e w'' => e = .returned (.int .i64 (alI t list who)) ∧ Below w'.heap.size w' w'') := fun w' hb' =>
    AlongFaultS_any _ _ A1 A2 n1 c1 m c2 t list who w' (hrt.below hb') hc1 hzt (hrl.below hb') (by omega)
  have HAT : Hid (∀ (k : Nat) w', k ≤ m → Below w1.heap.size w1 w' → Calls Tryd.prog 35 #[.slice A1 n1 c1, .slice A2 k c2, .int .i64 who] w' fun e w'' => e = .returned (.int .i64 (alI t (list.take k) who)) ∧ Below w'.heap.size w' w'') := fun k w' hk hb' =>
    AlongFault_any _ _ A1 A2 n1 c1 k c2 t (list.take k) who w' (hrt.below hb') hc1 ((hrl.take hk).below hb') (by omega) (hT1.below hb')
  have HCS := Lib.hid (alI_cases t list who)
  have HTK : Hid (∀ (k i : Nat), VT t → VS list → k ≤ m → fltB t list who i = true → (∀ j, j < i → fltB t list who j = false) → (k ≤ i → alI t (list.take k) who = -1) ∧ (i < k → alI t (list.take k) who = i)) := fun k i h1 h2 hk ht h => alI_take h1 h2 (by have := HL.out; omega) ht h
  generalize hq : alI t list who = q at *
  have HQ := Lib.hid hq
  clear hr hz hT hq
  have HA1 := Lib.hid (HAF.out w1 (Below.refl _ _))
  go_wp2_with fail
  refine HA1.out.mono ?_
  rintro e w2 ⟨rfl, hb2⟩
  have HA2 := Lib.hid (HAS.out w2 hb2)
  have hs1 := hb1.size
  go_wp2_with fail
  refine HA2.out.mono ?_
  rintro e w3 ⟨rfl, hb3⟩
  have hB3 := hb2.trans (hb3.mono hb2.size)
  have HA3 := Lib.hid (HAS.out w3 hB3)
  rcases HCS.out with hq1 | ⟨hv1, hv2, i, hqi, _, hil, hf, hbef⟩
  · subst hq1
    clear HCS
    go_wp2_with fail
    refine HA3.out.mono ?_
    rintro e w4 ⟨rfl, hb4⟩
    go_wp2_with fail
    go_ret
    exact ⟨rfl, hb1.trans ((hB3.trans (hb4.mono hB3.size)).mono hs1)⟩
  subst hqi
  have hm' : ¬ (m : Int) ≤ (i : Int) := by have := HL.out; omega
  have him : i < m := by have := HL.out; omega
  obtain ⟨b, o, x, rfl, _, hb, hx, g0, g1, g2, g3⟩ := (hrl.below hB3).atS him
  obtain ⟨x', hx', ht⟩ := fltB_takes hf
  rw [hx] at hx'
  injection hx' with hx'
  subst hx'
  have HT1 := Lib.hid (HAT.out i w3 (by omega) hB3)
  rw [(HTK.out i i hv1 hv2 (by omega) hf hbef).1 (Nat.le_refl _)] at HT1
  have HT2 : Hid (∀ w', Below w1.heap.size w1 w' → Calls Tryd.prog 35 #[.slice A1 n1 c1, .slice (some ⟨b, o, none⟩) (i + 1) c2, .int .i64 who] w' fun e w'' => e = .returned (.int .i64 (i : Nat)) ∧ Below w'.heap.size w' w'') := fun w' hb' => by
    have := HAT.out (i + 1) w' (by omega) hb'
    rw [(HTK.out (i + 1) i hv1 hv2 (by omega) hf hbef).2 (by omega)] at this
    exact this
  obtain ⟨xw, xf, xn, xm⟩ := x
  obtain ⟨rfl, rfl⟩ : xw = who ∧ xf = false := ht
  simp only at g0 g1 g2 g3
  have hq0 : (0 : Int) ≤ (i : Int) + 1 := by omega
  have hq1 : (i : Int) + 1 ≤ (m : Int) := by omega
  have hq2 : (i : Int) + 1 ≤ (c2 : Int) := by omega
  have hq3 : ((i : Int) + 1).toNat = i + 1 := by omega
  clear HCS hx hf hbef hv1 hv2 hil HTK HAT
  go_wp2_with fail
  refine HT1.out.mono ?_
  rintro e w4 ⟨rfl, hb4⟩
  have hB4 := hB3.trans (hb4.mono hB3.size)
  have HT3 := Lib.hid (HT2.out w4 hB4)
  go_wp2_with fail
  refine HT3.out.mono ?_
  rintro e w5 ⟨rfl, hb5⟩
  go_wp2_with fail
  go_ret
  exact ⟨rfl, hb1.trans ((hB4.trans (hb5.mono hB4.size)).mono hs1)⟩
set_option maxRecDepth 100000 in
set_option maxHeartbeats 3200000 in
theorem lawAlongFaultFirst (A : Option Addr) (n c : Nat) (zs : List Int) (w : World) (hn : n ≤ 1048576) (hr : Rd cB 1 w 0 A n zs) (hc : n ≤ c) (hz : ∀ (k : Nat) (z : Int), zs[k]? = some z → 0 ≤ z ∧ z ≤ 255) (hT : Tb w) :
    Calls Tryd.prog 8 #[.slice A n c] w fun e w' => e = .returned (.bool true) ∧ Below w.heap.size w w' := by
  have hn' : (n : Int) ≤ 1048576 := by omega
  go_enter Tryd.func8, Tryd.ntmps8
  go_wp2_with fail
  refine (DrawAlongFault_any A n c zs _ hr hc hz).mono ?_
  rintro e w1 ⟨A1, n1, c1, t, A2, m, c2, list, who, rfl, hc1, hrt, hn1, hzt, hc2, hrl, hm, hw0, hw3, hb1⟩
  have hT1 := hT.below hb1
  have HL := Lib.hid hrl.len
  have HLT := Lib.hid hrt.len
  have HAF : Hid (∀ w', Below w1.heap.size w1 w' → Calls Tryd.prog 35 #[.slice A1 n1 c1, .slice A2 m c2, .int .i64 who] w' fun e w'' => e = .returned (.int .i64 (alI t list who)) ∧ Below w'.heap.size w' w'') := fun w' hb' =>
    AlongFault_any _ _ A1 A2 n1 c1 m c2 t list who w' (hrt.below hb') hc1 (hrl.below hb') (by omega) (hT1.below hb')
  have HAS : Hid (∀ w', Below w1.heap.size w1 w' → Calls Tryd.prog 36 #[.slice A1 n1 c1, .slice A2 m c2, .int .i64 who] w' fun e w'' => e = .returned (.int .i64 (alI t list who)) ∧ Below w'.heap.size w' w'') := fun w' hb' =>
    AlongFaultS_any _ _ A1 A2 n1 c1 m c2 t list who w' (hrt.below hb') hc1 hzt (hrl.below hb') (by omega)
  have HAT : Hid (∀ (k : Nat) w', k ≤ m → Below w1.heap.size w1 w' → Calls Tryd.prog 35 #[.slice A1 n1 c1, .slice A2 k c2, .int .i64 who] w' fun e w'' => e = .returned (.int .i64 (alI t (list.take k) who)) ∧ Below w'.heap.size w' w'') := fun k w' hk hb' =>
    AlongFault_any _ _ A1 A2 n1 c1 k c2 t (list.take k) who w' (hrt.below hb') hc1 ((hrl.take hk).below hb') (by omega) (hT1.below hb')
  have HCS := Lib.hid (alI_cases t list who)
  have HTK : Hid (∀ (k i : Nat), VT t → VS list → k ≤ m → fltB t list who i = true → (∀ j, j < i → fltB t list who j = false) → (k ≤ i → alI t (list.take k) who = -1) ∧ (i < k → alI t (list.take k) who = i)) := fun k i h1 h2 hk ht h => alI_take h1 h2 (by have := HL.out; omega) ht h
  generalize hq : alI t list who = q at *
  have HQ := Lib.hid hq
  clear hr hz hT hq
  have HA1 := Lib.hid (HAF.out w1 (Below.refl _ _))
  go_wp2_with fail
  refine HA1.out.mono ?_
  rintro e w2 ⟨rfl, hb2⟩
  have HA2 := Lib.hid (HAS.out w2 hb2)
  have hs1 := hb1.size
  go_wp2_with fail
  refine HA2.out.mono ?_
  rintro e w3 ⟨rfl, hb3⟩
  have hB3 := hb2.trans (hb3.mono hb2.size)
  have HA3 := Lib.hid (HAS.out w3 hB3)
  rcases HCS.out with hq1 | ⟨hv1, hv2, i, hqi, _, hil, hf, hbef⟩
  · subst hq1
    clear HCS
    go_wp2_with fail
    refine HA3.out.mono ?_
    rintro e w4 ⟨rfl, hb4⟩
    go_wp2_with fail
    go_ret
    exact ⟨rfl, hb1.trans ((hB3.trans (hb4.mono hB3.size)).mono hs1)⟩
  subst hqi
  have hm' : ¬ (m : Int) ≤ (i : Int) := by have := HL.out; omega
  have him : i < m := by have := HL.out; omega
  have HFI : Hid ((∀ (j : Nat) (y : St), j < i → list[j]? = some y → ¬ Takes y who) → ∀ x, list[i]? = some x → x.mode ≠ 5 ∨ (t.length : Int) ≤ x.node) := fun h0 x hx => flt_first hv2 hf hx h0
  have hrl3 := hrl.below hB3
  have hB0 := hb1.trans (hB3.mono hs1)
  clear HCS hf hbef hv1 hv2 HTK HAT
  go_wp2_with fail
  go_loop [7] (fun v => ∃ k : Nat, k ≤ i ∧ v = .int .i64 k ∧ ∀ (j : Nat) (y : St), j < k → list[j]? = some y → ¬ Takes y who) (fun v => i - (intOf v).toNat)
  case atStart => exact ⟨0, Nat.zero_le _, rfl, fun j y h => by omega⟩
  case round =>
    obtain ⟨k, hk, rfl, hall⟩ := hrel
    have HALL := Lib.hid hall
    clear hall
    by_cases hlt : k < i
    case neg =>
      have hki : k = i := by omega
      obtain ⟨b, o, x, rfl, _, hb, hx, g0, g1, g2, g3⟩ := hrl3.atS him
      have hfl := HFI.out (fun j y hj => HALL.out j y (by omega)) x hx
      have HLT2 := HLT.out
      rw [HLT2] at hfl
      obtain ⟨xw, xf, xn, xm⟩ := x
      simp only at g0 g1 g2 g3 hfl
      clear hx HLT2
      by_cases e5 : xm = 5
      · have hge : (n1 : Int) ≤ xn := hfl.resolve_left fun h => h e5
        have e5' : (xm != 5) = false := by simpa using e5
        clear hfl e5
        go_wp2_with fail
        go_ret
        exact ⟨ret_bool (by first | rfl | (simp; omega)), hB0⟩
      · have e5' : (xm != 5) = true := by simpa using e5
        clear hfl e5
        go_wp2_with fail
        go_ret
        exact ⟨rfl, hB0⟩
    obtain ⟨b, o, x, rfl, _, hb, hx, g0, g1, g2, g3⟩ := hrl3.atS (k := k) (by omega)
    have HNX : Hid (¬ Takes x who → ∀ (j : Nat) (y : St), j < k + 1 → list[j]? = some y → ¬ Takes y who) := fun h j y hj hy => by
      by_cases e : j = k
      · subst e; rw [hx] at hy; injection hy with hy; subst hy; exact h
      · exact HALL.out j y (by omega) hy
    obtain ⟨xw, xf, xn, xm⟩ := x
    simp only at g0 g1 g2 g3
    clear hx
    by_cases e1 : xw = who
    · cases xf with
      | true =>
        have HN := Lib.hid (HNX.out fun h => by cases h.2)
        have e1' : (xw == who) = true := by simpa using e1
        clear HNX e1
        go_wp2_with fail
        go_round
        case rel => exact ⟨k + 1, by omega, by go_num, HN.out⟩
        case measure => simp [intOf]; omega
      | false =>
        have e1' : (xw == who) = true := by simpa using e1
        clear HNX e1
        go_wp2_with fail
        go_ret
        exact ⟨rfl, hB0⟩
    · have HN := Lib.hid (HNX.out fun h => e1 h.1)
      have e1' : (xw == who) = false := by simpa using e1
      clear HNX e1
      go_wp2_with fail
      go_round
      case rel => exact ⟨k + 1, by omega, by go_num, HN.out⟩
      case measure => simp [intOf]; omega
set_option maxRecDepth 100000 in
set_option maxHeartbeats 3200000 in
theorem lawAlongFaultShort (A : Option Addr) (n c : Nat) (zs : List Int) (w : World) (hn : n ≤ 1048576) (hr : Rd cB 1 w 0 A n zs) (hc : n ≤ c) (hz : ∀ (k : Nat) (z : Int), zs[k]? = some z → 0 ≤ z ∧ z ≤ 255) (hT : Tb w) :
    Calls Tryd.prog 9 #[.slice A n c] w fun e w' => e = .returned (.bool true) ∧ Below w.heap.size w w' := by
  have hn' : (n : Int) ≤ 1048576 := by omega
  go_enter Tryd.func9, Tryd.ntmps9
  go_wp2_with fail
  refine (DrawAlongFault_any A n c zs _ hr hc hz).mono ?_
  rintro e w1 ⟨A1, n1, c1, t, A2, m, c2, list, who, rfl, hc1, hrt, hn1, hzt, hc2, hrl, hm, hw0, hw3, hb1⟩
  have hT1 := hT.below hb1
  have HL := Lib.hid hrl.len
  have HLT := Lib.hid hrt.len
  have HAF : Hid (∀ w', Below w1.heap.size w1 w' → Calls Tryd.prog 35 #[.slice A1 n1 c1, .slice A2 m c2, .int .i64 who] w' fun e w'' => e = .returned (.int .i64 (alI t list who)) ∧ Below w'.heap.size w' w'') := fun w' hb' =>
    AlongFault_any _ _ A1 A2 n1 c1 m c2 t list who w' (hrt.below hb') hc1 (hrl.below hb') (by omega) (hT1.below hb')
  have HAS : Hid (∀ w', Below w1.heap.size w1 w' → Calls Tryd.prog 36 #[.slice A1 n1 c1, .slice A2 m c2, .int .i64 who] w' fun e w'' => e = .returned (.int .i64 (alI t list who)) ∧ Below w'.heap.size w' w'') := fun w' hb' =>
    AlongFaultS_any _ _ A1 A2 n1 c1 m c2 t list who w' (hrt.below hb') hc1 hzt (hrl.below hb') (by omega)
  have HAT : Hid (∀ (k : Nat) w', k ≤ m → Below w1.heap.size w1 w' → Calls Tryd.prog 35 #[.slice A1 n1 c1, .slice A2 k c2, .int .i64 who] w' fun e w'' => e = .returned (.int .i64 (alI t (list.take k) who)) ∧ Below w'.heap.size w' w'') := fun k w' hk hb' =>
    AlongFault_any _ _ A1 A2 n1 c1 k c2 t (list.take k) who w' (hrt.below hb') hc1 ((hrl.take hk).below hb') (by omega) (hT1.below hb')
  have HCS := Lib.hid (alI_cases t list who)
  have HTK : Hid (∀ (k i : Nat), VT t → VS list → k ≤ m → fltB t list who i = true → (∀ j, j < i → fltB t list who j = false) → (k ≤ i → alI t (list.take k) who = -1) ∧ (i < k → alI t (list.take k) who = i)) := fun k i h1 h2 hk ht h => alI_take h1 h2 (by have := HL.out; omega) ht h
  generalize hq : alI t list who = q at *
  have HQ := Lib.hid hq
  clear hr hz hT hq
  have HA1 := Lib.hid (HAF.out w1 (Below.refl _ _))
  go_wp2_with fail
  refine HA1.out.mono ?_
  rintro e w2 ⟨rfl, hb2⟩
  have HA2 := Lib.hid (HAS.out w2 hb2)
  have hs1 := hb1.size
  go_wp2_with fail
  refine HA2.out.mono ?_
  rintro e w3 ⟨rfl, hb3⟩
  have hB3 := hb2.trans (hb3.mono hb2.size)
  have HA3 := Lib.hid (HAS.out w3 hB3)
  by_cases hm0 : m = 0
  · subst hm0
    go_wp2_with fail
    refine HA3.out.mono ?_
    rintro e w4 ⟨rfl, hb4⟩
    go_wp2_with fail
    go_ret
    exact ⟨rfl, hb1.trans ((hB3.trans (hb4.mono hB3.size)).mono hs1)⟩
  obtain ⟨p, rfl⟩ : ∃ p, m = p + 1 := ⟨m - 1, by omega⟩
  have hp1 : (((p + 1 : Nat) : Int) == 0) = false := by simp; omega
  have hp2 : ((p + 1 : Nat) : Int) - 1 = (p : Int) := by omega
  have HVT := Lib.hid (ValidTree_any _ A1 n1 c1 t w3 (hrt.below hB3) hc1)
  by_cases hv1 : VT t
  case neg =>
    rw [vt_false hv1] at HVT
    clear HCS
    go_wp2_with fail
    refine HVT.out.mono ?_
    rintro e w4 ⟨rfl, hb4⟩
    have hB4 := hB3.trans (hb4.mono hB3.size)
    have HA4 := Lib.hid (HAS.out w4 hB4)
    go_wp2_with fail
    refine HA4.out.mono ?_
    rintro e w5 ⟨rfl, hb5⟩
    go_wp2_with fail
    go_ret
    exact ⟨rfl, hb1.trans ((hB4.trans (hb5.mono hB4.size)).mono hs1)⟩
  rw [vt_true hv1] at HVT
  have HVS : Hid (∀ w', Below w1.heap.size w1 w' → Calls Tryd.prog 22 #[.slice A2 (p + 1) c2] w' fun e w'' => e = .returned (.bool (vsB list)) ∧ Below w'.heap.size w' w'') := fun w' hb' => ValidSteps_any _ A2 (p + 1) c2 list w' (hrl.below hb') (by omega) (hT1.below hb')
  by_cases hv2 : VS list
  case neg =>
    rw [vsB_f hv2] at HVS
    clear HCS
    go_wp2_with fail
    refine HVT.out.mono ?_
    rintro e w4 ⟨rfl, hb4⟩
    have hB4 := hB3.trans (hb4.mono hB3.size)
    have HVS4 := Lib.hid (HVS.out w4 hB4)
    go_wp2_with fail
    refine HVS4.out.mono ?_
    rintro e w5 ⟨rfl, hb5⟩
    have hB5 := hB4.trans (hb5.mono hB4.size)
    have HA5 := Lib.hid (HAS.out w5 hB5)
    go_wp2_with fail
    refine HA5.out.mono ?_
    rintro e w6 ⟨rfl, hb6⟩
    go_wp2_with fail
    go_ret
    exact ⟨rfl, hb1.trans ((hB5.trans (hb6.mono hB5.size)).mono hs1)⟩
  rw [vsB_t hv2] at HVS
  have hcase : ∃ kk : Int, alI t (list.take p) who = kk ∧ (kk = q ∨ (kk = -1 ∧ q = (p : Int))) := by
    refine ⟨_, rfl, ?_⟩
    rcases alF_cases t list who with ⟨h1, h2⟩ | ⟨i, h1, h2, h3, h4⟩
    · left
      have e1 : q = -1 := by rw [← HQ.out, alI_yes hv1 hv2, h1]
      rw [e1, alI_yes hv1 (hv2.take p)]
      exact alF_take (by have := HL.out; omega) fun j hj => h2 j (by have := HL.out; omega)
    · have e1 : q = i := by rw [← HQ.out, alI_yes hv1 hv2, h1]
      by_cases hip : i < p
      · left; rw [e1]; exact (HTK.out p i hv1 hv2 (by omega) h3 h4).2 hip
      · right
        have : i = p := by have := HL.out; omega
        exact ⟨(HTK.out p i hv1 hv2 (by omega) h3 h4).1 (by omega), by rw [e1, this]⟩
  obtain ⟨kk, hkk, hor⟩ := hcase
  have HT1 : Hid (∀ w', Below w1.heap.size w1 w' → Calls Tryd.prog 35 #[.slice A1 n1 c1, .slice A2 p c2, .int .i64 who] w' fun e w'' => e = .returned (.int .i64 kk) ∧ Below w'.heap.size w' w'') := fun w' hb' => by
    have := HAT.out p w' (by omega) hb'
    rw [hkk] at this
    exact this
  clear HCS HTK HAT hkk hv1 hv2
  go_wp2_with fail
  refine HVT.out.mono ?_
  rintro e w4 ⟨rfl, hb4⟩
  have hB4 := hB3.trans (hb4.mono hB3.size)
  have HVS4 := Lib.hid (HVS.out w4 hB4)
  go_wp2_with fail
  refine HVS4.out.mono ?_
  rintro e w5 ⟨rfl, hb5⟩
  have hB5 := hB4.trans (hb5.mono hB4.size)
  have HT5 := Lib.hid (HT1.out w5 hB5)
  go_wp2_with fail
  refine HT5.out.mono ?_
  rintro e w6 ⟨rfl, hb6⟩
  have hB6 := hb1.trans ((hB5.trans (hb6.mono hB5.size)).mono hs1)
  by_cases hkq : kk = q
  · have hkq' : (kk == q) = true := by simpa using hkq
    clear hor hkq
    go_wp2_with fail
    go_ret
    exact ⟨rfl, hB6⟩
  · have hkq' : (kk == q) = false := by simpa using hkq
    obtain ⟨rfl, rfl⟩ := hor.resolve_left hkq
    clear hor hkq
    go_wp2_with fail
    go_ret
    exact ⟨rfl, hB6⟩
end Go.Proofs.YtddpdcnbdbnljaaDoor
