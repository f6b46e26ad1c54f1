/- The walks over last locks and accesses: LockPoint, LockPointOrder, IsTwoPhase, AccessesOf of the program; lockPoint, LockPointOrder, AccessesOf of the reference. -/
import Derived.Test.YtddpdcnbdbnljaaDoorStepW
import Derived.Test.YtddpdcnbdbnljaaDoorStepL
namespace Go.Proofs.YtddpdcnbdbnljaaDoor
open Go.RowKit

theorem elA : ElemT Tryd.prog cA 3 25 32 24 := mkElem (z := .agg #[.int .i64 0, .int .i64 0, .bool false]) Tryd.underlying25 (by kernel_rfl) rfl (by omega) (by omega) (fun _ => rfl) one_A
/-- The last lock of a transaction in valid steps. -/
noncomputable def lpI (list : List St) (who : Int) : Int := if vsB list = true then lpF list who else -1
theorem lpI_t {list : List St} (h : VS list) (who : Int) : lpI list who = lpF list who := by unfold lpI; rw [if_pos (vsB_t h)]
theorem lpI_f {list : List St} (h : ¬ VS list) (who : Int) : lpI list who = -1 := by unfold lpI; rw [if_neg (by rw [vsB_f h]; simp)]
theorem LockPoint_any (lo : Nat) (A : Option Addr) (n c : Nat) (list : List St) (who : Int) (w : World) (hr : Rd cS 4 w lo A n list) (hn : n ≤ 1000000) (hT : Tb w) :
    Calls Tryd.prog 28 #[.slice A n c, .int .i64 who] w fun e w' => e = .returned (.int .i64 (lpI list who)) ∧ Below w.heap.size w w' := by
  have HC := Lib.hid (ValidSteps_any lo A n c list w hr hn hT)
  have HL := Lib.hid hr.len
  by_cases hv : VS list
  case neg =>
    rw [lpI_f hv]
    rw [vsB_f hv] at HC
    clear hv hT
    go_enter Tryd.func28, Tryd.ntmps28
    go_wp2_with fail
    refine HC.out.mono ?_
    rintro e w3 ⟨rfl, hb3⟩
    go_wp2_with fail
    go_ret
    exact ⟨rfl, hb3⟩
  rw [lpI_t hv]
  rw [vsB_t hv] at HC
  generalize hR : lpF list who = R
  have HR := Lib.hid hR
  clear hv hT hR
  go_enter Tryd.func28, Tryd.ntmps28
  go_wp2_with fail
  refine HC.out.mono ?_
  rintro e w1 ⟨rfl, hb1⟩
  have hr1 := hr.below hb1
  clear hr
  go_wp2_with fail
  go_loop [5] (fun i => ∃ z : Int, i = .int .i64 z ∧ -1 ≤ z ∧ z < n ∧ lpF list who = lpF (list.take (z + 1).toNat) who) (fun i => (intOf i + 1).toNat)
  case atStart => exact ⟨(n : Int) - 1, rfl, by omega, by omega, by rw [show ((n : Int) - 1 + 1).toNat = list.length by have := HL.out; omega, lpF_all]⟩
  case round =>
    obtain ⟨z, rfl, hz0, hz1, hK⟩ := hrel
    by_cases hlt : 0 ≤ z
    case neg =>
      obtain rfl : z = -1 := by omega
      have : R = -1 := by rw [← HR.out, hK]; rfl
      subst this
      clear hK
      go_wp2_with fail
      go_ret
      exact ⟨rfl, hb1⟩
    obtain ⟨k, rfl⟩ := Int.eq_ofNat_of_zero_le hlt
    obtain ⟨b, o, x, rfl, _, hb, hx, g0, g1, g2, g3⟩ := hr1.atS (k := k) (by omega)
    rw [show ((k : Int) + 1).toNat = k + 1 by omega] at hK
    have HSN := Lib.hid (lpF_step (who := who) hx hK)
    have HST := Lib.hid (lpF_hit (who := who) hx hK)
    obtain ⟨xw, xf, xn, xm⟩ := x
    simp only at g0 g1 g2 g3
    clear hK hx
    by_cases e1 : xw = who
    case neg =>
      have e1' : (xw == who) = false := by simpa using e1
      have HK := Lib.hid (HSN.out fun h => e1 h.1)
      clear e1
      go_wp2_with fail
      go_round
      case rel => exact ⟨(k : Int) - 1, by go_num, by omega, by omega, by rw [show ((k : Int) - 1 + 1).toNat = k by omega]; exact HK.out⟩
      case measure => simp [intOf]
    subst e1
    cases xf with
    | true =>
      have HK := Lib.hid (HSN.out fun h => by cases h.2)
      go_wp2_with fail
      go_round
      case rel => exact ⟨(k : Int) - 1, by go_num, by omega, by omega, by rw [show ((k : Int) - 1 + 1).toNat = k by omega]; exact HK.out⟩
      case measure => simp [intOf]
    | false =>
      have : R = k := by rw [← HR.out]; exact HST.out ⟨rfl, rfl⟩
      subst this
      go_wp2_with fail
      go_ret
      exact ⟨rfl, hb1⟩
theorem lockPoint_any (lo : Nat) (A : Option Addr) (n c : Nat) (list : List St) (who : Int) (w : World) (hr : Rd cS 4 w lo A n list) (hn : n ≤ 1000000) :
    Calls Tryd.prog 52 #[.slice A n c, .int .i64 who] w fun e w' => e = .returned (.int .i64 (lpF list who)) ∧ w = w' := by
  have HL := Lib.hid hr.len
  generalize hR : lpF list who = R
  have HR := Lib.hid hR
  clear hR
  go_enter Tryd.func52, Tryd.ntmps52
  go_wp2_with fail
  go_loop [5, 6] (fun v i => ∃ k : Nat, k ≤ n ∧ i = .int .i64 k ∧ v = .int .i64 (lpF (list.take k) who)) (fun _ i => n - (intOf i).toNat)
  case atStart => exact ⟨0, Nat.zero_le _, rfl, rfl⟩
  case round =>
    obtain ⟨k, hk, rfl, rfl⟩ := hrel
    by_cases hlt : k < n
    case neg =>
      rw [List.take_of_length_le (by have := HL.out; omega), HR.out]
      go_wp2_with fail
      go_ret
      exact ⟨rfl, rfl⟩
    obtain ⟨b, o, x, rfl, _, hb, hx, g0, g1, g2, g3⟩ := hr.atS hlt
    have HS := lpF_snoc hx who
    obtain ⟨xw, xf, xn, xm⟩ := x
    simp only at g0 g1 g2 g3
    clear hx
    by_cases e1 : xw = who
    case neg =>
      have e1' : (xw == who) = false := by simpa using e1
      rw [if_neg fun h => e1 h.1] at HS
      have HK := Lib.hid HS
      clear e1 HS
      go_wp2_with fail
      go_round
      case rel => exact ⟨k + 1, by omega, by go_num, by rw [HK.out]⟩
      case measure => simp [intOf]; omega
    subst e1
    cases xf with
    | true =>
      rw [if_neg fun h => by cases h.2] at HS
      have HK := Lib.hid HS
      clear HS
      go_wp2_with fail
      go_round
      case rel => exact ⟨k + 1, by omega, by go_num, by rw [HK.out]⟩
      case measure => simp [intOf]; omega
    | false =>
      rw [if_pos ⟨rfl, rfl⟩] at HS
      have HK := Lib.hid HS
      clear HS
      go_wp2_with fail
      go_round
      case rel => exact ⟨k + 1, by omega, by go_num, by rw [HK.out]⟩
      case measure => simp [intOf]; omega
noncomputable def lpoI (list : List St) : List Int := if vsB list = true then lpoF list else []
theorem lpoI_t {list : List St} (h : VS list) : lpoI list = lpoF list := by unfold lpoI; rw [if_pos (vsB_t h)]
theorem lpoI_f {list : List St} (h : ¬ VS list) : lpoI list = [] := by unfold lpoI; rw [if_neg (by rw [vsB_f h]; simp)]
noncomputable def acI (list : List St) : List Ac := if vsB list = true then acF list else []
theorem acI_t {list : List St} (h : VS list) : acI list = acF list := by unfold acI; rw [if_pos (vsB_t h)]
theorem acI_f {list : List St} (h : ¬ VS list) : acI list = [] := by unfold acI; rw [if_neg (by rw [vsB_f h]; simp)]
set_option maxHeartbeats 1000000 in
theorem LockPointOrder_any (lo : Nat) (A : Option Addr) (n c : Nat) (list : List St) (w : World) (hr : Rd cS 4 w lo A n list) (hn : n ≤ 1000000) (hT : Tb w) :
    Calls Tryd.prog 25 #[.slice A n c] w (IntsP w (lpoI list)) := by
  have HC := Lib.hid (ValidSteps_any lo A n c list w hr hn hT)
  have HL := Lib.hid hr.len
  by_cases hv : VS list
  case neg =>
    rw [lpoI_f hv]
    rw [vsB_f hv] at HC
    clear hv hT
    go_enter Tryd.func25, Tryd.ntmps25
    go_wp2_with fail
    refine HC.out.mono ?_
    rintro e w3 ⟨rfl, hb3⟩
    go_wp2_with fail
    go_ret
    exact ⟨_, rfl, Own.nil _ _, hb3⟩
  rw [lpoI_t hv]
  rw [vsB_t hv] at HC
  have HV := Lib.hid hv
  have hn16 : n ≤ 16 := by have := hv.len; have := HL.out; omega
  have HLP : Hid (∀ who w', Below w.heap.size w w' → Calls Tryd.prog 28 #[.slice A n c, .int .i64 who] w' fun e w'' => e = .returned (.int .i64 (lpF list who)) ∧ Below w'.heap.size w' w'') := fun who w' hb' => by
    have := LockPoint_any lo A n c list who w' (hr.below hb') hn (hT.below hb')
    rw [lpI_t HV.out] at this
    exact this
  generalize hR : lpoF list = R
  have HR := Lib.hid hR
  clear hv hT hR
  go_enter Tryd.func25, Tryd.ntmps25
  go_wp2_with fail
  refine HC.out.mono ?_
  rintro e w1 ⟨rfl, hb1⟩
  go_wp2_with fail
  go_loopw [3, 11] (fun v i wr => ∃ k : Nat, k ≤ n ∧ i = .int .i64 k ∧ Below w.heap.size w wr ∧ Own cI 1 3 wr w.heap.size v (pickL (fun i s => !s.free && decide (lpF list s.who = i)) St.who (list.take k) 0)) (fun _ i _ => n - (intOf i).toNat)
  case atStart => exact ⟨0, Nat.zero_le _, rfl, hb1, Own.nil _ _⟩
  case round =>
    rename World => W1
    obtain ⟨k, hk, rfl, hbl, ho⟩ := hrel
    have hs := hbl.size
    by_cases hlt : k < n
    case neg =>
      rw [List.take_of_length_le (by have := HL.out; omega)] at ho
      change Own cI 1 3 W1 w.heap.size _ (lpoF list) at ho
      rw [HR.out] at ho
      go_wp2_with fail
      go_ret
      exact ⟨_, rfl, ho, hbl⟩
    obtain ⟨b, o, x, rfl, _, hb, hx, g0, g1, g2, g3⟩ := (hr.below hbl).atS hlt
    have HPT := Lib.hid (pick_t (p := fun i s => !s.free && decide (lpF list s.who = i)) (f := St.who) hx)
    have HPF := Lib.hid (pick_f (p := fun i s => !s.free && decide (lpF list s.who = i)) (f := St.who) hx)
    have hpl : (pickL (fun i s => !s.free && decide (lpF list s.who = i)) St.who (list.take k) 0).length ≤ 16 := by
      refine Nat.le_trans (pick_len _ _) ?_
      rw [List.length_take]; omega
    generalize pickL (fun i s => !s.free && decide (lpF list s.who = i)) St.who (list.take k) 0 = P at *
    obtain ⟨xw, xf, xn, xm⟩ := x
    simp only at g0 g1 g2 g3
    have hbA := hbl.alloc hs (.cells #[.int .i64 xw, .bool xf, .int .i64 xn, .int .i64 xm] 30)
    have hoA := ho.alloc (.cells #[.int .i64 xw, .bool xf, .int .i64 xn, .int .i64 xm] 30)
    have hsA := hbA.size
    clear hx ho
    cases xf with
    | true =>
      have HPF2 := Lib.hid (HPF.out rfl)
      clear HPF HPT
      go_wp2_with fail
      go_roundw
      case rel => exact ⟨k + 1, by omega, by go_num, hbA, by rw [HPF2.out]; exact hoA⟩
      case measure => simp [intOf]; omega
    | false =>
      have HLP2 := Lib.hid (HLP.out xw _ hbA)
      by_cases e1 : lpF list xw = k
      · have HPT2 := Lib.hid (HPT.out (by simpa using e1))
        rw [e1] at HLP2
        clear HPF HPT e1
        go_wp2_with fail
        refine HLP2.out.mono ?_
        rintro e w4 ⟨rfl, hb4⟩
        have hB4 := hbA.trans (hb4.mono hsA)
        have ho4 := hoA.below hb4
        have hc0 : w4.cell? ⟨W1.heap.size, 0, none⟩ = some (.int .i64 xw) := (hb4.cell (by simp)).trans (cell_newg W1 _ _ _ rfl 0 _ rfl)
        go_wp2_with (at_builtin; refine wpList_append_rd elI _ rfl (.tmp 27) (.tmp 30) rfl rfl (ho4.alloc _) rfl (Rd_one w4 #[.int .i64 xw] 3 xw rfl) (by omega) (by have := hB4.size; simp; omega) ?_; intro v5 w5 ho5 hg5 _)
        have hb5 := below_own (hB4.alloc hB4.size _) (ho4.alloc (.cells #[.int .i64 xw] 3)) hg5 (Nat.le_refl _) (by have := hB4.size; simp; omega)
        go_roundw
        case rel => exact ⟨k + 1, by omega, by go_num, hb5, by rw [HPT2.out]; exact ho5⟩
        case measure => simp [intOf]; omega
      · have HPF2 := Lib.hid (HPF.out (by simpa using e1))
        have e2 : (lpF list xw == (k : Int)) = false := by simpa using e1
        generalize lpF list xw = q at *
        clear HPF HPT e1
        go_wp2_with fail
        refine HLP2.out.mono ?_
        rintro e w4 ⟨rfl, hb4⟩
        go_wp2_with fail
        go_roundw
        case rel => exact ⟨k + 1, by omega, by go_num, hbA.trans (hb4.mono hsA), by rw [HPF2.out]; exact hoA.below hb4⟩
        case measure => simp [intOf]; omega
end Go.Proofs.YtddpdcnbdbnljaaDoor
