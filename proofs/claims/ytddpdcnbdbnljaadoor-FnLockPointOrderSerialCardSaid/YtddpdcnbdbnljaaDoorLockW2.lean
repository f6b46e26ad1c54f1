/- The walks over the reference's LockPointOrder, over AccessesOf of both, ValidAccesses, equalAccesses. -/
import Derived.Test.YtddpdcnbdbnljaaDoorLockW
namespace Go.Proofs.YtddpdcnbdbnljaaDoor
open Go.RowKit

set_option maxHeartbeats 1000000 in
theorem LockPointOrderS_any (lo : Nat) (A : Option Addr) (n c : Nat) (list : List St) (w : World) (hr : Rd cS 4 w lo A n list) (hn : n ≤ 1000000) :
    Calls Tryd.prog 27 #[.slice A n c] w (IntsP w (lpoI list)) := by
  have HC := Lib.hid (validSteps_any lo A n c list _ (hr.alloc (.cells #[] 3)) hn)
  have HL := Lib.hid hr.len
  by_cases hv : VS list
  case neg =>
    rw [lpoI_f hv]
    rw [vsB_f hv] at HC
    clear hv
    go_enter Tryd.func27, Tryd.ntmps27
    go_wp2_with fail
    refine HC.out.mono ?_
    rintro e w3 ⟨rfl, hb3⟩
    go_wp2_with fail
    go_ret
    exact ⟨_, rfl, Own.nil _ _, ((Below.refl _ _).alloc (Nat.le_refl _) _).trans (hb3.mono (by simp))⟩
  rw [lpoI_t hv]
  rw [vsB_t hv] at HC
  have HV := Lib.hid hv
  have hn16 : n ≤ 16 := by have := hv.len; have := HL.out; omega
  have HLP : Hid (∀ who w', Below w.heap.size w w' → Calls Tryd.prog 52 #[.slice A n c, .int .i64 who] w' fun e w'' => e = .returned (.int .i64 (lpF list who)) ∧ w' = w'') := fun who w' hb' => lockPoint_any lo A n c list who w' (hr.below hb') hn
  generalize hR : lpoF list = R
  have HR := Lib.hid hR
  clear hv hR
  go_enter Tryd.func27, Tryd.ntmps27
  go_wp2_with fail
  refine HC.out.mono ?_
  rintro e w1 ⟨rfl, hb1⟩
  have hB1 := ((Below.refl w.heap.size w).alloc (Nat.le_refl _) (.cells #[] 3)).trans (hb1.mono (by simp))
  have ho1 := (Own.empty (cs := cI) (sz := 1) (e := 3) w elI.len).below hb1
  go_wp2_with fail
  go_loopw [3, 4] (fun v i wr => ∃ k : Nat, k ≤ n ∧ i = .int .i64 k ∧ Below w.heap.size w wr ∧ Own cI 1 3 wr w.heap.size v (pickL (fun i s => !s.free && decide (lpF list s.who = i)) St.who (list.take k) 0)) (fun _ i _ => n - (intOf i).toNat)
  case atStart => exact ⟨0, Nat.zero_le _, rfl, hB1, ho1⟩
  case round =>
    rename World => W1
    obtain ⟨k, hk, rfl, hbl, ho⟩ := hrel
    have hs := hbl.size
    by_cases hlt : k < n
    case neg =>
      rw [List.take_of_length_le (by have := HL.out; omega)] at ho
      change Own cI 1 3 W1 w.heap.size _ (lpoF list) at ho
      rw [HR.out] at ho
      go_wp2_with fail
      go_ret
      exact ⟨_, rfl, ho, hbl⟩
    obtain ⟨b, o, x, rfl, _, hb, hx, g0, g1, g2, g3⟩ := (hr.below hbl).atS hlt
    have HPT := Lib.hid (pick_t (p := fun i s => !s.free && decide (lpF list s.who = i)) (f := St.who) hx)
    have HPF := Lib.hid (pick_f (p := fun i s => !s.free && decide (lpF list s.who = i)) (f := St.who) hx)
    have HBIT := Lib.hid (lpo_bit hx)
    have hpl : (pickL (fun i s => !s.free && decide (lpF list s.who = i)) St.who (list.take k) 0).length ≤ 16 := by
      refine Nat.le_trans (pick_len _ _) ?_
      rw [List.length_take]; omega
    generalize pickL (fun i s => !s.free && decide (lpF list s.who = i)) St.who (list.take k) 0 = P at *
    obtain ⟨xw, xf, xn, xm⟩ := x
    simp only at g0 g1 g2 g3
    clear hx
    have HLP2 := Lib.hid (HLP.out xw _ hbl)
    by_cases e1 : lpF list xw = k
    · have HPT2 := Lib.hid (HPT.out (HBIT.out.symm.trans (decide_eq_true e1)))
      rw [e1] at HLP2
      clear HPF HPT HBIT e1
      go_wp2_with (first | (at_builtin; refine wpList_append_rd elI _ rfl (.tmp 24) (.tmp 30) rfl rfl (ho.alloc _) rfl (Rd_one W1 #[.int .i64 xw] 3 xw rfl) (by omega) (by simp; omega) ?_; intro v5 w5 ho5 hg5 _) | (go_at_call 52; refine HLP2.out.mono ?_; rintro e w4 ⟨rfl, rfl⟩))
      have hb5 := below_own (hbl.alloc hs _) (ho.alloc (.cells #[.int .i64 xw] 3)) hg5 (Nat.le_refl _) (by simp; omega)
      go_roundw
      case rel => exact ⟨k + 1, by omega, by go_num, hb5, by rw [HPT2.out]; exact ho5⟩
      case measure => simp [intOf]; omega
    · have HPF2 := Lib.hid (HPF.out (HBIT.out.symm.trans (decide_eq_false e1)))
      have e2 : (lpF list xw == (k : Int)) = false := by simpa using e1
      generalize lpF list xw = q at *
      clear HPF HPT HBIT e1
      go_wp2_with (go_at_call 52; refine HLP2.out.mono ?_; rintro e w4 ⟨rfl, rfl⟩)
      go_roundw
      case rel => exact ⟨k + 1, by omega, by go_num, hbl, by rw [HPF2.out]; exact ho⟩
      case measure => simp [intOf]; omega
def AcP (w : World) (l : List Ac) (e : Ending) (w' : World) : Prop := ∃ v, e = .returned v ∧ Own cA 3 32 w' w.heap.size v l ∧ Below w.heap.size w w'
set_option maxHeartbeats 1000000 in
theorem AccessesOf_any (lo : Nat) (A : Option Addr) (n c : Nat) (list : List St) (w : World) (hr : Rd cS 4 w lo A n list) (hn : n ≤ 1000000) (hT : Tb w) :
    Calls Tryd.prog 19 #[.slice A n c] w (AcP w (acI list)) := by
  have HC := Lib.hid (ValidSteps_any lo A n c list w hr hn hT)
  have HL := Lib.hid hr.len
  by_cases hv : VS list
  case neg =>
    rw [acI_f hv]
    rw [vsB_f hv] at HC
    clear hv hT
    go_enter Tryd.func19, Tryd.ntmps19
    go_wp2_with fail
    refine HC.out.mono ?_
    rintro e w3 ⟨rfl, hb3⟩
    go_wp2_with fail
    go_ret
    exact ⟨_, rfl, Own.nil _ _, hb3⟩
  rw [acI_t hv]
  rw [vsB_t hv] at HC
  have hn16 : n ≤ 16 := by have := hv.len; have := HL.out; omega
  generalize hR : acF list = R
  have HR := Lib.hid hR
  clear hv hT hR
  go_enter Tryd.func19, Tryd.ntmps19
  go_wp2_with fail
  refine HC.out.mono ?_
  rintro e w1 ⟨rfl, hb1⟩
  go_wp2_with fail
  go_loopw [3, 11] (fun v i wr => ∃ k : Nat, k ≤ n ∧ i = .int .i64 k ∧ Below w.heap.size w wr ∧ Own cA 3 32 wr w.heap.size v (pickL (fun _ s => !s.free) (fun s => (⟨s.who, s.node, decide (s.mode = 5)⟩ : Ac)) (list.take k) 0)) (fun _ i _ => n - (intOf i).toNat)
  case atStart => exact ⟨0, Nat.zero_le _, rfl, hb1, Own.nil _ _⟩
  case round =>
    rename World => W1
    obtain ⟨k, hk, rfl, hbl, ho⟩ := hrel
    have hs := hbl.size
    by_cases hlt : k < n
    case neg =>
      rw [List.take_of_length_le (by have := HL.out; omega)] at ho
      change Own cA 3 32 W1 w.heap.size _ (acF list) at ho
      rw [HR.out] at ho
      go_wp2_with fail
      go_ret
      exact ⟨_, rfl, ho, hbl⟩
    obtain ⟨b, o, x, rfl, _, hb, hx, g0, g1, g2, g3⟩ := (hr.below hbl).atS hlt
    have HPT := Lib.hid (pick_t (p := fun _ s => !s.free) (f := fun s => (⟨s.who, s.node, decide (s.mode = 5)⟩ : Ac)) hx)
    have HPF := Lib.hid (pick_f (p := fun _ s => !s.free) (f := fun s => (⟨s.who, s.node, decide (s.mode = 5)⟩ : Ac)) hx)
    have hpl : (pickL (fun _ s => !s.free) (fun s => (⟨s.who, s.node, decide (s.mode = 5)⟩ : Ac)) (list.take k) 0).length ≤ 16 := by
      refine Nat.le_trans (pick_len _ _) ?_
      rw [List.length_take]; omega
    generalize pickL (fun _ s => !s.free) (fun s => (⟨s.who, s.node, decide (s.mode = 5)⟩ : Ac)) (list.take k) 0 = P at *
    obtain ⟨xw, xf, xn, xm⟩ := x
    simp only at g0 g1 g2 g3
    have hbA := hbl.alloc hs (.cells #[.int .i64 xw, .bool xf, .int .i64 xn, .int .i64 xm] 30)
    have hoA := ho.alloc (.cells #[.int .i64 xw, .bool xf, .int .i64 xn, .int .i64 xm] 30)
    have hsA := hbA.size
    clear hx ho
    cases xf with
    | true =>
      have HPF2 := Lib.hid (HPF.out rfl)
      clear HPF HPT
      go_wp2_with fail
      go_roundw
      case rel => exact ⟨k + 1, by omega, by go_num, hbA, by rw [HPF2.out]; exact hoA⟩
      case measure => simp [intOf]; omega
    | false =>
      have HPT2 := HPT.out rfl
      simp only at HPT2
      have hq : (xm == 5) = decide (xm = 5) := by by_cases h : xm = 5 <;> simp [h]
      generalize decide (xm = 5) = q at *
      have HPT3 := Lib.hid HPT2
      clear HPF HPT HPT2
      go_wp2_with (at_builtin; refine wpList_append_rd elA _ rfl (.tmp 18) (.tmp 27) rfl rfl (hoA.alloc _) rfl (Rd_oneg (W1.alloc (.cells #[.int .i64 xw, .bool false, .int .i64 xn, .int .i64 xm] 30)) #[.int .i64 xw, .int .i64 xn, .bool q] 32 ⟨xw, xn, q⟩ rfl (W1.heap.size + 1) (by simp)) (by omega) (by simp; omega) ?_; intro v5 w5 ho5 hg5 _)
      have hb5 := below_own (hbA.alloc hsA _) (hoA.alloc (.cells #[.int .i64 xw, .int .i64 xn, .bool q] 32)) hg5 (Nat.le_refl _) (by simp; omega)
      go_roundw
      case rel => exact ⟨k + 1, by omega, by go_num, hb5, by rw [HPT3.out]; exact ho5⟩
      case measure => simp [intOf]; omega
set_option maxHeartbeats 1000000 in
theorem AccessesOfS_any (lo : Nat) (A : Option Addr) (n c : Nat) (list : List St) (w : World) (hr : Rd cS 4 w lo A n list) (hn : n ≤ 1000000) :
    Calls Tryd.prog 21 #[.slice A n c] w (AcP w (acI list)) := by
  have HC := Lib.hid (validSteps_any lo A n c list _ (hr.alloc (.cells #[] 32)) hn)
  have HL := Lib.hid hr.len
  by_cases hv : VS list
  case neg =>
    rw [acI_f hv]
    rw [vsB_f hv] at HC
    clear hv
    go_enter Tryd.func21, Tryd.ntmps21
    go_wp2_with fail
    refine HC.out.mono ?_
    rintro e w3 ⟨rfl, hb3⟩
    go_wp2_with fail
    go_ret
    exact ⟨_, rfl, Own.nil _ _, ((Below.refl _ _).alloc (Nat.le_refl _) _).trans (hb3.mono (by simp))⟩
  rw [acI_t hv]
  rw [vsB_t hv] at HC
  have hn16 : n ≤ 16 := by have := hv.len; have := HL.out; omega
  generalize hR : acF list = R
  have HR := Lib.hid hR
  clear hv hR
  go_enter Tryd.func21, Tryd.ntmps21
  go_wp2_with fail
  refine HC.out.mono ?_
  rintro e w1 ⟨rfl, hb1⟩
  have hB1 := ((Below.refl w.heap.size w).alloc (Nat.le_refl _) (.cells #[] 32)).trans (hb1.mono (by simp))
  have ho1 := (Own.empty (cs := cA) (sz := 3) (e := 32) w elA.len).below hb1
  go_wp2_with fail
  go_loopw [3, 4] (fun v i wr => ∃ k : Nat, k ≤ n ∧ i = .int .i64 k ∧ Below w.heap.size w wr ∧ Own cA 3 32 wr w.heap.size v (pickL (fun _ s => !s.free) (fun s => (⟨s.who, s.node, decide (s.mode = 5)⟩ : Ac)) (list.take k) 0)) (fun _ i _ => n - (intOf i).toNat)
  case atStart => exact ⟨0, Nat.zero_le _, rfl, hB1, ho1⟩
  case round =>
    rename World => W1
    obtain ⟨k, hk, rfl, hbl, ho⟩ := hrel
    have hs := hbl.size
    by_cases hlt : k < n
    case neg =>
      rw [List.take_of_length_le (by have := HL.out; omega)] at ho
      change Own cA 3 32 W1 w.heap.size _ (acF list) at ho
      rw [HR.out] at ho
      go_wp2_with fail
      go_ret
      exact ⟨_, rfl, ho, hbl⟩
    obtain ⟨b, o, x, rfl, _, hb, hx, g0, g1, g2, g3⟩ := (hr.below hbl).atS hlt
    have HPT := Lib.hid (pick_t (p := fun _ s => !s.free) (f := fun s => (⟨s.who, s.node, decide (s.mode = 5)⟩ : Ac)) hx)
    have HPF := Lib.hid (pick_f (p := fun _ s => !s.free) (f := fun s => (⟨s.who, s.node, decide (s.mode = 5)⟩ : Ac)) hx)
    have hpl : (pickL (fun _ s => !s.free) (fun s => (⟨s.who, s.node, decide (s.mode = 5)⟩ : Ac)) (list.take k) 0).length ≤ 16 := by
      refine Nat.le_trans (pick_len _ _) ?_
      rw [List.length_take]; omega
    generalize pickL (fun _ s => !s.free) (fun s => (⟨s.who, s.node, decide (s.mode = 5)⟩ : Ac)) (list.take k) 0 = P at *
    obtain ⟨xw, xf, xn, xm⟩ := x
    simp only at g0 g1 g2 g3
    clear hx
    cases xf with
    | true =>
      have HPF2 := Lib.hid (HPF.out rfl)
      clear HPF HPT
      go_wp2_with fail
      go_roundw
      case rel => exact ⟨k + 1, by omega, by go_num, hbl, by rw [HPF2.out]; exact ho⟩
      case measure => simp [intOf]; omega
    | false =>
      have HPT2 := HPT.out rfl
      simp only at HPT2
      have hq : (xm == 5) = decide (xm = 5) := by by_cases h : xm = 5 <;> simp [h]
      generalize decide (xm = 5) = q at *
      have HPT3 := Lib.hid HPT2
      clear HPF HPT HPT2
      go_wp2_with fail
      go_region_law ((first
        | (refine step_append_rd elA _ rfl (.tmp 21) (.tmp 39) rfl rfl (ho.alloc (.cells #[.int .i64 xw, .int .i64 xn, .bool q] 32)).drew rfl (Rd_one W1 #[.int .i64 xw, .int .i64 xn, .bool q] 32 ⟨xw, xn, q⟩ rfl).drew (by omega) (by simp; omega) ?_; intro v5 w5 ho5 hg5 _; have hb5 := below_own ((hbl.alloc hs (.cells #[.int .i64 xw, .int .i64 xn, .bool q] 32)).drew) (ho.alloc (.cells #[.int .i64 xw, .int .i64 xn, .bool q] 32)).drew hg5 (Nat.le_refl _) (by simp; omega))))
      all_goals
        go_wp2_with fail
        go_roundw
        case rel => exact ⟨k + 1, by omega, by go_num, hb5, by rw [HPT3.out]; exact ho5⟩
        case measure => simp [intOf]; omega
theorem equalAccesses_t (lo lo2 : Nat) (A A2 : Option Addr) (n c n2 c2 : Nat) (l : List Ac) (w : World) (hr : Rd cA 3 w lo A n l) (hr2 : Rd cA 3 w lo2 A2 n2 l) :
    Calls Tryd.prog 20 #[.slice A n c, .slice A2 n2 c2] w fun e w' => e = .returned (.bool true) ∧ Below w.heap.size w w' := by
  have hn := hr.le
  obtain rfl : n2 = n := hr2.len.symm.trans hr.len
  go_enter Tryd.func20, Tryd.ntmps20
  go_wp2_with fail
  go_loopw [5] (fun i wr => ∃ k : Nat, k ≤ n2 ∧ i = .int .i64 k ∧ Below w.heap.size w wr) (fun i _ => n2 - (intOf i).toNat)
  case atStart => exact ⟨0, Nat.zero_le _, rfl, Below.refl _ _⟩
  case round =>
    obtain ⟨k, hk, rfl, hbl⟩ := hrel
    by_cases hlt : k < n2
    case neg =>
      go_wp2_with fail
      go_ret
      exact ⟨rfl, hbl⟩
    obtain ⟨b, o, x, rfl, _, hb, hx, g0, g1, g2⟩ := (hr.below hbl).atA hlt
    obtain ⟨b2, o2, y, rfl, _, hb2, hy, d0, d1, d2⟩ := (hr2.below hbl).atA hlt
    rw [hx] at hy
    injection hy with hy
    subst hy
    have a0 := aft g0
    have a1 := aft g1
    have a2 := aft g2
    have b0 := aft d0
    have b1 := aft d1
    have b2' := aft d2
    clear hx hr hr2
    go_wp2_with fail
    refine wp_region_after (by kernel_rfl) (by kernel_rfl) ?_
    repeat (go_big_quiet_step (fail))
    refine wpQuiet_nil ?_
    intro w1 hb1
    go_wp2_with fail
    go_roundw
    case rel => exact ⟨k + 1, by omega, by go_num, hbl.trans (hb1.mono hbl.size)⟩
    case measure => simp [intOf]; omega
end Go.Proofs.YtddpdcnbdbnljaaDoor
