/- The walks of the laws FnAccessesOf, FnLockPointOrder, FnLockPointOrderShort. -/
import Derived.Test.YtddpdcnbdbnljaaDoorDrawStep2
import Derived.Test.YtddpdcnbdbnljaaDoorLockW2
import Derived.Test.YtddpdcnbdbnljaaDoorEqInts
namespace Go.Proofs.YtddpdcnbdbnljaaDoor
open Go.RowKit

/-- Accesses that are valid. -/
def VA (h : List Ac) : Prop := h.length ≤ 16 ∧ ∀ x ∈ h, (0 ≤ x.who ∧ x.who ≤ 3) ∧ 0 ≤ x.node ∧ x.node ≤ 11
theorem ValidAccesses_t (lo : Nat) (A : Option Addr) (n c : Nat) (h : List Ac) (w : World) (hr : Rd cA 3 w lo A n h) (hv : VA h) :
    Calls Tryd.prog 23 #[.slice A n c] w fun e w' => e = .returned (.bool true) ∧ Below w.heap.size w w' := by
  have HL := Lib.hid hr.len
  have HV := Lib.hid hv.2
  have hn16 : n ≤ 16 := by have := hv.1; have := HL.out; omega
  have h16 : ¬ (16 : Int) < (n : Int) := by omega
  clear hv
  go_enter Tryd.func23, Tryd.ntmps23
  go_wp2_with fail
  go_loopw [10] (fun i wr => ∃ k : Nat, k ≤ n ∧ i = .int .i64 k ∧ Below w.heap.size w wr) (fun i _ => n - (intOf i).toNat)
  case atStart => exact ⟨0, Nat.zero_le _, rfl, Below.refl _ _⟩
  case round =>
    rename World => W1
    obtain ⟨k, hk, rfl, hbl⟩ := hrel
    have hs := hbl.size
    by_cases hlt : k < n
    case neg =>
      go_wp2_with fail
      go_ret
      exact ⟨rfl, hbl⟩
    obtain ⟨b, o, x, rfl, _, hb, hx, g0, g1, g2⟩ := (hr.below hbl).atA hlt
    obtain ⟨⟨a1, a2⟩, b1, b2⟩ := HV.out x (List.mem_of_getElem? hx)
    clear hx hr
    go_wp2_with (go_at_call 51; refine (within_t _ _ _ _ (by assumption) (by assumption)).mono ?_; rintro e w3 ⟨rfl, rfl⟩)
    go_roundw
    case rel => exact ⟨k + 1, by omega, by go_num, hbl.alloc hs _⟩
    case measure => simp [intOf]; omega
theorem acF_VA {list : List St} (h : VS list) : VA (acF list) := by
  refine ⟨Nat.le_trans (acF_len list) h.len, fun x hx => ?_⟩
  obtain ⟨i, s, hs, _, rfl⟩ := (pick_mem list 0).1 hx
  have := h.at hs
  exact ⟨this.1, this.2.1⟩
theorem pick_at {α β : Type} {p : Nat → α → Bool} {f : α → β} {list : List α} {k : Nat} {x : α} (hx : list[k]? = some x) (h : p k x = true) : (pickL p f list 0)[(pickL p f (list.take k) 0).length]? = some (f x) := by
  have h1 := pick_t (f := f) hx h
  have h2 : pickL p f list 0 = pickL p f (list.take (k + 1)) 0 ++ pickL p f (list.drop (k + 1)) (0 + (list.take (k + 1)).length) := by
    conv => lhs; rw [← List.take_append_drop (k + 1) list]
    rw [pick_app]
  rw [h2, h1, List.append_assoc, List.getElem?_append_right (Nat.le_refl _), Nat.sub_self]
  rfl
set_option maxRecDepth 100000 in
set_option maxHeartbeats 1600000 in
theorem lawAccessesOf (A : Option Addr) (n c : Nat) (zs : List Int) (w : World) (hn : n ≤ 1048576) (hr : Rd cB 1 w 0 A n zs) (hc : n ≤ c) (hz : ∀ (k : Nat) (z : Int), zs[k]? = some z → 0 ≤ z ∧ z ≤ 255) (hT : Tb w) :
    Calls Tryd.prog 3 #[.slice A n c] w fun e w' => e = .returned (.bool true) ∧ Below w.heap.size w w' := by
  have hn' : (n : Int) ≤ 1048576 := by omega
  go_enter Tryd.func3, Tryd.ntmps3
  go_wp2_with fail
  refine (DrawAccessesOf_any A n c zs _ hr hc hz).mono ?_
  rintro e w1 ⟨A1, n1, c1, list, rfl, hc1, hrl, hn1, hb1⟩
  have hT1 := hT.below hb1
  go_wp2_with fail
  refine (AccessesOf_any _ A1 n1 c1 list _ hrl (by omega) hT1).mono ?_
  rintro e w2 ⟨v2, rfl, ho2, hb2⟩
  have hl2 : (acI list).length ≤ 17 := by
    unfold acI
    have := acF_len list
    have := hrl.len
    split
    · omega
    · simp
  obtain ⟨A2, n2, c2, rfl, hc2, hr2⟩ := ho2.rdn elA.len (by omega)
  have hB2 := hb1.trans (hb2.mono hb1.size)
  have hrl2 := hrl.below hb2
  go_wp2_with fail
  refine (AccessesOfS_any _ A1 n1 c1 list _ hrl2 (by omega)).mono ?_
  rintro e w3 ⟨v3, rfl, ho3, hb3⟩
  obtain ⟨A3, n3, c3, rfl, hc3, hr3⟩ := ho3.rdn elA.len (by omega)
  have hB3 := hB2.trans (hb3.mono hB2.size)
  go_wp2_with fail
  refine (equalAccesses_t _ _ A2 A3 n2 c2 n3 c3 _ _ (hr2.below hb3) hr3).mono ?_
  rintro e w4 ⟨rfl, hb4⟩
  have hB4 := hB3.trans (hb4.mono hB3.size)
  have hrl4 := (hrl2.below hb3).below hb4
  have hr24 := (hr2.below hb3).below hb4
  have hT4 := hT.below hB4
  have HVS := Lib.hid (ValidSteps_any _ A1 n1 c1 list _ hrl4 (by omega) hT4)
  clear ho2 ho3 hr3 hr2 hrl2 hrl hT1 hb1 hb2 hb3 hB2 hB3 hr hz
  by_cases hv : VS list
  case neg =>
    rw [vsB_f hv] at HVS
    clear hv
    go_wp2_with fail
    refine HVS.out.mono ?_
    rintro e w5 ⟨rfl, hb5⟩
    have hB5 := hB4.trans (hb5.mono hB4.size)
    go_wp2_with fail
    refine (AccessesOfS_any _ A1 n1 c1 list _ (hrl4.below hb5) (by omega)).mono ?_
    rintro e w6 ⟨v6, rfl, ho6, hb6⟩
    obtain ⟨A6, n6, c6, rfl, hc6, hr6⟩ := ho6.rdn elA.len (by omega)
    have hB6 := hB5.trans (hb6.mono hB5.size)
    go_wp2_with fail
    refine (equalAccesses_t _ _ A2 A6 n2 c2 n6 c6 _ _ ((hr24.below hb5).below hb6) hr6).mono ?_
    rintro e w7 ⟨rfl, hb7⟩
    go_wp2_with fail
    go_ret
    exact ⟨rfl, hB6.trans (hb7.mono hB6.size)⟩
  rw [vsB_t hv] at HVS
  rw [acI_t hv] at hr24 hl2
  have HV := Lib.hid hv
  have HL := Lib.hid hrl4.len
  have HL2 := Lib.hid hr24.len
  have hn217 : n2 ≤ 17 := by have := HL2.out; omega
  clear hv hl2
  go_wp2_with fail
  refine HVS.out.mono ?_
  rintro e w5 ⟨rfl, hb5⟩
  have hB5 := hB4.trans (hb5.mono hB4.size)
  have hrl5 := hrl4.below hb5
  have hr25 := hr24.below hb5
  clear hrl4 hr24 hb4 hb5 hB4 HVS
  go_wp2_with fail
  go_loopw [5, 6] (fun v i wr => ∃ k : Nat, k ≤ n1 ∧ i = .int .i64 k ∧ v = .int .i64 ((pickL (fun _ s => !s.free) (fun s => (⟨s.who, s.node, decide (s.mode = 5)⟩ : Ac)) (list.take k) 0).length : Nat) ∧ Below w5.heap.size w5 wr) (fun _ i _ => n1 - (intOf i).toNat)
  case atStart => exact ⟨0, Nat.zero_le _, rfl, rfl, Below.refl _ _⟩
  case round =>
    rename World => W1
    obtain ⟨k, hk, rfl, rfl, hbl⟩ := hrel
    have hs := hbl.size
    by_cases hlt : k < n1
    case neg =>
      rw [List.take_of_length_le (by have := HL.out; omega)]
      have hq : (pickL (fun _ s => !s.free) (fun s => (⟨s.who, s.node, decide (s.mode = 5)⟩ : Ac)) list 0).length = n2 := HL2.out
      rw [hq]
      have HVA := Lib.hid (ValidAccesses_t _ A2 n2 c2 _ _ (hr25.below hbl) (acF_VA HV.out))
      clear hq
      go_wp2_with fail
      refine HVA.out.mono ?_
      rintro e w7 ⟨rfl, hb7⟩
      go_wp2_with fail
      go_ret
      exact ⟨rfl, hB5.trans ((hbl.trans (hb7.mono hbl.size)).mono hB5.size)⟩
    obtain ⟨b, o, x, rfl, _, hb, hx, g0, g1, g2, g3⟩ := (hrl5.below hbl).atS hlt
    have HPT := Lib.hid (pick_t (p := fun _ s => !s.free) (f := fun s => (⟨s.who, s.node, decide (s.mode = 5)⟩ : Ac)) hx)
    have HPF := Lib.hid (pick_f (p := fun _ s => !s.free) (f := fun s => (⟨s.who, s.node, decide (s.mode = 5)⟩ : Ac)) hx)
    have HAT := Lib.hid (pick_at (p := fun _ s => !s.free) (f := fun s => (⟨s.who, s.node, decide (s.mode = 5)⟩ : Ac)) hx)
    generalize pickL (fun _ s => !s.free) (fun s => (⟨s.who, s.node, decide (s.mode = 5)⟩ : Ac)) (list.take k) 0 = P at *
    obtain ⟨xw, xf, xn, xm⟩ := x
    simp only at g0 g1 g2 g3
    clear hx
    cases xf with
    | true =>
      have HPF2 := Lib.hid (HPF.out rfl)
      clear HPF HPT HAT
      go_wp2_with fail
      go_roundw
      case rel => exact ⟨k + 1, by omega, by go_num, by rw [HPF2.out], hbl⟩
      case measure => simp [intOf]; omega
    | false =>
      have HPT2 := Lib.hid (HPT.out rfl)
      have hat := HAT.out rfl
      simp only at hat
      have hPl : P.length < n2 := by have h1 := (List.getElem?_eq_some_iff.1 hat).1; have h2 : (pickL (fun _ s => !s.free) (fun s => (⟨s.who, s.node, decide (s.mode = 5)⟩ : Ac)) list 0).length = n2 := HL2.out; omega
      obtain ⟨b2, o2, y, rfl, _, hbb, hy, d0, d1, d2⟩ := (hr25.below hbl).atA hPl
      have hy2 : (pickL (fun _ s => !s.free) (fun s => (⟨s.who, s.node, decide (s.mode = 5)⟩ : Ac)) list 0)[P.length]? = some y := hy
      rw [hat] at hy2
      injection hy2 with hy2
      subst hy2
      have hq : (xm == 5) = decide (xm = 5) := by by_cases h : xm = 5 <;> simp [h]
      simp only at d0 d1 d2
      generalize decide (xm = 5) = q at *
      have hp1 : ((P.length : Int) + 1) = ((P.length + 1 : Nat) : Int) := by omega
      have HP1 := Lib.hid hp1
      have HPL : Hid (∀ z : Ac, (P ++ [z]).length = P.length + 1) := fun z => by simp
      have a0 := aft g0
      have a1 := aft g1
      have a2 := aft g2
      have a3 := aft g3
      have b0 := aft d0
      have b1 := aft d1
      have b2' := aft d2
      clear hy hat HPF HPT HAT hp1
      generalize P.length = pl at *
      have hge : ¬ ((n2 : Int) ≤ (pl : Int)) := by omega
      have hge2 : ((n2 : Int) ≤ (pl : Int)) = False := by simp; omega
      have hpn : (pl : Int) < (n2 : Int) := by omega
      have hkn : (k : Int) < (n1 : Int) := by omega
      go_wp2_with fail
      refine wp_region_after (by kernel_rfl) (by kernel_rfl) ?_
      repeat (go_big_quiet_step (fail))
      refine wpQuiet_nil ?_
      intro w7 hb7
      go_wp2_with fail
      go_roundw
      case rel => exact ⟨k + 1, by omega, by go_num, by rw [HPT2.out, HPL.out]; go_num, hbl.trans (hb7.mono hbl.size)⟩
      case measure => simp [intOf]; omega
end Go.Proofs.YtddpdcnbdbnljaaDoor
