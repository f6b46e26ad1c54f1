/- The walks of the laws FnTakeAllOne, FnTakeAllTwice, FnTakeAll. -/
import Derived.Test.YtkolhdlmpjehfaaDoorDrawGrain
import Derived.Test.YtkolhdlmpjehfaaDoorTabL
namespace Go.Proofs.YtkolhdlmpjehfaaDoor
open Go.RowKit

/-- A list that reads as l, and yes or no. -/
def LksB (w : World) (l : List Lk) (b : Bool) (e : Ending) (w' : World) : Prop := ∃ A m c, e = .returned (.tuple #[.slice A m c, .bool b]) ∧ m ≤ c ∧ Rd cL 3 w' w.heap.size A m l ∧ Below w.heap.size w w'
theorem LksO.rd {w w' : World} {R : Option (List Lk)} {e : Ending} (h : LksO w R e w') (hl : (R.getD []).length ≤ 1000) : LksB w (R.getD []) R.isSome e w' := by
  cases R with
  | none => exact ⟨none, 0, 0, h.1, Nat.le_refl _, Rd.nil, h.2⟩
  | some l =>
    obtain ⟨v, h1, h2, h3⟩ := h
    obtain ⟨A, m, c, rfl, hmc, hrd⟩ := h2.rdn elL.len (by simp at hl; omega)
    exact ⟨A, m, c, h1, hmc, hrd, h3⟩
theorem TakeAll_b (lo lo2 : Nat) (A A2 : Option Addr) (n c n2 c2 : Nat) (l list : List Lk) (w : World) (hr : Rd cL 3 w lo A n l) (hc : n ≤ c) (hr2 : Rd cL 3 w lo2 A2 n2 list) (hT : Tb w) :
    Calls Tryd.prog 17 #[.slice A n c, .slice A2 n2 c2] w (LksB w ((takeAllF l list).getD []) (takeAllF l list).isSome) :=
  (TakeAll_any lo lo2 A A2 n c n2 c2 l list w hr hc hr2 hT).mono fun _ _ h => h.rd (by have := takeAllF_len l list; omega)
theorem TakeAllS_b (lo lo2 : Nat) (A A2 : Option Addr) (n c n2 c2 : Nat) (l list : List Lk) (w : World) (hr : Rd cL 3 w lo A n l) (hc : n ≤ c) (hr2 : Rd cL 3 w lo2 A2 n2 list) :
    Calls Tryd.prog 18 #[.slice A n c, .slice A2 n2 c2] w (LksB w ((takeAllF l list).getD []) (takeAllF l list).isSome) :=
  (TakeAllS_any lo lo2 A A2 n c n2 c2 l list w hr hc hr2).mono fun _ _ h => h.rd (by have := takeAllF_len l list; omega)
theorem TakeLock_b (lo : Nat) (A : Option Addr) (n c : Nat) (l : List Lk) (who node mode : Int) (w : World) (hr : Rd cL 3 w lo A n l) (hc : n ≤ c) (hT : Tb w) :
    Calls Tryd.prog 20 #[.slice A n c, .int .i64 who, .int .i64 node, .int .i64 mode] w (LksB w ((takeF l who node mode).getD []) (takeF l who node mode).isSome) := by
  cases h : takeF l who node mode with
  | none => exact (TakeLock_f lo A n c l who node mode w hr hc hT h).mono fun _ _ h' => (show LksO w none _ _ from h').rd (by simp)
  | some l' => exact (TakeLock_t lo A n c l l' who node mode w hr hc hT h).mono fun _ _ h' => (show LksO w (some l') _ _ from h').rd (by have := (takeF_VTb h).1; simp; omega)

set_option maxRecDepth 100000 in
set_option maxHeartbeats 1000000 in
theorem lawTakeOne (A : Option Addr) (n c : Nat) (zs : List Int) (w : World) (hn : n ≤ 1048576) (hr : Rd cB 1 w 0 A n zs) (hc : n ≤ c) (hz : ∀ (k : Nat) (z : Int), zs[k]? = some z → 0 ≤ z ∧ z ≤ 255) (hT : Tb w) :
    Calls Tryd.prog 3 #[.slice A n c] w fun e w' => e = .returned (.bool true) ∧ Below w.heap.size w w' := by
  have hn' : (n : Int) ≤ 1048576 := by omega
  go_enter Tryd.func3, Tryd.ntmps3
  go_wp2_with fail
  refine (DrawTakeAll_any A n c zs _ hr hc hz).mono ?_
  rintro e w1 ⟨A1, n1, c1, l, A2, m, c2, list, rfl, hc1, hrl, hn1, hc2, hrs, hm, hb1⟩
  have hT1 := hT.below hb1
  go_wp2_with fail
  refine (TakeAll_b _ _ A1 A2 n1 c1 m c2 l list _ hrl hc1 hrs hT1).mono ?_
  rintro e w2 ⟨A3, n3, c3, rfl, hc3, hr3, hb2⟩
  have hB2 := hb1.trans (hb2.mono hb1.size)
  go_wp2_with fail
  refine (TakeAllS_b _ _ A1 A2 n1 c1 m c2 l list _ (hrl.below hb2) hc1 (hrs.below hb2)).mono ?_
  rintro e w4 ⟨A5, n5, c5, rfl, hc5, hr5, hb4⟩
  have hB4 := hB2.trans (hb4.mono hB2.size)
  go_wp2_with fail
  refine (equalLocks_t _ _ A3 A5 n3 c3 n5 c5 _ _ (hr3.below hb4) hr5).mono ?_
  rintro e w6 ⟨rfl, hb6⟩
  have hB6 := hB4.trans (hb6.mono hB4.size)
  have hrl6 := ((hrl.below hb2).below hb4).below hb6
  have hrs6 := ((hrs.below hb2).below hb4).below hb6
  have hr36 := (hr3.below hb4).below hb6
  have hr56 := hr5.below hb6
  have hT6 := hT.below hB6
  have HL2 := Lib.hid hrs.len
  clear hr5 hr3 hrl hrs hr hz hb1 hb2 hb4 hb6 hB2 hB4 hT1
  have HS : ∀ x, list[0]? = some x → Hid (takeAllF l [x] = takeF l x.who x.node x.mode) := fun x _ => takeAllF_one l x
  generalize (takeAllF l list).isSome = b at *
  generalize (takeAllF l list).getD [] = R at *
  rcases Nat.eq_zero_or_pos m with hm0 | hm0
  · have hmi : (m : Int) = 0 := by omega
    clear hm0 HS
    cases b
    all_goals
      go_wp2_with fail
      refine (equalLocks_t _ _ A3 A5 n3 c3 n5 c5 _ _ hr36 hr56).mono ?_
      rintro e w7 ⟨rfl, hb7⟩
      go_wp2_with fail
      go_ret
      exact ⟨rfl, hB6.trans (hb7.mono hB6.size)⟩
  obtain ⟨bb, o, x, rfl, _, _, hx, g0, g1, g2⟩ := hrs6.atL (k := 0) hm0
  have HX := HS x hx
  have hr1 := hrs6.take (k := 1) hm0
  have hl1 : list.take 1 = [x] := by
    cases list with
    | nil => simp at hx
    | cons y r => simp at hx; subst hx; rfl
  rw [hl1] at hr1
  obtain ⟨xw, xn, xm⟩ := x
  simp only [Nat.zero_mul, Nat.add_zero] at g0 g1 g2
  have hmi : ((m : Int) == 0) = false := by simp; omega
  have hm1 : (1 : Int) ≤ (m : Int) := by omega
  have hm2 : (0 : Int) < (m : Int) := by omega
  have hmc : (1 : Int) ≤ (c2 : Int) := by omega
  clear hl1 hx HS hrs6
  cases b
  all_goals
    go_wp2_with fail
    refine (TakeAll_b _ _ A1 (some ⟨bb, o, none⟩) n1 c1 1 c2 l [⟨xw, xn, xm⟩] _ hrl6 hc1 hr1 hT6).mono ?_
    rintro e w7 ⟨A8, n8, c8, rfl, hc8, hr8, hb7⟩
    rw [HX.out] at hr8 ⊢
    have hB7 := hB6.trans (hb7.mono hB6.size)
    have j0 := (hb7.cell (World.block_lt_of_cell? _ _ g0)).trans g0
    have j1 := (hb7.cell (World.block_lt_of_cell? _ _ g1)).trans g1
    have j2 := (hb7.cell (World.block_lt_of_cell? _ _ g2)).trans g2
    have hrl7 := hrl6.below hb7
    have hT7 := hT6.below hb7
    have HC := Lib.hid (fun w' (hb' : Below w7.heap.size w7 w') => TakeLock_b _ A1 n1 c1 l xw xn xm w' (hrl7.below hb') hc1 (hT7.below hb'))
    generalize (takeF l xw xn xm).isSome = b2 at *
    generalize (takeF l xw xn xm).getD [] = R2 at *
    have HBB := Lib.hid (World.block_lt_of_cell? _ _ j0)
    go_wp2_with fail
    go_region_held3 (fun w' => w'.cell? ⟨bb, o, none⟩ = some (.int .i64 xw) ∧ w'.cell? ⟨bb, o + 1, none⟩ = some (.int .i64 xn) ∧ w'.cell? ⟨bb, o + 2, none⟩ = some (.int .i64 xm)) (first | go_keep | exact ⟨(hb9.cell HBB.out).trans j0, (hb9.cell HBB.out).trans j1, (hb9.cell HBB.out).trans j2⟩)
      ((first | (go_simp; go_at_call 20; refine (HC.out _ (Below.refl _ _).drew).mono ?_; rintro e w9 ⟨A9, n9, c9, rfl, hc9, hr9, hb9⟩)))
    have hb9' := (Below.refl w7.heap.size w7).drew.trans hb9
    have hB9 := hB7.trans (hb9'.mono hB7.size)
    have HE := Lib.hid (equalLocks_t _ _ A8 A9 n8 c8 n9 c9 _ _ (hr8.below hb9') hr9)
    clear hr8 hr9
    cases b2
    all_goals
      go_wp2_with fail
      refine HE.out.mono ?_
      rintro e w10 ⟨rfl, hb10⟩
      go_wp2_with fail
      go_ret
      exact ⟨rfl, hB9.trans (hb10.mono hB9.size)⟩
set_option maxRecDepth 100000 in
set_option maxHeartbeats 1600000 in
theorem lawTakeTwice (A : Option Addr) (n c : Nat) (zs : List Int) (w : World) (hn : n ≤ 1048576) (hr : Rd cB 1 w 0 A n zs) (hc : n ≤ c) (hz : ∀ (k : Nat) (z : Int), zs[k]? = some z → 0 ≤ z ∧ z ≤ 255) (hT : Tb w) :
    Calls Tryd.prog 4 #[.slice A n c] w fun e w' => e = .returned (.bool true) ∧ Below w.heap.size w w' := by
  have hn' : (n : Int) ≤ 1048576 := by omega
  go_enter Tryd.func4, Tryd.ntmps4
  go_wp2_with fail
  refine (DrawTakeAll_any A n c zs _ hr hc hz).mono ?_
  rintro e w1 ⟨A1, n1, c1, l, A2, m, c2, list, rfl, hc1, hrl, hn1, hc2, hrs, hm, hb1⟩
  have hT1 := hT.below hb1
  cases ht : takeAllF l list with
  | none =>
    have hTA := TakeAll_b _ _ A1 A2 n1 c1 m c2 l list _ hrl hc1 hrs hT1
    have hTS := fun w' (hb' : Below w1.heap.size w1 w') => TakeAllS_b _ _ A1 A2 n1 c1 m c2 l list w' (hrl.below hb') hc1 (hrs.below hb')
    rw [ht] at hTA hTS
    have HTA := Lib.hid hTA
    have HTS := Lib.hid hTS
    clear hTA hTS ht
    go_wp2_with fail
    refine HTA.out.mono ?_
    rintro e w2 ⟨A3, n3, c3, rfl, hc3, hr3, hb2⟩
    have hB2 := hb1.trans (hb2.mono hb1.size)
    go_wp2_with fail
    refine (HTS.out _ hb2).mono ?_
    rintro e w4 ⟨A5, n5, c5, rfl, hc5, hr5, hb4⟩
    have hB4 := hB2.trans (hb4.mono hB2.size)
    go_wp2_with fail
    refine (equalLocks_t _ _ A3 A5 n3 c3 n5 c5 _ _ (hr3.below hb4) hr5).mono ?_
    rintro e w6 ⟨rfl, hb6⟩
    have hB6 := hB4.trans (hb6.mono hB4.size)
    have hr36 := (hr3.below hb4).below hb6
    have hr56 := hr5.below hb6
    clear hr3 hr5
    go_wp2_with fail
    refine (equalLocks_t _ _ A3 A5 n3 c3 n5 c5 _ _ hr36 hr56).mono ?_
    rintro e w7 ⟨rfl, hb7⟩
    go_wp2_with fail
    go_ret
    exact ⟨rfl, hB6.trans (hb7.mono hB6.size)⟩
  | some out =>
  have HT := Lib.hid ht
  have hTA := TakeAll_b _ _ A1 A2 n1 c1 m c2 l list _ hrl hc1 hrs hT1
  have hTS := fun w' (hb' : Below w1.heap.size w1 w') => TakeAllS_b _ _ A1 A2 n1 c1 m c2 l list w' (hrl.below hb') hc1 (hrs.below hb')
  rw [ht] at hTA hTS
  have HTA := Lib.hid hTA
  have HTS := Lib.hid hTS
  clear hTA hTS ht
  go_wp2_with fail
  refine HTA.out.mono ?_
  rintro e w2 ⟨A3, n3, c3, rfl, hc3, hr3, hb2⟩
  have hB2 := hb1.trans (hb2.mono hb1.size)
  go_wp2_with fail
  refine (HTS.out _ hb2).mono ?_
  rintro e w4 ⟨A5, n5, c5, rfl, hc5, hr5, hb4⟩
  have hB4 := hB2.trans (hb4.mono hB2.size)
  go_wp2_with fail
  refine (equalLocks_t _ _ A3 A5 n3 c3 n5 c5 _ _ (hr3.below hb4) hr5).mono ?_
  rintro e w6 ⟨rfl, hb6⟩
  have hB6 := hB4.trans (hb6.mono hB4.size)
  have hrl6 := ((hrl.below hb2).below hb4).below hb6
  have hrs6 := ((hrs.below hb2).below hb4).below hb6
  have hr36 : Rd cL 3 w6 _ A3 n3 out := (hr3.below hb4).below hb6
  have hT6 := hT.below hB6
  have HL1 := Lib.hid hrl.len
  have HL2 := Lib.hid hrs.len
  have HL3 : Hid (out.length = n3) := hr3.len
  have HV1 := Lib.hid (takeAllF_some HT.out).1
  have HVO := Lib.hid (takeAllF_VTb HT.out)
  clear hr5 hr3 hrl hrs hr hz hb1 hb2 hb4 hb6 hB2 hB4 hT1 HTA HTS
  have hag := TakeAll_b _ _ A3 A2 n3 c3 m c2 out list _ hr36 hc3 hrs6 hT6
  rw [takeAllF_twice HT.out] at hag
  have HAG := Lib.hid hag
  have hnl := fun w' (hb' : Below w6.heap.size w6 w') => TakeAll_b _ 0 A1 none n1 c1 0 0 l [] w' (hrl6.below hb') hc1 Rd.nil (hT6.below hb')
  rw [takeAllF_nil HV1.out] at hnl
  have HNL := Lib.hid hnl
  clear hag hnl
  go_wp2_with fail
  refine HAG.out.mono ?_
  rintro e w7 ⟨A7, n7, c7, rfl, hc7, hr7, hb7⟩
  go_wp2_with fail
  refine (HNL.out _ hb7).mono ?_
  rintro e w8 ⟨A8, n8, c8, rfl, hc8, hr8, hb8⟩
  have hb68 := hb7.trans (hb8.mono hb7.size)
  have HE := Lib.hid (equalLocks_t _ _ A7 A3 n7 c7 n3 c3 out _ (hr7.below hb8) (hr36.below hb68))
  have HE2 := Lib.hid (fun w' (hb' : Below w8.heap.size w8 w') => equalLocks_t _ _ A8 A1 n8 c8 n1 c1 l w' (hr8.below hb') ((hrl6.below hb68).below hb'))
  clear hr7 hr8
  go_wp2_with fail
  refine HE.out.mono ?_
  rintro e w9 ⟨rfl, hb9⟩
  go_wp2_with fail
  refine (HE2.out _ hb9).mono ?_
  rintro e w10 ⟨rfl, hb10⟩
  go_wp2_with fail
  go_ret
  exact ⟨rfl, hB6.trans ((hb68.trans ((hb9.trans (hb10.mono hb9.size)).mono hb68.size)).mono hB6.size)⟩
set_option maxRecDepth 100000 in
set_option maxHeartbeats 1600000 in
theorem lawTakeAll (A : Option Addr) (n c : Nat) (zs : List Int) (w : World) (hn : n ≤ 1048576) (hr : Rd cB 1 w 0 A n zs) (hc : n ≤ c) (hz : ∀ (k : Nat) (z : Int), zs[k]? = some z → 0 ≤ z ∧ z ≤ 255) (hT : Tb w) :
    Calls Tryd.prog 5 #[.slice A n c] w fun e w' => e = .returned (.bool true) ∧ Below w.heap.size w w' := by
  have hn' : (n : Int) ≤ 1048576 := by omega
  go_enter Tryd.func5, Tryd.ntmps5
  go_wp2_with fail
  refine (DrawTakeAll_any A n c zs _ hr hc hz).mono ?_
  rintro e w1 ⟨A1, n1, c1, l, A2, m, c2, list, rfl, hc1, hrl, hn1, hc2, hrs, hm, hb1⟩
  have hT1 := hT.below hb1
  cases ht : takeAllF l list with
  | none =>
    have hTA := TakeAll_b _ _ A1 A2 n1 c1 m c2 l list _ hrl hc1 hrs hT1
    have hTS := fun w' (hb' : Below w1.heap.size w1 w') => TakeAllS_b _ _ A1 A2 n1 c1 m c2 l list w' (hrl.below hb') hc1 (hrs.below hb')
    rw [ht] at hTA hTS
    have HTA := Lib.hid hTA
    have HTS := Lib.hid hTS
    clear hTA hTS ht
    go_wp2_with fail
    refine HTA.out.mono ?_
    rintro e w2 ⟨A3, n3, c3, rfl, hc3, hr3, hb2⟩
    have hB2 := hb1.trans (hb2.mono hb1.size)
    go_wp2_with fail
    refine (HTS.out _ hb2).mono ?_
    rintro e w4 ⟨A5, n5, c5, rfl, hc5, hr5, hb4⟩
    have hB4 := hB2.trans (hb4.mono hB2.size)
    go_wp2_with fail
    refine (equalLocks_t _ _ A3 A5 n3 c3 n5 c5 _ _ (hr3.below hb4) hr5).mono ?_
    rintro e w6 ⟨rfl, hb6⟩
    have hB6 := hB4.trans (hb6.mono hB4.size)
    have hr36 := (hr3.below hb4).below hb6
    have hr56 := hr5.below hb6
    clear hr3 hr5
    go_wp2_with fail
    refine (equalLocks_t _ _ A3 A5 n3 c3 n5 c5 _ _ hr36 hr56).mono ?_
    rintro e w7 ⟨rfl, hb7⟩
    go_wp2_with fail
    go_ret
    exact ⟨rfl, hB6.trans (hb7.mono hB6.size)⟩
  | some out =>
  have HT := Lib.hid ht
  have hTA := TakeAll_b _ _ A1 A2 n1 c1 m c2 l list _ hrl hc1 hrs hT1
  have hTS := fun w' (hb' : Below w1.heap.size w1 w') => TakeAllS_b _ _ A1 A2 n1 c1 m c2 l list w' (hrl.below hb') hc1 (hrs.below hb')
  rw [ht] at hTA hTS
  have HTA := Lib.hid hTA
  have HTS := Lib.hid hTS
  clear hTA hTS ht
  go_wp2_with fail
  refine HTA.out.mono ?_
  rintro e w2 ⟨A3, n3, c3, rfl, hc3, hr3, hb2⟩
  have hB2 := hb1.trans (hb2.mono hb1.size)
  go_wp2_with fail
  refine (HTS.out _ hb2).mono ?_
  rintro e w4 ⟨A5, n5, c5, rfl, hc5, hr5, hb4⟩
  have hB4 := hB2.trans (hb4.mono hB2.size)
  go_wp2_with fail
  refine (equalLocks_t _ _ A3 A5 n3 c3 n5 c5 _ _ (hr3.below hb4) hr5).mono ?_
  rintro e w6 ⟨rfl, hb6⟩
  have hB6 := hB4.trans (hb6.mono hB4.size)
  have hrl6 := ((hrl.below hb2).below hb4).below hb6
  have hrs6 := ((hrs.below hb2).below hb4).below hb6
  have hr36 : Rd cL 3 w6 _ A3 n3 out := (hr3.below hb4).below hb6
  have hT6 := hT.below hB6
  have HL1 := Lib.hid hrl.len
  have HL2 := Lib.hid hrs.len
  have HL3 : Hid (out.length = n3) := hr3.len
  have HV1 := Lib.hid (takeAllF_some HT.out).1
  have HVO := Lib.hid (takeAllF_VTb HT.out)
  clear hr5 hr3 hrl hrs hr hz hb1 hb2 hb4 hb6 hB2 hB4 hT1 HTA HTS
  have HC1 := Lib.hid (takeAllF_held HT.out).1
  have HC2 := Lib.hid (takeAllF_held HT.out).2
  go_wp2_with fail
  go_loopw [9] (fun i wr => ∃ k : Nat, k ≤ m ∧ i = .int .i64 k ∧ Below w6.heap.size w6 wr) (fun i _ => m - (intOf i).toNat)
  case atStart => exact ⟨0, Nat.zero_le _, rfl, Below.refl _ _⟩
  case round =>
    rename World => W1
    obtain ⟨k, hk, rfl, hbl⟩ := hrel
    by_cases hlt : k < m
    case pos =>
      obtain ⟨b, o, x, rfl, _, hb, hx, g0, g1, g2⟩ := (hrs6.below hbl).atL hlt
      have hst := HC1.out x (List.mem_of_getElem? hx)
      obtain ⟨xw, xn, xm⟩ := x
      simp only at g0 g1 g2 hst
      have a0 := aft g0
      have a1 := aft g1
      have a2 := aft g2
      have HH := Lib.hid (fun w' (hb' : Below W1.heap.size W1 w') => HeldMode_t _ A3 n3 c3 out xw xn w' ((hr36.below hbl).below hb') hc3 ((hT6.below hbl).below hb') HVO.out)
      have HS := Lib.hid (fun w' (hb' : Below W1.heap.size W1 w') => IsStronger_t (heldF out xw xn) xm w' (heldF_isM HVO.out _ _) hst.2 ((hT6.below hbl).below hb'))
      rw [hst.1] at HS
      clear hx g0 g1 g2 hst hb
      go_wp2_with fail
      refine wp_region_after (by kernel_rfl) (by kernel_rfl) ?_
      repeat (go_big_quiet_step ((first
        | (go_at_call 22; exact aft_call (HH.out _ (After.below _)))
        | (go_at_call 21; exact aft_same (HS.out _ (After.below _))))))
      refine wpQuiet_nil ?_
      intro w7 hb7
      go_wp2_with fail
      go_roundw
      case rel => exact ⟨k + 1, by omega, by go_num, hbl.trans (hb7.mono hbl.size)⟩
      case measure => simp [intOf]; omega
    go_wp2_with fail
    go_loopw [10] (fun i wr => ∃ k : Nat, k ≤ n1 ∧ i = .int .i64 k ∧ Below w6.heap.size w6 wr) (fun i _ => n1 - (intOf i).toNat)
    case atStart => exact ⟨0, Nat.zero_le _, rfl, hbl⟩
    case round =>
      rename World => W2
      obtain ⟨k, hk, rfl, hbl⟩ := hrel
      by_cases hlt : k < n1
      case pos =>
        obtain ⟨b, o, x, rfl, _, hb, hx, g0, g1, g2⟩ := (hrl6.below hbl).atL hlt
        have hst := HC2.out x (List.mem_of_getElem? hx)
        obtain ⟨xw, xn, xm⟩ := x
        simp only at g0 g1 g2 hst
        have a0 := aft g0
        have a1 := aft g1
        have a2 := aft g2
        have HH := Lib.hid (fun w' (hb' : Below W2.heap.size W2 w') => HeldMode_t _ A3 n3 c3 out xw xn w' ((hr36.below hbl).below hb') hc3 ((hT6.below hbl).below hb') HVO.out)
        have HS := Lib.hid (fun w' (hb' : Below W2.heap.size W2 w') => IsStronger_t (heldF out xw xn) xm w' (heldF_isM HVO.out _ _) hst.2 ((hT6.below hbl).below hb'))
        rw [hst.1] at HS
        clear hx g0 g1 g2 hst hb
        go_wp2_with fail
        refine wp_region_after (by kernel_rfl) (by kernel_rfl) ?_
        repeat (go_big_quiet_step ((first
          | (go_at_call 22; exact aft_call (HH.out _ (After.below _)))
          | (go_at_call 21; exact aft_same (HS.out _ (After.below _))))))
        refine wpQuiet_nil ?_
        intro w7 hb7
        go_wp2_with fail
        go_roundw
        case rel => exact ⟨k + 1, by omega, by go_num, hbl.trans (hb7.mono hbl.size)⟩
        case measure => simp [intOf]; omega
      go_wp2_with fail
      refine (ValidTable_t _ A3 n3 c3 out _ (hr36.below hbl) hc3 (hT6.below hbl) HVO.out).mono ?_
      rintro e w8 ⟨rfl, hb8⟩
      go_wp2_with fail
      go_ret
      exact ⟨rfl, hB6.trans ((hbl.trans (hb8.mono hbl.size)).mono hB6.size)⟩
end Go.Proofs.YtkolhdlmpjehfaaDoor
