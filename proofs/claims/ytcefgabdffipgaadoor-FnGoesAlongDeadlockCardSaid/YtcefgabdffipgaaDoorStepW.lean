/- The walks over the program's steps: doStep, TableAfter, ValidSteps. -/
import Derived.Test.YtcefgabdffipgaaDoorDelete
import Derived.Test.YtcefgabdffipgaaDoorStepS
namespace Go.Proofs.YtcefgabdffipgaaDoor
open Go.RowKit

theorem atF_hit {l : List Lk} (_ : VTb l) {who node : Int} (h : heldF l who node ≠ 0) : ∃ (j : Nat) (x : Lk), atF l who node 0 = (j : Int) ∧ l[j]? = some x ∧ x.who = who ∧ x.node = node := by
  rcases atF_spec l who node 0 with ⟨_, h2, _⟩ | ⟨j, x, h1, h2, h3, h4, _⟩
  · exact absurd h2 h
  · exact ⟨j, x, by rw [h1, Nat.zero_add], h2, h3, h4⟩
theorem atF_miss {l : List Lk} (hv : VTb l) {who node : Int} (h : heldF l who node = 0) : atF l who node 0 = -1 := by
  rcases atF_spec l who node 0 with ⟨h1, _, _⟩ | ⟨j, x, h1, h2, h3, h4, _⟩
  · exact h1
  · have hm := List.mem_of_getElem? h2
    have := heldF_mem hv hm
    rw [h3, h4, h] at this
    have := (hv.ask hm).2.2.1
    omega
set_option maxHeartbeats 1000000 in
theorem doStep_any (lo : Nat) (A : Option Addr) (n c : Nat) (l : List Lk) (s : St) (w : World) (hr : Rd cL 3 w lo A n l) (hc : n ≤ c) (hT : Tb w) (hv : VTb l) :
    Calls Tryd.prog 18 #[.slice A n c, .agg #[.int .i64 s.who, .bool s.free, .int .i64 s.node, .int .i64 s.mode]] w (LksO w (doF l s)) := by
  obtain ⟨sw, sf, sn, sm⟩ := s
  simp only
  have hbA := (Below.refl w.heap.size w).alloc (Nat.le_refl _) (.cells #[.int .i64 sw, .bool sf, .int .i64 sn, .int .i64 sm] 32)
  have hsA := hbA.size
  have hrA := hr.alloc (.cells #[.int .i64 sw, .bool sf, .int .i64 sn, .int .i64 sm] 32)
  have hTA := hT.alloc (.cells #[.int .i64 sw, .bool sf, .int .i64 sn, .int .i64 sm] 32)
  have HV := Lib.hid hv
  have HL := Lib.hid hr.len
  have hn48 : n ≤ 48 := by have := hv.1; rw [hr.len] at this; exact this
  cases sf with
  | false =>
    rw [show doF l ⟨sw, false, sn, sm⟩ = takeF l sw sn sm from doF_take rfl]
    cases htk : takeF l sw sn sm with
    | none =>
      have HT := Lib.hid (TakeLock_f _ A n c l sw sn sm _ hrA hc hTA htk)
      clear htk hv hr hT
      go_enter Tryd.func18, Tryd.ntmps18
      go_wp2_with fail
      refine HT.out.mono ?_
      rintro e w3 ⟨rfl, hb3⟩
      go_wp2_with fail
      go_ret2
      exact ⟨rfl, hbA.trans (hb3.mono hsA)⟩
    | some l' =>
      have HT := Lib.hid (TakeLock_t _ A n c l l' sw sn sm _ hrA hc hTA htk)
      clear htk hv hr hT
      go_enter Tryd.func18, Tryd.ntmps18
      go_wp2_with fail
      refine HT.out.mono ?_
      rintro e w3 ⟨v3, rfl, ho3, hb3⟩
      go_wp2_with fail
      go_ret2
      exact ⟨_, rfl, ho3.low hsA, hbA.trans (hb3.mono hsA)⟩
  | true =>
    by_cases hm : sm = 0
    case neg =>
      rw [show doF l ⟨sw, true, sn, sm⟩ = none from doF_nomode rfl hm]
      have hm' : (sm != 0) = true := by simpa using hm
      clear hm hv hr hT
      go_enter Tryd.func18, Tryd.ntmps18
      go_wp2_with fail
      go_ret2
      exact ⟨rfl, hbA⟩
    subst hm
    have HLA := Lib.hid (lockAt_any _ A n c l sw sn _ hrA)
    by_cases h0 : heldF l sw sn = 0
    · rw [show doF l ⟨sw, true, sn, 0⟩ = none from doF_nohold rfl h0]
      rw [atF_miss hv h0] at HLA
      clear h0 hv hr hT
      go_enter Tryd.func18, Tryd.ntmps18
      go_wp2_with fail
      refine HLA.out.mono ?_
      rintro e w3 ⟨rfl, hb3⟩
      go_wp2_with fail
      go_ret2
      exact ⟨rfl, hbA.trans (hb3.mono hsA)⟩
    · obtain ⟨j, x, h1, hx, h2, h3⟩ := atF_hit hv h0
      rw [show doF l ⟨sw, true, sn, 0⟩ = some (dropF l sw sn) by rw [doF_free rfl rfl]; exact if_pos h0]
      rw [dropF_erase hv hx h2 h3]
      rw [h1] at HLA
      have hjn : j < n := by have := (List.getElem?_eq_some_iff.1 hx).1; have := HL.out; omega
      have hj0 : ¬ ((j : Int) < 0) := by omega
      clear h0 h1 hx h2 h3 hv hr hT
      go_enter Tryd.func18, Tryd.ntmps18
      go_wp2_with fail
      refine HLA.out.mono ?_
      rintro e w3 ⟨rfl, hb3⟩
      have hB3 := hbA.trans (hb3.mono hsA)
      go_wp2_with fail
      refine (CloneL_any _ A n c l _ (hrA.below hb3) (by omega)).mono ?_
      rintro e w4 ⟨v4, rfl, ho4, hb4⟩
      have hB4 := hB3.trans (hb4.mono hB3.size)
      obtain ⟨g, n', cap, rfl, hgb, hnc, hcm, hn'⟩ := ho4.form (by have := HL.out; omega)
      obtain rfl : n' = n := hn'.trans HL.out
      clear hn'
      go_wp2_with fail
      refine (DeleteL_any _ g n' cap j l _ ho4 hjn (by omega)).mono ?_
      rintro e w5 ⟨v5, rfl, ho5, hg5⟩
      go_wp2_with fail
      go_ret2
      exact ⟨_, rfl, ho5.low hB3.size, hB4.grown hg5 hB4.size fun k hk => by injection hk with hk; subst hk; exact Nat.le_trans hB3.size (ho4.blk _ rfl).1⟩

set_option maxHeartbeats 1000000 in
theorem TableAfter_any (lo : Nat) (A : Option Addr) (n c : Nat) (list : List St) (w : World) (hr : Rd cS 4 w lo A n list) (hn : n ≤ 1000000) (hT : Tb w) :
    Calls Tryd.prog 7 #[.slice A n c] w (LksO w (tabF list)) := by
  have HL := Lib.hid hr.len
  by_cases hn16 : n ≤ 16
  case neg =>
    rw [show tabF list = none from tabF_no (by have := HL.out; omega)]
    have h16 : (16 : Int) < (n : Int) := by omega
    clear hT
    go_enter Tryd.func7, Tryd.ntmps7
    go_wp2_with fail
    go_ret2
    exact ⟨rfl, Below.refl _ _⟩
  have h16 : ¬ (16 : Int) < (n : Int) := by omega
  rw [show tabF list = stepsF list [] from tabF_yes (by have := HL.out; omega)]
  generalize hR : stepsF list [] = R
  have HR := Lib.hid hR
  clear hR
  go_enter Tryd.func7, Tryd.ntmps7
  go_wp2_with fail
  go_loopw [4, 14] (fun v i wr => ∃ (k : Nat) (m : List Lk), k ≤ n ∧ i = .int .i64 k ∧ stepsF (list.take k) [] = some m ∧ VTb m ∧ Below w.heap.size w wr ∧ Own cL 3 37 wr w.heap.size v m) (fun _ i _ => n - (intOf i).toNat)
  case atStart => exact ⟨0, [], Nat.zero_le _, rfl, rfl, VTb_nil, Below.refl _ _, Own.nil _ _⟩
  case round =>
    rename World => W1
    obtain ⟨k, m, hk, rfl, hst, hvm, hbl, ho⟩ := hrel
    have hs := hbl.size
    by_cases hlt : k < n
    case neg =>
      rw [List.take_of_length_le (by have := HL.out; omega), HR.out] at hst
      subst hst
      go_wp2_with fail
      go_ret2
      exact ⟨_, rfl, ho, hbl⟩
    obtain ⟨b, o, x, rfl, _, hb, hx, g0, g1, g2, g3⟩ := (hr.below hbl).atS hlt
    have HST := Lib.hid (stepsF_snoc hst hx)
    have HSP := Lib.hid (fun hd => stepsF_stop hst hx hd)
    have hm48 := hvm.1
    obtain ⟨A2, m2, c2, rfl, hc2, hr2⟩ := ho.rdn elL.len (by omega)
    have HW : Hid (∀ l', doF m x = some l' → VTb l') := fun l' h => (doF_ok hvm h).1
    have hbA := hbl.alloc hs (.cells #[.int .i64 x.who, .bool x.free, .int .i64 x.node, .int .i64 x.mode] 32)
    have hsA := hbA.size
    have HD := Lib.hid (doStep_any _ A2 m2 c2 m x _ (hr2.alloc (.cells #[.int .i64 x.who, .bool x.free, .int .i64 x.node, .int .i64 x.mode] 32)) hc2 ((hT.below hbl).alloc _) hvm)
    clear hst hx hvm hr2 ho hm48
    cases hd : doF m x with
    | none =>
      have hnone : R = none := by rw [← HR.out]; exact HSP.out hd
      subst hnone
      rw [hd] at HD
      clear hd HSP HST HW
      go_wp2_with fail
      refine HD.out.mono ?_
      rintro e w3 ⟨rfl, hb3⟩
      go_wp2_with fail
      go_ret2
      exact ⟨rfl, hbA.trans (hb3.mono hsA)⟩
    | some l' =>
      rw [hd] at HD HST
      have HV2 := Lib.hid (HW.out _ hd)
      clear hd HSP HW
      go_wp2_with fail
      refine HD.out.mono ?_
      rintro e w3 ⟨v3, rfl, ho3, hb3⟩
      go_wp2_with fail
      go_roundw
      case rel => exact ⟨k + 1, l', by omega, by go_num, HST.out, HV2.out, hbA.trans (hb3.mono hsA), ho3.low hsA⟩
      case measure => simp [intOf]; omega
theorem ValidSteps_any (lo : Nat) (A : Option Addr) (n c : Nat) (list : List St) (w : World) (hr : Rd cS 4 w lo A n list) (hn : n ≤ 1000000) (hT : Tb w) :
    Calls Tryd.prog 13 #[.slice A n c] w fun e w' => e = .returned (.bool (vsB list)) ∧ Below w.heap.size w w' := by
  have HC := Lib.hid (TableAfter_any lo A n c list w hr hn hT)
  cases htb : tabF list with
  | none =>
    rw [vsB_f (fun h => h htb)]
    rw [htb] at HC
    clear htb hT
    go_enter Tryd.func13, Tryd.ntmps13
    go_wp2_with fail
    refine HC.out.mono ?_
    rintro e w3 ⟨rfl, hb3⟩
    go_wp2_with fail
    go_ret
    exact ⟨rfl, hb3⟩
  | some l =>
    rw [vsB_t (VS_of htb)]
    rw [htb] at HC
    clear htb hT
    go_enter Tryd.func13, Tryd.ntmps13
    go_wp2_with fail
    refine HC.out.mono ?_
    rintro e w3 ⟨v3, rfl, ho3, hb3⟩
    go_wp2_with fail
    go_ret
    exact ⟨rfl, hb3⟩
end Go.Proofs.YtcefgabdffipgaaDoor
