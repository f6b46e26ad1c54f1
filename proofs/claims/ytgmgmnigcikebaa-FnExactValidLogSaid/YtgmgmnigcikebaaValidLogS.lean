/- The walks over the reference's validLog and ValidLog. -/
import Derived.Test.YtgmgmnigcikebaaValidLogP
import Derived.Test.YtgmgmnigcikebaaTreeV3
namespace Go.Proofs.Ytgmgmnigcikebaa
open Go.RowKit

set_option maxHeartbeats 1000000 in
theorem validLog_any (lo2 : Nat) (A A2 : Option Addr) (n c m c2 : Nat) (log : List Rc) (w : World) (hn : n ≤ 1000000000000000) (hr2 : Rd cR 4 w lo2 A2 m log) :
    Calls Try.prog 14 #[.slice A n c, .slice A2 m c2] w fun e w' => e = .returned (.bool (vl0 n log)) ∧ Below w.heap.size w w' := by
  have hl2 := hr2.len
  have hm := hr2.le
  have HL2 := Lib.hid hl2
  clear hl2
  go_enter Try.func14, Try.ntmps14
  go_wp2_with fail
  go_loopw [5] (fun i wr => ∃ k : Nat, k ≤ m ∧ i = .int .i64 k ∧ Below w.heap.size w wr ∧ OkLogTo n log k) (fun i _ => m - (intOf i).toNat)
  case atStart => exact ⟨0, Nat.zero_le _, rfl, Below.refl _ _, fun _ _ h => absurd h (by omega)⟩
  case round =>
    obtain ⟨k, hk, rfl, hbl, hK⟩ := hrel
    have hs := hbl.size
    by_cases hlt : k < m
    case neg =>
      by_cases h16 : (m : Int) ≤ 16
      · have HT := Lib.hid (vl0_true (n := n) (log := log) (by have := HL2.out; omega) (hK.all (by have := HL2.out; omega)))
        go_wp2_with fail
        go_ret
        exact ⟨ret_bool (by rw [HT.out]), hbl⟩
      · have HT := Lib.hid (vl0_false (n := n) (log := log) (fun h => by have := HL2.out; omega))
        have h17 : (16 : Int) < (m : Int) := by omega
        go_wp2_with fail
        go_ret
        exact ⟨ret_bool (by rw [HT.out]), hbl⟩
    obtain ⟨b, o, r, rfl, _, hb, hx, g0, g1, g2, g3⟩ := (hr2.below hbl).atR hlt
    have HX := Lib.hid hx
    have hno (h : ¬ OkRec n r) : vl0 n log = false := vl0_false (fun h' => h (h'.2 k r HX.out))
    clear hx
    by_cases c1 : r.who < 0 ∨ 3 < r.who
    · have HF := Lib.hid (hno (fun h => by have := h.1; have := h.2.1; omega))
      clear hno
      go_wp2_with (go_at_call 22; refine (inRange_f _ _ _ _ (by omega)).mono ?_; rintro e w' ⟨rfl, rfl⟩)
      go_ret
      exact ⟨ret_bool (by rw [HF.out]), hbl.alloc hs _⟩
    by_cases c2 : r.node < 0 ∨ (n : Int) - 1 < r.node
    · have HF := Lib.hid (hno (fun h => by have := h.2.2.1; have := h.2.2.2.1; omega))
      clear hno
      go_wp2_with (first
        | (go_at_call 22; refine (inRange_t _ _ _ _ (by omega) (by omega)).mono ?_; rintro e w' ⟨rfl, rfl⟩)
        | (go_at_call 22; refine (inRange_f _ _ _ _ (by omega)).mono ?_; rintro e w' ⟨rfl, rfl⟩))
      go_ret
      exact ⟨ret_bool (by rw [HF.out]), hbl.alloc hs _⟩
    by_cases c3 : r.val < -1000 ∨ 1000 < r.val
    · have HF := Lib.hid (hno (fun h => by have := h.2.2.2.2.1; have := h.2.2.2.2.2.1; omega))
      clear hno
      go_wp2_with (first
        | (go_at_call 22; refine (inRange_t _ _ _ _ (by omega) (by omega)).mono ?_; rintro e w' ⟨rfl, rfl⟩)
        | (go_at_call 22; refine (inRange_f _ _ _ _ (by omega)).mono ?_; rintro e w' ⟨rfl, rfl⟩))
      go_ret
      exact ⟨ret_bool (by rw [HF.out]), hbl.alloc hs _⟩
    have r0 : 0 ≤ r.who ∧ r.who ≤ 3 ∧ 0 ≤ r.node ∧ r.node ≤ (n : Int) - 1 ∧ -1000 ≤ r.val ∧ r.val ≤ 1000 := by omega
    obtain ⟨q0, q1, q2, q3, q4, q5⟩ := r0
    clear c1 c2 c3
    obtain ⟨who, node, val, fin⟩ := r
    simp only at q0 q1 q2 q3 q4 q5 g0 g1 g2 g3
    cases fin
    · have HK := Lib.hid (hK.succ HX.out ⟨q0, q1, q2, q3, q4, q5, fun h => by cases h⟩)
      clear hno
      go_wp2_with (go_at_call 22; refine (inRange_t _ _ _ _ (by omega) (by omega)).mono ?_; rintro e w' ⟨rfl, rfl⟩)
      go_roundw
      case rel => exact ⟨k + 1, by omega, by go_num, hbl.alloc hs _, HK.out⟩
      case measure => simp [intOf]; omega
    by_cases d1 : node = 0
    case neg =>
      have HF := Lib.hid (hno (fun h => d1 (h.2.2.2.2.2.2 rfl).1))
      have d1' : (node != 0) = true := by simpa using d1
      clear hno
      go_wp2_with (go_at_call 22; refine (inRange_t _ _ _ _ (by omega) (by omega)).mono ?_; rintro e w' ⟨rfl, rfl⟩)
      go_ret
      exact ⟨ret_bool (by rw [HF.out]), hbl.alloc hs _⟩
    by_cases d2 : val = 0
    case neg =>
      have HF := Lib.hid (hno (fun h => d2 (h.2.2.2.2.2.2 rfl).2))
      have d2' : (val != 0) = true := by simpa using d2
      subst d1
      clear hno
      go_wp2_with (go_at_call 22; refine (inRange_t _ _ _ _ (by omega) (by omega)).mono ?_; rintro e w' ⟨rfl, rfl⟩)
      go_ret
      exact ⟨ret_bool (by rw [HF.out]), hbl.alloc hs _⟩
    subst d1 d2
    have HK := Lib.hid (hK.succ HX.out ⟨q0, q1, q2, q3, q4, q5, fun _ => ⟨rfl, rfl⟩⟩)
    clear hno
    go_wp2_with (go_at_call 22; refine (inRange_t _ _ _ _ (by omega) (by omega)).mono ?_; rintro e w' ⟨rfl, rfl⟩)
    go_roundw
    case rel => exact ⟨k + 1, by omega, by go_num, hbl.alloc hs _, HK.out⟩
    case measure => simp [intOf]; omega

theorem ValidLogS_any (lo lo2 : Nat) (A A2 : Option Addr) (n c m c2 : Nat) (t : List Nd) (log : List Rc) (w : World) (hr : Rd cN 3 w lo A n t) (hc : n ≤ c) (hz : NmB t) (hr2 : Rd cR 4 w lo2 A2 m log) :
    Calls Try.prog 6 #[.slice A n c, .slice A2 m c2] w fun e w' => e = .returned (.bool (vl t log)) ∧ Below w.heap.size w w' := by
  have hn := hr.le
  have HV : Hid (vl t log = (vt t && vl0 n log)) := by
    show _ = _
    rw [vl_eq, hr.len]
  go_enter Try.func6, Try.ntmps6
  go_wp2_with fail
  refine (validTree_any lo A n c t _ hr hc hz).mono ?_
  rintro e w1 ⟨rfl, hb1⟩
  by_cases h1 : vt t = true
  · rw [h1]
    go_wp2_with fail
    refine (validLog_any lo2 A A2 n c m c2 log _ hn (hr2.below hb1)).mono ?_
    rintro e w2 ⟨rfl, hb2⟩
    go_wp2_with fail
    go_ret
    exact ⟨ret_bool (by rw [HV.out, h1]; simp), hb1.trans (hb2.mono hb1.size)⟩
  · have h1' : vt t = false := by simpa using h1
    rw [h1']
    go_wp2_with fail
    go_ret
    exact ⟨ret_bool (by rw [HV.out, h1']; simp), hb1⟩
end Go.Proofs.Ytgmgmnigcikebaa
