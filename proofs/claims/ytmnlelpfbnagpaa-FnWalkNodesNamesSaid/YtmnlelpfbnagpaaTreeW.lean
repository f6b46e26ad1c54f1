/- The walks over the trees' checks: within, isName, kidIn, ValidTree; inRange, validName, kid, depth, validNode, validTree. -/
import Derived.Test.YtmnlelpfbnagpaaRows
import Derived.Test.YtmnlelpfbnagpaaTreeP
namespace Go.Proofs.Ytmnlelpfbnagpaa
open Go.RowKit

theorem within_t (x lo hi : Int) (w : World) (h1 : lo ≤ x) (h2 : x ≤ hi) :
    Calls Try.prog 41 #[.int .i64 x, .int .i64 lo, .int .i64 hi] w fun e w' => e = .returned (.bool true) ∧ w = w' := by
  go_enter Try.func41, Try.ntmps41
  go_wp2
  go_ret
  exact ⟨rfl, rfl⟩
theorem within_f (x lo hi : Int) (w : World) (h : x < lo ∨ hi < x) :
    Calls Try.prog 41 #[.int .i64 x, .int .i64 lo, .int .i64 hi] w fun e w' => e = .returned (.bool false) ∧ w = w' := by
  by_cases h1 : x < lo
  · go_enter Try.func41, Try.ntmps41
    go_wp2
    go_ret
    exact ⟨rfl, rfl⟩
  · have h2 : lo ≤ x := by omega
    have h3 : hi < x := by omega
    clear h h1
    go_enter Try.func41, Try.ntmps41
    go_wp2
    go_ret
    exact ⟨ret_bool (by simp; omega), rfl⟩
theorem inRange_t (x lo hi : Int) (w : World) (h1 : lo ≤ x) (h2 : x ≤ hi) :
    Calls Try.prog 47 #[.int .i64 x, .int .i64 lo, .int .i64 hi] w fun e w' => e = .returned (.bool true) ∧ w = w' := by
  go_enter Try.func47, Try.ntmps47
  go_wp2
  go_ret
  exact ⟨rfl, rfl⟩
theorem inRange_f (x lo hi : Int) (w : World) (h : x < lo ∨ hi < x) :
    Calls Try.prog 47 #[.int .i64 x, .int .i64 lo, .int .i64 hi] w fun e w' => e = .returned (.bool false) ∧ w = w' := by
  by_cases h1 : x < lo
  · go_enter Try.func47, Try.ntmps47
    go_wp2
    go_ret
    exact ⟨rfl, rfl⟩
  · have h2 : lo ≤ x := by omega
    have h3 : hi < x := by omega
    clear h h1
    go_enter Try.func47, Try.ntmps47
    go_wp2
    go_ret
    exact ⟨ret_bool (by simp; omega), rfl⟩

theorem kidIn_any (lo : Nat) (A : Option Addr) (n c : Nat) (l : List Nd) (p : Int) (s : ByteArray) (w : World) (hr : Rd cN 3 w lo A n l) :
    Calls Try.prog 38 #[.slice A n c, .int .i64 p, .string s] w fun e w' => e = .returned (.int .i64 (kidF l p s 0)) ∧ Below w.heap.size w w' := by
  have hl := hr.len
  have hn := hr.le
  go_enter Try.func38, Try.ntmps38
  go_wp2
  go_loopw [11] (fun i wr => ∃ k : Nat, k ≤ n ∧ i = .int .i64 k ∧ Below w.heap.size w wr ∧ kidF l p s 0 = kidF (l.drop k) p s k) (fun i _ => n - (intOf i).toNat)
  case atStart => exact ⟨0, Nat.zero_le _, rfl, Below.refl _ _, by simp⟩
  case round =>
    obtain ⟨k, hk, rfl, hbl, hK⟩ := hrel
    by_cases hlt : k < n
    · obtain ⟨b, o, x, rfl, _, hb, hx, g0, g1, g2⟩ := (hr.below hbl).atN hlt
      have hs := hbl.size
      rw [drop_cons hx, kidF] at hK
      clear hx hr
      have HK := Lib.hid hK; clear hK
      go_wp2
      · go_ret
        exact ⟨ret_int (by rw [HK.out, if_pos ⟨‹_›, ‹_›⟩]), hbl.alloc hs _⟩
      · go_roundw
        case rel => exact ⟨k+1, by omega, by go_num, hbl.alloc hs _, by rw [HK.out, if_neg (by simp [*])]⟩
        case measure => simp [intOf]; omega
      · go_roundw
        case rel => exact ⟨k+1, by omega, by go_num, hbl.alloc hs _, by rw [HK.out, if_neg (by simp [*])]⟩
        case measure => simp [intOf]; omega
    · rw [List.drop_eq_nil_of_le (by omega), kidF] at hK
      have HK := Lib.hid hK; clear hK
      go_wp2
      go_ret
      exact ⟨ret_int (by rw [HK.out]), hbl⟩

theorem ba_snoc (s : ByteArray) (k : Nat) (h : k < s.size) : s.data.toList.take (k + 1) = s.data.toList.take k ++ [s[k]] := by
  rw [List.take_succ_eq_append_getElem (by simpa using h)]; rfl
theorem ba_full (s : ByteArray) (k : Nat) (h : s.size ≤ k) : s.data.toList.take k = s.data.toList := List.take_of_length_le (by simpa using h)
theorem nmOk_t {s : ByteArray} (h1 : 1 ≤ s.size) (h2 : s.size ≤ 4) (h3 : s.data.toList.all chOk = true) : nmOk s = true := by simp only [nmOk, h1, h2, h3]; rfl
theorem nmOk_size {s : ByteArray} (h : s.size < 1 ∨ 4 < s.size) : nmOk s = false := by
  unfold nmOk
  rcases h with h | h
  · rw [decide_eq_false (show ¬ 1 ≤ s.size from by omega)]; rfl
  · rw [decide_eq_false (show ¬ s.size ≤ 4 from by omega)]; simp
theorem nmOk_ch {s : ByteArray} {k : Nat} (hk : k < s.size) (h : chOk s[k] = false) : nmOk s = false := by
  have : s.data.toList.all chOk = false := by
    rw [List.all_eq_false]
    exact ⟨s[k], List.getElem_mem (l := s.data.toList) (by simpa using hk), by simp [h]⟩
  unfold nmOk
  rw [this]; simp
theorem chOk_t {c : UInt8} (h : chOk c = true) : 97 ≤ (c.toNat : Int) ∧ (c.toNat : Int) ≤ 122 := by simpa [chOk] using h
theorem chOk_f {c : UInt8} (h : chOk c = false) : (c.toNat : Int) < 97 ∨ 122 < (c.toNat : Int) := by
  unfold chOk at h
  rcases Bool.and_eq_false_iff.1 h with h | h
  · left; have := of_decide_eq_false h; omega
  · right; have := of_decide_eq_false h; omega

theorem isName_any (s : ByteArray) (w : World) :
    Calls Try.prog 42 #[.string s] w fun e w' => e = .returned (.bool (nmOk s)) ∧ w = w' := by
  by_cases h1 : s.size < 1 ∨ 4 < s.size
  · have HF := Lib.hid (nmOk_size h1)
    have h1' : (s.size : Int) < 1 ∨ (4 : Int) < (s.size : Int) := by omega
    clear h1
    go_enter Try.func42, Try.ntmps42
    go_wp2_with (go_at_call 41; refine (within_f _ _ _ _ h1').mono ?_; rintro e w' ⟨rfl, rfl⟩)
    go_ret
    exact ⟨ret_bool (by rw [HF.out]), rfl⟩
  · have h1a : 1 ≤ s.size := by omega
    have h1b : s.size ≤ 4 := by omega
    clear h1
    go_enter Try.func42, Try.ntmps42
    go_wp2_with (go_at_call 41; refine (within_t _ _ _ _ (by omega) (by omega)).mono ?_; rintro e w' ⟨rfl, rfl⟩)
    go_loop [10] (fun i => ∃ k : Nat, k ≤ s.size ∧ i = .int .i64 k ∧ (s.data.toList.take k).all chOk = true) (fun i => s.size - (intOf i).toNat)
    case atStart => exact ⟨0, Nat.zero_le _, rfl, by simp⟩
    case round =>
      obtain ⟨k, hk, rfl, hK⟩ := hrel
      by_cases hlt : k < s.size
      · by_cases hc : chOk s[k] = true
        · have hsn : (s.data.toList.take (k + 1)).all chOk = true := by rw [ba_snoc s k hlt, List.all_append, hK]; simp [hc]
          obtain ⟨hc1, hc2⟩ := chOk_t hc
          have HK := Lib.hid hsn; clear hsn hK hc
          go_wp2
          go_round
          case rel => exact ⟨k + 1, by omega, by go_num, HK.out⟩
          case measure => simp [intOf]; omega
        · have hc' : chOk s[k] = false := by simpa using hc
          have HF := Lib.hid (nmOk_ch hlt hc')
          have hcc := chOk_f hc'
          clear hc hc' hK
          by_cases hc1 : (s[k].toNat : Int) < 97
          · go_wp2
            go_ret
            exact ⟨ret_bool (by rw [HF.out]), rfl⟩
          · have hc2 : 122 < (s[k].toNat : Int) := by omega
            have hc3 : 97 ≤ (s[k].toNat : Int) := by omega
            clear hcc hc1
            go_wp2
            go_ret
            exact ⟨ret_bool (by rw [HF.out]), rfl⟩
      · have HT := Lib.hid (nmOk_t h1a h1b (by rw [← ba_full s k (by omega)]; exact hK))
        clear hK
        go_wp2
        go_ret
        exact ⟨ret_bool (by rw [HT.out]), rfl⟩

theorem validName_any (s : ByteArray) (w : World) (hz : s.size ≤ 1000000000000) :
    Calls Try.prog 75 #[.string s] w fun e w' => e = .returned (.bool (nmOk s)) ∧ w = w' := by
  go_enter Try.func75, Try.ntmps75
  go_wp2
  go_loop [3] (fun i => ∃ k : Nat, k ≤ s.size ∧ i = .int .i64 k ∧ (s.data.toList.take k).all chOk = true) (fun i => s.size - (intOf i).toNat)
  case atStart => exact ⟨0, Nat.zero_le _, rfl, by simp⟩
  case round =>
    obtain ⟨k, hk, rfl, hK⟩ := hrel
    by_cases hlt : k < s.size
    · by_cases hc : chOk s[k] = true
      · have hsn : (s.data.toList.take (k + 1)).all chOk = true := by rw [ba_snoc s k hlt, List.all_append, hK]; simp [hc]
        obtain ⟨hc1, hc2⟩ := chOk_t hc
        have HK := Lib.hid hsn; clear hsn hK hc
        go_wp2_with (go_at_call 47; refine (inRange_t _ _ _ _ (by omega) (by omega)).mono ?_; rintro e w' ⟨rfl, rfl⟩)
        go_round
        case rel => exact ⟨k + 1, by omega, by go_num, HK.out⟩
        case measure => simp [intOf]; omega
      · have hc' : chOk s[k] = false := by simpa using hc
        have HF := Lib.hid (nmOk_ch hlt hc')
        have hcc := chOk_f hc'
        have hby : (s[k].toNat : Int) ≤ 255 := by have := s[k].toNat_lt; omega
        clear hc hc' hK
        go_wp2_with (go_at_call 47; refine (inRange_f _ _ _ _ (by omega)).mono ?_; rintro e w' ⟨rfl, rfl⟩)
        go_ret
        exact ⟨ret_bool (by rw [HF.out]), rfl⟩
    · by_cases h1 : 1 ≤ s.size ∧ s.size ≤ 4
      · have HT := Lib.hid (nmOk_t h1.1 h1.2 (by rw [← ba_full s k (by omega)]; exact hK))
        clear hK
        go_wp2_with (go_at_call 47; refine (inRange_t _ _ _ _ (by omega) (by omega)).mono ?_; rintro e w' ⟨rfl, rfl⟩)
        go_ret
        exact ⟨ret_bool (by rw [HT.out]), rfl⟩
      · have HT := Lib.hid (nmOk_size (s := s) (by omega))
        clear hK
        go_wp2_with (go_at_call 47; refine (inRange_f _ _ _ _ (by omega)).mono ?_; rintro e w' ⟨rfl, rfl⟩)
        go_ret
        exact ⟨ret_bool (by rw [HT.out]), rfl⟩

theorem kid_any (lo : Nat) (A : Option Addr) (n c : Nat) (l : List Nd) (p : Int) (s : ByteArray) (w : World) (hr : Rd cN 3 w lo A n l) (h1 : 1 ≤ n) (v : Int) (hv : kidF (l.drop 1) p s 1 = v) :
    Calls Try.prog 76 #[.slice A n c, .int .i64 p, .string s] w fun e w' => e = .returned (.int .i64 v) ∧ w = w' := by
  have hl := hr.len
  have hn := hr.le
  have HV := Lib.hid hv; clear hv
  go_enter Try.func76, Try.ntmps76
  go_wp2
  go_loop [7] (fun i => ∃ k : Nat, 1 ≤ k ∧ k ≤ n ∧ i = .int .i64 k ∧ kidF (l.drop 1) p s 1 = kidF (l.drop k) p s k) (fun i => n - (intOf i).toNat)
  case atStart => exact ⟨1, Nat.le_refl _, h1, rfl, rfl⟩
  case round =>
    obtain ⟨k, hk1, hk, rfl, hK⟩ := hrel
    rw [HV.out] at hK
    by_cases hlt : k < n
    · obtain ⟨b, o, x, rfl, _, hb, hx, g0, g1, g2⟩ := hr.atN hlt
      rw [drop_cons hx, kidF] at hK
      clear hx hr
      have HK := Lib.hid hK; clear hK
      go_wp2
      · go_ret
        exact ⟨ret_int (by rw [HK.out, if_pos ⟨‹_›, ‹_›⟩]), rfl⟩
      · go_round
        case rel => exact ⟨k+1, by omega, by omega, by go_num, by rw [HV.out, HK.out, if_neg (by simp [*])]⟩
        case measure => simp [intOf]; omega
      · go_round
        case rel => exact ⟨k+1, by omega, by omega, by go_num, by rw [HV.out, HK.out, if_neg (by simp [*])]⟩
        case measure => simp [intOf]; omega
    · rw [List.drop_eq_nil_of_le (by omega), kidF] at hK
      have HK := Lib.hid hK; clear hK
      go_wp2
      go_ret
      exact ⟨ret_int (by rw [HK.out]), rfl⟩

theorem depth_any (lo : Nat) (A : Option Addr) (n c : Nat) (t : List Nd) (at0 : Nat) (w : World) (hr : Rd cN 3 w lo A n t) (h1 : at0 < n) (hd : Desc t (at0 + 1)) (v : Nat) (hv : dep t at0 = v) :
    Calls Try.prog 77 #[.slice A n c, .int .i64 at0] w fun e w' => e = .returned (.int .i64 v) ∧ w = w' := by
  have hl := hr.len
  have hn := hr.le
  have HV := Lib.hid hv; clear hv
  go_enter Try.func77, Try.ntmps77
  go_wp2
  go_loop [1, 5] (fun i m => ∃ k q : Nat, k ≤ at0 ∧ i = .int .i64 k ∧ m = .int .i64 q ∧ q + k ≤ at0 ∧ q + dep t k = dep t at0) (fun i _ => (intOf i).toNat)
  case atStart => exact ⟨at0, 0, Nat.le_refl _, rfl, rfl, by omega, by omega⟩
  case round =>
    obtain ⟨k, q, hk, rfl, rfl, hq, hK⟩ := hrel
    obtain ⟨b, o, x, rfl, _, hb, hx, g0, g1, g2⟩ := hr.atN (show k < n by omega)
    have hdk := hd k x (by omega) hx
    rw [HV.out] at hK
    by_cases h0 : 0 ≤ x.par
    · have hs := dep_step hd (by omega) hx h0
      have HK : Hid (q + 1 + dep t x.par.toNat = v) := by show _ = _; omega
      clear hs hK hx hr
      obtain ⟨j, hj⟩ := Int.eq_ofNat_of_zero_le h0
      have e1 : x.par.toNat = j := by omega
      rw [e1] at HK
      rw [hj] at g0
      have hjk : j < k := by omega
      clear hj e1 hdk h0 hd
      go_wp2
      go_round
      case rel => exact ⟨j, q + 1, by omega, rfl, by go_num, by omega, by rw [HV.out]; exact HK.out⟩
      case measure => simp [intOf]; omega
    · have hs := dep_top hx (show x.par < 0 by omega)
      have h0' : x.par < 0 := by omega
      have HK : Hid (q = v) := by show _ = _; omega
      clear hs hK hx hr h0 hd hdk
      go_wp2
      go_ret
      exact ⟨ret_int (by rw [HK.out]), rfl⟩
end Go.Proofs.Ytmnlelpfbnagpaa
