/- The walk of the law FnLosersOfEnd. -/
import Derived.Test.YtpklfhefhfkkhaaLosersW
import Derived.Test.YtpklfhefhfkkhaaEqInts
namespace Go.Proofs.Ytpklfhefhfkkhaa
open Go.RowKit

set_option maxHeartbeats 1000000 in
theorem lawLosers (A : Option Addr) (n c : Nat) (zs : List Int) (w : World) (hn : n ≤ 1048576) (hr : Rd cB 1 w 0 A n zs) (hc : n ≤ c) (hz : ∀ (k : Nat) (z : Int), zs[k]? = some z → 0 ≤ z ∧ z ≤ 255) :
    Calls Try.prog 9 #[.slice A n c] w fun e w' => e = .returned (.bool true) ∧ Below w.heap.size w w' := by
  have hn' : (n : Int) ≤ 1048576 := by omega
  go_enter Try.func9, Try.ntmps9
  go_wp2_with fail
  refine (DrawLosersOf_any A n c zs _ hr hc hz).mono ?_
  rintro e w1 ⟨A1, n1, c1, t, A2, m, c2, log, rfl, hc1, hrt, hn1, hzt, hc2, hrl, hm, hb1⟩
  go_wp2_with fail
  refine (LosersOf_any _ _ A1 A2 n1 c1 m c2 t log _ hrt hc1 hrl hc2).mono ?_
  rintro e w2 ⟨v2, rfl, ho2, hb2⟩
  have hB2 := hb1.trans (hb2.mono hb1.size)
  obtain ⟨A3, n3, c3, rfl, hc3, hr3⟩ := ho2.rdn elI.len (by have := los_len t log; omega)
  clear ho2
  go_wp2_with fail
  refine (LosersOfS_any _ _ A1 A2 n1 c1 m c2 t log _ (hrt.below hb2) hc1 hzt (hrl.below hb2)).mono ?_
  rintro e w4 ⟨v4, rfl, ho4, hb4⟩
  have hB4 := hB2.trans (hb4.mono hB2.size)
  obtain ⟨A5, n5, c5, rfl, hc5, hr5⟩ := ho4.rdn elI.len (by have := los_len t log; omega)
  clear ho4
  go_wp2_with fail
  refine (equalInts_t _ _ A3 A5 n3 c3 n5 c5 _ _ (hr3.below hb4) hr5).mono ?_
  rintro e w6 ⟨rfl, hb6⟩
  have hB6 := hB4.trans (hb6.mono hB4.size)
  have hrt6 := ((hrt.below hb2).below hb4).below hb6
  have hrl6 := ((hrl.below hb2).below hb4).below hb6
  have hr36 := (hr3.below hb4).below hb6
  have HL2 := Lib.hid hrl.len
  clear hr5 hr3 hrt hrl hr hz hb1 hb2 hb4 hb6 hB2 hB4
  go_wp2_with fail
  refine (ValidLog_any _ _ A1 A2 n1 c1 m c2 t log _ hrt6 hc1 hrl6).mono ?_
  rintro e w7 ⟨rfl, hb7⟩
  have hB7 := hB6.trans (hb7.mono hB6.size)
  have hrt7 := hrt6.below hb7
  have hrl7 := hrl6.below hb7
  have hr37 := hr36.below hb7
  clear hrt6 hrl6 hr36 hb7 hB6
  by_cases hv : vl t log = true ∧ m ≤ 12
  case neg =>
    by_cases hv1 : vl t log = true
    · have hm12 : (16 : Int) < (m : Int) + 4 := by have : ¬ m ≤ 12 := fun h => hv ⟨hv1, h⟩; omega
      rw [hv1]
      clear hv hv1
      go_wp2_with fail
      refine (LosersOfS_any _ _ A1 A2 n1 c1 m c2 t log _ hrt7 hc1 hzt hrl7).mono ?_
      rintro e w8 ⟨v8, rfl, ho8, hb8⟩
      obtain ⟨A9, n9, c9, rfl, hc9, hr9⟩ := ho8.rdn elI.len (by have := los_len t log; omega)
      clear ho8
      go_wp2_with fail
      refine (equalInts_t _ _ A3 A9 n3 c3 n9 c9 _ _ (hr37.below hb8) hr9).mono ?_
      rintro e w9 ⟨rfl, hb9⟩
      go_wp2_with fail
      go_ret
      exact ⟨rfl, hB7.trans ((hb8.trans (hb9.mono hb8.size)).mono hB7.size)⟩
    · have hv2 : vl t log = false := by simpa using hv1
      rw [hv2]
      clear hv hv1
      go_wp2_with fail
      refine (LosersOfS_any _ _ A1 A2 n1 c1 m c2 t log _ hrt7 hc1 hzt hrl7).mono ?_
      rintro e w8 ⟨v8, rfl, ho8, hb8⟩
      obtain ⟨A9, n9, c9, rfl, hc9, hr9⟩ := ho8.rdn elI.len (by have := los_len t log; omega)
      clear ho8
      go_wp2_with fail
      refine (equalInts_t _ _ A3 A9 n3 c3 n9 c9 _ _ (hr37.below hb8) hr9).mono ?_
      rintro e w9 ⟨rfl, hb9⟩
      go_wp2_with fail
      go_ret
      exact ⟨rfl, hB7.trans ((hb8.trans (hb9.mono hb8.size)).mono hB7.size)⟩
  obtain ⟨hv1, hm12⟩ := hv
  have HN := Lib.hid (los_all (VL_of hv1) (by have := HL2.out; omega))
  have hm12' : (m : Int) + 4 ≤ 16 := by omega
  rw [hv1]
  clear hv1 hr37
  have hs7 := hB7.size
  go_wp2_with (at_builtin; refine wpList_append_rd elR _ rfl (.tmp 42) (.tmp 43) rfl rfl (Own.empty w7 elR.len) rfl (hrl7.alloc _) (by simp; omega) (by simp) ?_; intro v8 w8 ho8 hg8 _; have hb8 := below_own ((Below.refl w7.heap.size w7).alloc (Nat.le_refl _) _) (Own.empty (e := 30) w7 elR.len) hg8 (Nat.le_refl _) (by simp))
  simp only [List.nil_append] at ho8
  clear hg8
  go_loopw [6, 7] (fun v i wr => ∃ k : Nat, k ≤ 4 ∧ i = .int .i64 k ∧ Below w7.heap.size w7 wr ∧ Own cR 4 30 wr w7.heap.size v (log ++ allEnd.take k)) (fun _ i _ => 4 - (intOf i).toNat)
  case atStart => exact ⟨0, Nat.zero_le _, rfl, hb8, by simpa using ho8⟩
  case round =>
    obtain ⟨k, hk, rfl, hbl, ho⟩ := hrel
    have hs := hbl.size
    by_cases hlt : k < 4
    case neg =>
      obtain rfl : k = 4 := by omega
      have ho' : Own cR 4 30 wr w7.heap.size _ (log ++ allEnd) := ho
      obtain ⟨A9, n9, c9, rfl, hc9, hr9⟩ := ho'.rdn elR.len (by have := HL2.out; simp [allEnd]; omega)
      clear ho ho'
      go_wp2_with fail
      refine (LosersOf_any _ _ A1 A9 n1 c1 n9 c9 t _ _ (hrt7.below hbl) hc1 hr9 hc9).mono ?_
      rintro e w10 ⟨v10, rfl, ho10, hb10⟩
      rw [HN.out] at ho10
      obtain ⟨A11, n11, c11, rfl, hc11, hr11⟩ := ho10.rdn elI.len (by simp)
      obtain rfl : n11 = 0 := hr11.len.symm
      clear ho10
      go_wp2_with fail
      go_ret
      exact ⟨rfl, hB7.trans ((hbl.trans (hb10.mono hbl.size)).mono hs7)⟩
    have hlt' : (k : Int) < 4 := by omega
    have hlen : (log ++ allEnd.take k).length ≤ 100 := by have := HL2.out; simp [allEnd]; omega
    have HS := Lib.hid (allEnd_step k hlt)
    go_wp2_with (at_builtin; refine wpList_append_rd elR _ rfl (.tmp 49) (.tmp 52) rfl rfl (ho.alloc _) rfl (Rd_one _ #[.int .i64 (k : Int), .int .i64 0, .int .i64 0, .bool true] 30 ⟨k, 0, 0, true⟩ rfl) (by omega) (by simp; omega) ?_; intro v9 w9 ho9 hg9 _)
    have hb9 := below_own (hbl.alloc hs _) (ho.alloc (.cells #[.int .i64 (k : Int), .int .i64 0, .int .i64 0, .bool true] 30)) hg9 (Nat.le_refl _) (by simp; omega)
    go_roundw
    case rel => exact ⟨k + 1, by omega, by go_num, hb9, by rw [HS.out, ← List.append_assoc]; exact ho9⟩
    case measure => simp [intOf]; omega
end Go.Proofs.Ytpklfhefhfkkhaa
