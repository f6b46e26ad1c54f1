/- The walk of the law FnRedoLog. -/
import Derived.Test.YtpklfhefhfkkhaaLawRedoTwice
import Derived.Test.YtpklfhefhfkkhaaRedoP3
namespace Go.Proofs.Ytpklfhefhfkkhaa
open Go.RowKit

set_option maxRecDepth 100000 in
set_option maxHeartbeats 1000000 in
theorem lawRedoLog (A : Option Addr) (n c : Nat) (zs : List Int) (w : World) (hn : n ≤ 1048576) (hr : Rd cB 1 w 0 A n zs) (hc : n ≤ c) (hz : ∀ (k : Nat) (z : Int), zs[k]? = some z → 0 ≤ z ∧ z ≤ 255) :
    Calls Try.prog 6 #[.slice A n c] w fun e w' => e = .returned (.bool true) ∧ Below w.heap.size w w' := by
  have hn' : (n : Int) ≤ 1048576 := by omega
  go_enter Try.func6, Try.ntmps6
  go_wp2_with fail
  refine (DrawRedoLog_any A n c zs _ hr hc hz).mono ?_
  rintro e w1 ⟨A1, n1, c1, t, A2, m, c2, log, rfl, hc1, hrt, hn1, hzt, hc2, hrl, hm, hb1⟩
  go_wp2_with fail
  refine (RedoLog_any _ _ A1 A2 n1 c1 m c2 t log _ hrt hc1 hrl hc2).mono ?_
  rintro e w2 ⟨v2, rfl, ho2, hb2⟩
  have hB2 := hb1.trans (hb2.mono hb1.size)
  obtain ⟨A3, n3, c3, rfl, hc3, hr3⟩ := ho2.rdn elN.len (by unfold redo; split; rw [redoL_len, hrt.len]; omega; simp)
  clear ho2
  go_wp2_with fail
  refine (RedoLogS_any _ _ A1 A2 n1 c1 m c2 t log _ (hrt.below hb2) hc1 hzt (hrl.below hb2)).mono ?_
  rintro e w4 ⟨v4, rfl, ho4, hb4⟩
  have hB4 := hB2.trans (hb4.mono hB2.size)
  obtain ⟨A5, n5, c5, rfl, hc5, hr5⟩ := ho4.rdn elN.len (by unfold redo; split; rw [redoL_len, hrt.len]; omega; simp)
  clear ho4
  go_wp2_with fail
  refine (equalNodes_t _ _ A3 A5 n3 c3 n5 c5 _ _ (hr3.below hb4) hr5).mono ?_
  rintro e w6 ⟨rfl, hb6⟩
  have hB6 := hB4.trans (hb6.mono hB4.size)
  have hrt6 := ((hrt.below hb2).below hb4).below hb6
  have hrl6 := ((hrl.below hb2).below hb4).below hb6
  have hr36 := (hr3.below hb4).below hb6
  have HL3 := Lib.hid hr3.len
  have HL1 := Lib.hid hrt.len
  have HL2 := Lib.hid hrl.len
  clear hr5 hr3 hrt hrl hr hz hb1 hb2 hb4 hb6 hB2 hB4
  by_cases hv : vl t log = true
  case neg =>
    have hv' : vl t log = false := by simpa using hv
    have h3 : n3 = 0 := by
      have := HL3.out
      rw [redo_no hv'] at this
      simpa using this.symm
    subst h3
    rcases Nat.eq_zero_or_pos n1 with h1 | h1
    · subst h1
      go_wp2_with fail
      refine wp_loop_rounds 1 ?_
      rw [rounds_succ]
      go_wp2_with fail
      go_ret
      exact ⟨rfl, hB6⟩
    have hne : ((0 : Int) != (n1 : Int)) = true := by simp; omega
    go_wp2_with fail
    refine (RedoLogS_any _ _ A1 A2 n1 c1 m c2 t log _ hrt6 hc1 hzt hrl6).mono ?_
    rintro e w7 ⟨v7, rfl, ho7, hb7⟩
    obtain ⟨A8, n8, c8, rfl, hc8, hr8⟩ := ho7.rdn elN.len (by unfold redo; split; rw [redoL_len, HL1.out]; omega; simp)
    clear ho7
    go_wp2_with fail
    refine (equalNodes_t _ _ A3 A8 0 c3 n8 c8 _ _ (hr36.below hb7) hr8).mono ?_
    rintro e w9 ⟨rfl, hb9⟩
    go_wp2_with fail
    go_ret
    exact ⟨rfl, hB6.trans ((hb7.trans (hb9.mono hb7.size)).mono hB6.size)⟩
  have hVL := VL_of hv
  have h31 : n3 = n1 := by have := HL3.out; rw [redo_len hv, HL1.out] at this; omega
  subst h31
  have hm16 : m ≤ 16 := by have := hVL.2.1; have := HL2.out; omega
  have hn12 : n3 ≤ 12 := by have := hVL.1.2.1; have := HL1.out; omega
  have HVL := Lib.hid hVL
  rw [redo_yes hv] at hr36
  clear hVL hv hn1
  go_wp2_with fail
  go_loopw [6] (fun i wr => ∃ k : Nat, k ≤ n3 ∧ i = .int .i64 k ∧ Below w6.heap.size w6 wr) (fun i _ => n3 - (intOf i).toNat)
  case atStart => exact ⟨0, Nat.zero_le _, rfl, Below.refl _ _⟩
  case round =>
    rename World => W1
    obtain ⟨k, hk, rfl, hbl⟩ := hrel
    by_cases hlt : k < n3
    case neg =>
      go_wp2_with fail
      go_ret
      exact ⟨rfl, hB6.trans (hbl.mono hB6.size)⟩
    obtain ⟨b, o, x, rfl, _, hb, hx, g0, g1, g2⟩ := (hrt6.below hbl).atN hlt
    obtain ⟨b3, o3, y, rfl, _, hb3, hy, d0, d1, d2⟩ := (hr36.below hbl).atN hlt
    obtain ⟨y0, y1, y2⟩ := redo_at HVL.out hx hy
    rw [y0] at d0
    rw [y1] at d1
    rw [y2] at d2
    generalize hV : foldV log k x.val = V at d2
    have HV := Lib.hid hV
    have HXB : Hid (b < W1.heap.size) := hb
    have HYB : Hid (b3 < W1.heap.size) := hb3
    obtain ⟨xp, xn, xv⟩ := x
    simp only at g0 g1 g2 d0 d1 HV
    clear hx hy y0 y1 y2 hV hrt6 hr36 hb hb3
    go_wp2_with fail
    go_loopw [7, 8] (fun v i wr => ∃ (j : Nat) (z : Int), j ≤ m ∧ i = .int .i64 j ∧ v = .int .i64 z ∧ foldV (log.drop j) k z = V ∧ Below W1.heap.size W1 wr) (fun _ i _ => m - (intOf i).toNat)
    case atStart => exact ⟨0, xv, Nat.zero_le _, rfl, rfl, HV.out, Below.refl _ _⟩
    case round =>
      rename World => W2
      obtain ⟨j, z, hj, rfl, rfl, hK, hbl2⟩ := hrel
      have hW2 := hbl.trans (hbl2.mono hbl.size)
      by_cases hjm : j < m
      case neg =>
        rw [List.drop_eq_nil_of_le (by have := HL2.out; omega), foldV] at hK
        subst hK
        have a0 := aft ((hbl2.cell (p := ⟨b, o + k * 3, none⟩) HXB.out).trans g0)
        have a1 := aft ((hbl2.cell (p := ⟨b, o + k * 3 + 1, none⟩) HXB.out).trans g1)
        have c0 := aft ((hbl2.cell (p := ⟨b3, o3 + k * 3, none⟩) HYB.out).trans d0)
        have c1' := aft ((hbl2.cell (p := ⟨b3, o3 + k * 3 + 1, none⟩) HYB.out).trans d1)
        have c2' := aft ((hbl2.cell (p := ⟨b3, o3 + k * 3 + 2, none⟩) HYB.out).trans d2)
        clear g0 g1 g2 d0 d1 d2
        go_wp2_with fail
        refine wp_region_after (by kernel_rfl) (by kernel_rfl) ?_
        repeat (go_big_quiet_step (fail))
        refine wpQuiet_nil ?_
        intro w7 hb7
        go_wp2_with fail
        go_roundw
        case rel => exact ⟨k + 1, by omega, by go_num, hW2.trans (hb7.mono hW2.size)⟩
        case measure => simp [intOf]; omega
      obtain ⟨bl, ol, r, rfl, _, hlb, hrx, r0, r1, r2, r3⟩ := (hrl6.below hW2).atR hjm
      rw [drop_cons hrx, foldV, doneF] at hK
      have HLB : Hid (bl < W2.heap.size) := hlb
      obtain ⟨rw', rn, rv, rf⟩ := r
      simp only at hK r0 r1 r2 r3
      generalize hE : endsF (log.drop (j + 1)) rw' = E at hK
      have HE := Lib.hid hE
      have HK := Lib.hid hK
      clear hrx hK hE hlb
      go_wp2_with fail
      go_loopw [9, 10] (fun d q wr => ∃ (p : Nat) (db : Bool), p ≤ m ∧ q = .int .i64 p ∧ d = .bool db ∧ (db || endsF (log.drop p) rw') = E ∧ Below W2.heap.size W2 wr) (fun _ q _ => m - (intOf q).toNat)
      case atStart => exact ⟨j + 1, false, by omega, by go_num, rfl, by rw [HE.out]; rfl, Below.refl _ _⟩
      case round =>
        obtain ⟨p, db, hp, rfl, rfl, hD, hbl3⟩ := hrel
        have hW3 := hW2.trans (hbl3.mono hW2.size)
        have q0 := (hbl3.cell (p := ⟨bl, ol + j * 4, none⟩) HLB.out).trans r0
        by_cases hpm : p < m
        case neg =>
          rw [List.drop_eq_nil_of_le (by have := HL2.out; omega), endsF, Bool.or_false] at hD
          have q1 := (hbl3.cell (p := ⟨bl, ol + j * 4 + 1, none⟩) HLB.out).trans r1
          have q2 := (hbl3.cell (p := ⟨bl, ol + j * 4 + 2, none⟩) HLB.out).trans r2
          have q3 := (hbl3.cell (p := ⟨bl, ol + j * 4 + 3, none⟩) HLB.out).trans r3
          subst hD
          clear g0 g1 g2 d0 d1 d2 r0 r1 r2 r3
          cases rf
          case true =>
            have HK2 : Hid (foldV (log.drop (j + 1)) k z = V) := by show _ = _; have := HK.out; simpa using this
            go_wp2_with fail
            go_roundw
            case rel => exact ⟨j + 1, z, by omega, by go_num, rfl, HK2.out, hbl2.trans (hbl3.mono hbl2.size)⟩
            case measure => simp [intOf]; omega
          by_cases hnk : rn = (k : Int)
          case neg =>
            have HK2 : Hid (foldV (log.drop (j + 1)) k z = V) := by show _ = _; have := HK.out; simpa [hnk] using this
            have hnk2 : (rn == (k : Int)) = false := by simpa using hnk
            clear hnk
            go_wp2_with fail
            go_roundw
            case rel => exact ⟨j + 1, z, by omega, by go_num, rfl, HK2.out, hbl2.trans (hbl3.mono hbl2.size)⟩
            case measure => simp [intOf]; omega
          subst hnk
          cases db
          · have HK2 : Hid (foldV (log.drop (j + 1)) k z = V) := by show _ = _; have := HK.out; simpa using this
            go_wp2_with fail
            go_roundw
            case rel => exact ⟨j + 1, z, by omega, by go_num, rfl, HK2.out, hbl2.trans (hbl3.mono hbl2.size)⟩
            case measure => simp [intOf]; omega
          · have HK2 : Hid (foldV (log.drop (j + 1)) k rv = V) := by show _ = _; have := HK.out; simpa using this
            go_wp2_with fail
            go_roundw
            case rel => exact ⟨j + 1, rv, by omega, by go_num, rfl, HK2.out, hbl2.trans (hbl3.mono hbl2.size)⟩
            case measure => simp [intOf]; omega
        clear g0 g1 g2 d0 d1 d2 r0 r1 r2 r3
        cases db
        case true =>
          have HD : Hid (true = E) := by show _ = _; simpa using hD
          clear hD q0
          go_wp2_with fail
          refine wp_region_after (by kernel_rfl) (by kernel_rfl) ?_
          repeat (go_big_quiet_step (fail))
          refine wpQuiet_nil ?_
          intro w7 hb7
          go_wp2_with fail
          go_roundw
          case rel => exact ⟨p + 1, true, by omega, by go_num, rfl, by rw [← HD.out]; rfl, hbl3.trans (hb7.mono hbl3.size)⟩
          case measure => simp [intOf]; omega
        obtain ⟨bl', ol', s, hA', _, _, hsx, s0, s1, s2, s3⟩ := (hrl6.below hW3).atR hpm
        simp only [Option.some.injEq, Addr.mk.injEq, and_true] at hA'
        obtain ⟨rfl, rfl⟩ := hA'
        rw [drop_cons hsx, endsF, Bool.false_or] at hD
        obtain ⟨sw, sn, sv, sf⟩ := s
        simp only at hD s0 s1 s2 s3
        have e0 := aft s0
        have e3 := aft s3
        have e4 := aft q0
        clear hsx s0 s1 s2 s3 q0
        cases sf
        · have HD : Hid (endsF (log.drop (p + 1)) rw' = E) := by show _ = _; simpa using hD
          clear hD
          go_wp2_with fail
          refine wp_region_after (by kernel_rfl) (by kernel_rfl) ?_
          repeat (go_big_quiet_step (fail))
          refine wpQuiet_nil ?_
          intro w7 hb7
          go_wp2_with fail
          go_roundw
          case rel => exact ⟨p + 1, false, by omega, by go_num, rfl, by rw [HD.out]; rfl, hbl3.trans (hb7.mono hbl3.size)⟩
          case measure => simp [intOf]; omega
        by_cases hw : sw = rw'
        · subst hw
          have HD : Hid (true = E) := by show _ = _; simpa using hD
          clear hD
          go_wp2_with fail
          refine wp_region_after (by kernel_rfl) (by kernel_rfl) ?_
          repeat (go_big_quiet_step (fail))
          refine wpQuiet_nil ?_
          intro w7 hb7
          go_wp2_with fail
          go_roundw
          case rel => exact ⟨p + 1, true, by omega, by go_num, rfl, by rw [← HD.out]; rfl, hbl3.trans (hb7.mono hbl3.size)⟩
          case measure => simp [intOf]; omega
        · have HD : Hid (endsF (log.drop (p + 1)) rw' = E) := by show _ = _; simpa [hw] using hD
          have hw2 : (sw == rw') = false := by simpa using hw
          clear hD hw
          go_wp2_with fail
          refine wp_region_after (by kernel_rfl) (by kernel_rfl) ?_
          repeat (go_big_quiet_step (fail))
          refine wpQuiet_nil ?_
          intro w7 hb7
          go_wp2_with fail
          go_roundw
          case rel => exact ⟨p + 1, false, by omega, by go_num, rfl, by rw [HD.out]; rfl, hbl3.trans (hb7.mono hbl3.size)⟩
          case measure => simp [intOf]; omega
end Go.Proofs.Ytpklfhefhfkkhaa
