/- The walk of the law FnRedoLogTwice. -/
import Derived.Test.YtpklfhefhfkkhaaRedoS
import Derived.Test.YtpklfhefhfkkhaaRedoP2
import Derived.Test.YtpklfhefhfkkhaaEqNodes
namespace Go.Proofs.Ytpklfhefhfkkhaa
open Go.RowKit

theorem redo_len {t : List Nd} {log : List Rc} (h : vl t log = true) : (redo t log).length = t.length := by rw [redo_yes h, redoL_len]

set_option maxHeartbeats 1000000 in
theorem lawRedoTwice (A : Option Addr) (n c : Nat) (zs : List Int) (w : World) (hn : n ≤ 1048576) (hr : Rd cB 1 w 0 A n zs) (hc : n ≤ c) (hz : ∀ (k : Nat) (z : Int), zs[k]? = some z → 0 ≤ z ∧ z ≤ 255) :
    Calls Try.prog 8 #[.slice A n c] w fun e w' => e = .returned (.bool true) ∧ Below w.heap.size w w' := by
  have hn' : (n : Int) ≤ 1048576 := by omega
  go_enter Try.func8, Try.ntmps8
  go_wp2_with fail
  refine (DrawRedoLog_any A n c zs _ hr hc hz).mono ?_
  rintro e w1 ⟨A1, n1, c1, t, A2, m, c2, log, rfl, hc1, hrt, hn1, hzt, hc2, hrl, hm, hb1⟩
  go_wp2_with fail
  refine (RedoLog_any _ _ A1 A2 n1 c1 m c2 t log _ hrt hc1 hrl hc2).mono ?_
  rintro e w2 ⟨v2, rfl, ho2, hb2⟩
  have hB2 := hb1.trans (hb2.mono hb1.size)
  obtain ⟨A3, n3, c3, rfl, hc3, hr3⟩ := ho2.rdn elN.len (by unfold redo; split; rw [redoL_len, hrt.len]; omega; simp)
  clear ho2
  go_wp2_with fail
  refine (RedoLogS_any _ _ A1 A2 n1 c1 m c2 t log _ (hrt.below hb2) hc1 hzt (hrl.below hb2)).mono ?_
  rintro e w4 ⟨v4, rfl, ho4, hb4⟩
  have hB4 := hB2.trans (hb4.mono hB2.size)
  obtain ⟨A5, n5, c5, rfl, hc5, hr5⟩ := ho4.rdn elN.len (by unfold redo; split; rw [redoL_len, hrt.len]; omega; simp)
  clear ho4
  go_wp2_with fail
  refine (equalNodes_t _ _ A3 A5 n3 c3 n5 c5 _ _ (hr3.below hb4) hr5).mono ?_
  rintro e w6 ⟨rfl, hb6⟩
  have hB6 := hB4.trans (hb6.mono hB4.size)
  have hrt6 := ((hrt.below hb2).below hb4).below hb6
  have hrl6 := ((hrl.below hb2).below hb4).below hb6
  have hr36 := (hr3.below hb4).below hb6
  have HL3 := Lib.hid hr3.len
  have HL1 := Lib.hid hrt.len
  clear hr5 hr3 hrt hrl hr hz
  by_cases hv : vl t log = true
  case neg =>
    have hv' : vl t log = false := by simpa using hv
    have h3 : n3 = 0 := by
      have := HL3.out
      rw [redo_no hv'] at this
      simpa using this.symm
    subst h3
    go_wp2_with fail
    refine (RedoLogS_any _ _ A1 A2 n1 c1 m c2 t log _ hrt6 hc1 hzt hrl6).mono ?_
    rintro e w7 ⟨v7, rfl, ho7, hb7⟩
    obtain ⟨A8, n8, c8, rfl, hc8, hr8⟩ := ho7.rdn elN.len (by unfold redo; split; rw [redoL_len, HL1.out]; omega; simp)
    clear ho7
    go_wp2_with fail
    refine (equalNodes_t _ _ A3 A8 0 c3 n8 c8 _ _ (hr36.below hb7) hr8).mono ?_
    rintro e w9 ⟨rfl, hb9⟩
    go_wp2_with fail
    go_ret
    exact ⟨rfl, hB6.trans ((hb7.trans (hb9.mono hb7.size)).mono hB6.size)⟩
  have hVL := VL_of hv
  have h31 : n3 = n1 := by have := HL3.out; rw [redo_len hv, HL1.out] at this; omega
  have hn1' : 1 ≤ n1 := by have := hVL.1.1; have := HL1.out; omega
  have h3 : ((n3 : Int) == 0) = false := by simp; omega
  have e1 : redo (redo t log) log = redo t log := by
    rw [redo_yes hv, redo_yes (vl_true (VL_redo hVL)), redoL_twice]
  have e2 : vt (redo t log) = true := by rw [redo_yes hv]; exact vt_true (VT_redoL hVL)
  have e3 : redo t [] = t := by rw [redo_yes (vl_true (VL_nil hVL.1))]; rfl
  have E1 := Lib.hid e1
  have E2 := Lib.hid e2
  have E3 := Lib.hid e3
  clear e1 e2 e3 hVL hv h31
  go_wp2_with fail
  refine (RedoLog_any _ _ A3 A2 n3 c3 m c2 (redo t log) log _ hr36 hc3 hrl6 hc2).mono ?_
  rintro e w7 ⟨v7, rfl, ho7, hb7⟩
  rw [E1.out] at ho7
  obtain ⟨A8, n8, c8, rfl, hc8, hr8⟩ := ho7.rdn elN.len (by rw [HL3.out]; have := hr36.le; omega)
  clear ho7
  go_wp2_with fail
  refine (equalNodes_t _ _ A8 A3 n8 c8 n3 c3 _ _ hr8 (hr36.below hb7)).mono ?_
  rintro e w9 ⟨rfl, hb9⟩
  have hB9 := hB6.trans ((hb7.trans (hb9.mono hb7.size)).mono hB6.size)
  have hr39 := (hr36.below hb7).below hb9
  have hrt9 := (hrt6.below hb7).below hb9
  clear hr8 hr36 hrt6 hrl6
  go_wp2_with fail
  refine (ValidTree_any _ A3 n3 c3 _ _ hr39 hc3).mono ?_
  rintro e w10 ⟨rfl, hb10⟩
  rw [E2.out]
  have hB10 := hB9.trans (hb10.mono hB9.size)
  have hrt10 := hrt9.below hb10
  go_wp2_with fail
  refine (RedoLog_any _ 0 A1 none n1 c1 0 0 t [] _ hrt10 hc1 Rd.nil (Nat.le_refl _)).mono ?_
  rintro e w11 ⟨v11, rfl, ho11, hb11⟩
  rw [E3.out] at ho11
  obtain ⟨A12, n12, c12, rfl, hc12, hr12⟩ := ho11.rdn elN.len (by rw [HL1.out]; omega)
  clear ho11
  go_wp2_with fail
  refine (equalNodes_t _ _ A12 A1 n12 c12 n1 c1 _ _ hr12 (hrt10.below hb11)).mono ?_
  rintro e w13 ⟨rfl, hb13⟩
  go_wp2_with fail
  go_ret
  exact ⟨rfl, hB10.trans ((hb11.trans (hb13.mono hb11.size)).mono hB10.size)⟩
end Go.Proofs.Ytpklfhefhfkkhaa
