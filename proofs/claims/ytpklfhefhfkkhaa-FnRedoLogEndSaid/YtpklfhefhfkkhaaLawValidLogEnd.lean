/- The walk of the law FnValidLogEnd. -/
import Derived.Test.YtpklfhefhfkkhaaLawValidLog
import Derived.Test.YtpklfhefhfkkhaaWords5
namespace Go.Proofs.Ytpklfhefhfkkhaa
open Go.RowKit

theorem VL_end {t : List Nd} {log : List Rc} (h : VL t log) (hl : log.length < 16) (who : Int) (h1 : 0 ≤ who) (h2 : who ≤ 3) : VL t (log ++ [⟨who, 0, 0, true⟩]) := by
  refine ⟨h.1, by simp; omega, fun i r hr => ?_⟩
  rcases List.mem_append.1 (List.mem_of_getElem? hr) with hm | hm
  · obtain ⟨j, hj⟩ := List.mem_iff_getElem?.1 hm
    exact h.2.2 j r hj
  · simp only [List.mem_cons, List.not_mem_nil, or_false] at hm
    subst hm
    have := h.1.1
    exact ⟨h1, h2, Int.le_refl _, by show (0 : Int) ≤ _; omega, by show -1000 ≤ (0 : Int); omega, by show (0 : Int) ≤ 1000; omega, fun _ => ⟨rfl, rfl⟩⟩
theorem nVL_end {t : List Nd} {log : List Rc} : ¬ VL t (log ++ [⟨2, 0, 1, true⟩]) := by
  intro h
  have := h.2.2 log.length ⟨2, 0, 1, true⟩ (by simp)
  have := (this.2.2.2.2.2.2 rfl).2
  simp at this

theorem ValidLog_f (lo lo2 : Nat) (A A2 : Option Addr) (n c m c2 : Nat) (t : List Nd) (log : List Rc) (w : World) (hr : Rd cN 3 w lo A n t) (hc : n ≤ c) (hr2 : Rd cR 4 w lo2 A2 m log) (h : vl t log = false) :
    Calls Try.prog 11 #[.slice A n c, .slice A2 m c2] w fun e w' => e = .returned (.bool false) ∧ Below w.heap.size w w' := by rw [← h]; exact ValidLog_any lo lo2 A A2 n c m c2 t log w hr hc hr2

set_option maxHeartbeats 1000000 in
theorem lawValidLogEnd (A : Option Addr) (n c : Nat) (zs : List Int) (w : World) (hn : n ≤ 1048576) (hr : Rd cB 1 w 0 A n zs) (hc : n ≤ c) (hz : ∀ (k : Nat) (z : Int), zs[k]? = some z → 0 ≤ z ∧ z ≤ 255) :
    Calls Try.prog 4 #[.slice A n c] w fun e w' => e = .returned (.bool true) ∧ Below w.heap.size w w' := by
  have hn' : (n : Int) ≤ 1048576 := by omega
  go_enter Try.func4, Try.ntmps4
  go_wp2_with fail
  refine (DrawValidLog_any A n c zs _ hr hc hz).mono ?_
  rintro e w1 ⟨A1, n1, c1, t, A2, m, c2, log, rfl, hc1, hrt, hn1, hzt, hc2, hrl, hm, hb1⟩
  have hml := hrl.len
  have HML := Lib.hid hml
  clear hml
  go_wp2_with fail
  refine (ValidLog_any _ _ A1 A2 n1 c1 m c2 t log _ hrt hc1 hrl).mono ?_
  rintro e w2 ⟨rfl, hb2⟩
  have hB2 := hb1.trans (hb2.mono hb1.size)
  have hrt2 := hrt.below hb2
  have hrl2 := hrl.below hb2
  go_wp2_with fail
  refine (ValidLogS_any _ _ A1 A2 n1 c1 m c2 t log _ hrt2 hc1 hzt hrl2).mono ?_
  rintro e w3 ⟨rfl, hb3⟩
  have hB3 := hB2.trans (hb3.mono hB2.size)
  have hrt3 := hrt2.below hb3
  have hrl3 := hrl2.below hb3
  clear hrt hrl hrt2 hrl2 hr hz
  by_cases hv : vl t log = true
  case neg =>
    have hv' : vl t log = false := by simpa using hv
    rw [hv']
    go_wp2_with fail
    refine (ValidLogS_any _ _ A1 A2 n1 c1 m c2 t log _ hrt3 hc1 hzt hrl3).mono ?_
    rintro e w4 ⟨rfl, hb4⟩
    rw [hv']
    go_wp2_with fail
    go_ret
    exact ⟨rfl, hB3.trans (hb4.mono hB3.size)⟩
  rw [hv]
  by_cases hm0 : m = 16
  · have hmi : (m : Int) = 16 := by omega
    have HM : Hid (m = 16) := hm0
    clear hm0
    go_wp2_with fail
    refine (ValidLogS_any _ _ A1 A2 n1 c1 m c2 t log _ hrt3 hc1 hzt hrl3).mono ?_
    rintro e w4 ⟨rfl, hb4⟩
    rw [hv]
    go_wp2_with fail
    go_ret
    exact ⟨rfl, hB3.trans (hb4.mono hB3.size)⟩
  have hVL := VL_of hv
  have hm16 : log.length < 16 := by have := hVL.2.1; have := HML.out; omega
  have HE := Lib.hid (vl_true (VL_end hVL hm16 2 (by omega) (by omega)))
  have HF := Lib.hid (vl_false (nVL_end (t := t) (log := log)))
  have hm1 : ((m : Int) == 16) = false := by simp; omega
  have hs3 := hB3.size
  clear hv hVL hm0
  go_wp2_with (first
    | (at_builtin; refine wpList_append_rd elR _ rfl (.tmp 37) (.tmp 38) rfl rfl (Own.empty w3 elR.len) rfl (hrl3.alloc _) (by simp; omega) (by simp) ?_; intro v4 w4 ho4 hg4 _; have hb4 := below_own ((Below.refl w3.heap.size w3).alloc (Nat.le_refl _) _) (Own.empty (e := 30) w3 elR.len) hg4 (Nat.le_refl _) (by simp))
    | (at_builtin; refine wpList_append_rd elR _ rfl (.tmp 39) (.tmp 41) rfl rfl (ho4.alloc _) rfl (Rd_one w4 _ _ ⟨2, 0, 0, true⟩ rfl) (by simp; omega) (by have := hb4.size; simp; omega) ?_; intro v5 w5 ho5 hg5 _; have hb5 := below_own (hb4.alloc hb4.size _) (ho4.alloc _) hg5 (Nat.le_refl _) (by have := hb4.size; simp; omega)))
  simp only [List.nil_append] at ho5
  obtain ⟨A5, m5, c5, rfl, hc5, hr5⟩ := ho5.rdn elR.len (by simp; omega)
  clear ho4 hg4 hg5 ho5
  refine (ValidLog_t _ _ A1 A5 n1 c1 m5 c5 t _ _ (hrt3.below hb5) hc1 hr5 HE.out).mono ?_
  rintro e w6 ⟨rfl, hb6⟩
  have hb7 := hb5.trans (hb6.mono hb5.size)
  have hs6 := hb7.size
  clear hr5 hc5
  go_wp2_with (first
    | (at_builtin; refine wpList_append_rdg elR _ rfl (.tmp 46) (.tmp 47) rfl rfl (Own.empty w6 elR.len) rfl ((hrl3.below hb7).alloc _) (by simp; omega) (by simp) ?_; intro v4 w7 ho4 hg4 _; have hb8 := below_own ((Below.refl w6.heap.size w6).alloc (Nat.le_refl _) _) (Own.empty (e := 30) w6 elR.len) hg4 (Nat.le_refl _) (by simp))
    | (at_builtin; refine wpList_append_rdg elR _ rfl (.tmp 48) (.tmp 50) rfl rfl (ho4.alloc _) rfl (Rd_one w7 _ _ ⟨2, 0, 1, true⟩ rfl) (by simp; omega) (by have := hb8.size; simp; omega) ?_; intro v5 w8 ho5 hg5 _; have hb9 := below_own (hb8.alloc hb8.size _) (ho4.alloc _) hg5 (Nat.le_refl _) (by have := hb8.size; simp; omega)))
  simp only [List.nil_append] at ho5
  obtain ⟨A9, m9, c9, rfl, hc9, hr9⟩ := ho5.rdn elR.len (by simp; omega)
  have hb10 := hb7.trans (hb9.mono hs6)
  clear ho4 hg4 hg5 ho5
  refine (ValidLog_f _ _ A1 A9 n1 c1 m9 c9 t _ _ (hrt3.below hb10) hc1 hr9 HF.out).mono ?_
  rintro e w11 ⟨rfl, hb11⟩
  go_wp2_with fail
  go_ret
  exact ⟨rfl, hB3.trans ((hb10.trans (hb11.mono hb10.size)).mono hB3.size)⟩
end Go.Proofs.Ytpklfhefhfkkhaa
