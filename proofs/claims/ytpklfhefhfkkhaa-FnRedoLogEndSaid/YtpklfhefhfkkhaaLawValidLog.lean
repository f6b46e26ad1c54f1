/- The walk of the law FnValidLog. -/
import Derived.Test.YtpklfhefhfkkhaaDrawLog
import Derived.Test.YtpklfhefhfkkhaaValidLogW
import Derived.Test.YtpklfhefhfkkhaaValidLogS
import Derived.Test.YtpklfhefhfkkhaaWords4
namespace Go.Proofs.Ytpklfhefhfkkhaa
open Go.RowKit

theorem VL_less {t : List Nd} {log : List Rc} (h : VL t log) (k : Nat) : VL t (log.take k ++ log.drop (k + 1)) := by
  refine ⟨h.1, ?_, fun i r hr => ?_⟩
  · have := h.2.1; simp; omega
  · have hm := List.mem_of_getElem? hr
    have hm' : r ∈ log := by
      rcases List.mem_append.1 hm with h1 | h1
      · exact List.mem_of_mem_take h1
      · exact List.mem_of_mem_drop h1
    obtain ⟨j, hj⟩ := List.mem_iff_getElem?.1 hm'
    exact h.2.2 j r hj
theorem VL_nil {t : List Nd} (h : VT t) : VL t [] := ⟨h, by simp, fun i r hr => by simp at hr⟩

theorem ValidLog_t (lo lo2 : Nat) (A A2 : Option Addr) (n c m c2 : Nat) (t : List Nd) (log : List Rc) (w : World) (hr : Rd cN 3 w lo A n t) (hc : n ≤ c) (hr2 : Rd cR 4 w lo2 A2 m log) (h : vl t log = true) :
    Calls Try.prog 11 #[.slice A n c, .slice A2 m c2] w fun e w' => e = .returned (.bool true) ∧ Below w.heap.size w w' := by rw [← h]; exact ValidLog_any lo lo2 A A2 n c m c2 t log w hr hc hr2

set_option maxHeartbeats 1000000 in
theorem lawValidLog (A : Option Addr) (n c : Nat) (zs : List Int) (w : World) (hn : n ≤ 1048576) (hr : Rd cB 1 w 0 A n zs) (hc : n ≤ c) (hz : ∀ (k : Nat) (z : Int), zs[k]? = some z → 0 ≤ z ∧ z ≤ 255) :
    Calls Try.prog 3 #[.slice A n c] w fun e w' => e = .returned (.bool true) ∧ Below w.heap.size w w' := by
  have hn' : (n : Int) ≤ 1048576 := by omega
  go_enter Try.func3, Try.ntmps3
  go_wp2_with fail
  refine (DrawValidLog_any A n c zs _ hr hc hz).mono ?_
  rintro e w1 ⟨A1, n1, c1, t, A2, m, c2, log, rfl, hc1, hrt, hn1, hzt, hc2, hrl, hm, hb1⟩
  have hml := hrl.len
  have HML := Lib.hid hml
  clear hml
  go_wp2_with fail
  refine (ValidLog_any _ _ A1 A2 n1 c1 m c2 t log _ hrt hc1 hrl).mono ?_
  rintro e w2 ⟨rfl, hb2⟩
  have hB2 := hb1.trans (hb2.mono hb1.size)
  have hrt2 := hrt.below hb2
  have hrl2 := hrl.below hb2
  go_wp2_with fail
  refine (ValidLogS_any _ _ A1 A2 n1 c1 m c2 t log _ hrt2 hc1 hzt hrl2).mono ?_
  rintro e w3 ⟨rfl, hb3⟩
  have hB3 := hB2.trans (hb3.mono hB2.size)
  have hrt3 := hrt2.below hb3
  have hrl3 := hrl2.below hb3
  clear hrt hrl hrt2 hrl2 hr hz
  by_cases hv : vl t log = true
  case neg =>
    have hv' : vl t log = false := by simpa using hv
    rw [hv']
    go_wp2_with fail
    refine (ValidLogS_any _ _ A1 A2 n1 c1 m c2 t log _ hrt3 hc1 hzt hrl3).mono ?_
    rintro e w4 ⟨rfl, hb4⟩
    rw [hv']
    go_wp2_with fail
    go_ret
    exact ⟨rfl, hB3.trans (hb4.mono hB3.size)⟩
  rw [hv]
  rcases Nat.eq_zero_or_pos m with rfl | hm0
  · go_wp2_with fail
    refine (ValidLogS_any _ _ A1 A2 n1 c1 0 c2 t log _ hrt3 hc1 hzt hrl3).mono ?_
    rintro e w4 ⟨rfl, hb4⟩
    rw [hv]
    go_wp2_with fail
    go_ret
    exact ⟨rfl, hB3.trans (hb4.mono hB3.size)⟩
  have hVL := VL_of hv
  have HV := Lib.hid hv
  have hm1 : ((m : Int) == 0) = false := by simp; omega
  have hm2 : (1 : Int) ≤ (m : Int) := by omega
  clear hv
  obtain ⟨b, o, rfl, _, _, _⟩ := hrl3.2.2 (by omega)
  go_wp2_with fail
  have e1 : (n : Int) % (m : Int) = ((n % m : Nat) : Int) := by omega
  rw [e1]
  have hkm : n % m < m := Nat.mod_lt _ hm0
  generalize n % m = k at hkm
  clear e1
  have HVk := Lib.hid (vl_true (VL_less hVL k))
  have HV0 := Lib.hid (vl_true (VL_nil hVL.1))
  have hkc : (k : Int) + 1 ≤ (c2 : Int) := by omega
  have hkm1 : (k : Int) + 1 ≤ (m : Int) := by omega
  have hmc : (m : Int) ≤ (c2 : Int) := by omega
  have hk1 : k ≤ c2 := by omega
  have hk2 : k + 1 ≤ m := by omega
  have hk3 : (k : Int) ≤ (c2 : Int) := by omega
  have hk4 : (k : Int) ≤ (m : Int) := by omega
  have hd1 := hrl3.drop (k := k + 1) (by omega) hc2
  by_cases hcap : c2 = k + 1
  case neg =>
    rw [if_neg hcap] at hd1
    have hd2 : Rd cR 4 w3 w.heap.size (some ⟨b, o + (k + 1) * 4, none⟩) (m - (k + 1)) (log.drop (k + 1)) := by simpa [Addr.add_lit] using hd1
    clear hd1 hVL
    have ho0 : Own cR 4 30 (w3.alloc (.cells #[] 30)).drew w3.heap.size (.slice (some ⟨w3.heap.size, 0, none⟩) 0 0) ([] : List Rc) := (Own.empty w3 elR.len).drew
    have hw1 : IntKind.i64.wrap ((k : Int) + 1) = (k : Int) + 1 := IntWalk.i64_in _ (by omega)
    have hw2 : 0 ≤ (k : Int) + 1 := by omega
    have hw3 : ((k : Int) + 1).toNat = k + 1 := by omega
    have hrA := ((hrl3.take (k := k) (by omega)).alloc (.cells #[] 30)).drew
    have hrB := (hd2.alloc (.cells #[] 30)).drew
    have hsz : (w3.alloc (.cells #[] 30)).drew.heap.size = w3.heap.size + 1 := by simp
    go_region_law ((first
      | (refine step_append_rd elR _ rfl (.tmp 43) (.tmp 46) rfl rfl ho0 rfl hrA (by simp; omega) (by simp) ?_; intro v4 w4 ho4 hg4 _; have hb4 := below_own (((Below.refl w3.heap.size w3).alloc (Nat.le_refl _) _).drew) ho0 hg4 (Nat.le_refl _) (by simp))
      | (refine step_append_rd elR _ rfl (.tmp 47) (.tmp 51) rfl rfl ho4 rfl (hd2.below hb4) (by simp; omega) hb4.size ?_; intro v5 w5 ho5 hg5 _; have hb5 := below_own hb4 ho4 hg5 (Nat.le_refl _) hb4.size; simp only [List.nil_append] at ho5; obtain ⟨A5, m5, c5, rfl, hc5, hr5⟩ := ho5.rdn elR.len (by have := HML.out; simp; omega); clear ho5 ho4 hg4 hg5)
      | (go_simp; go_at_call 11; with_reducible refine (ValidLog_t _ _ A1 A5 n1 c1 m5 c5 t _ _ (hrt3.below hb5) hc1 hr5 HVk.out).mono ?_; rintro e w6 ⟨rfl, hb6⟩; have hb7 := hb5.trans (hb6.mono hb5.size))
      | (go_simp; go_at_call 11; refine (ValidLog_t _ 0 A1 none n1 c1 0 0 t [] _ (hrt3.below hb7) hc1 Rd.nil HV0.out).mono ?_; rintro e w8 ⟨rfl, hb8⟩)))
    go_wp2_with fail
    go_ret
    exact ⟨rfl, hB3.trans ((hb7.trans (hb8.mono hb7.size)).mono hB3.size)⟩
  · subst hcap
    obtain rfl : m = k + 1 := by omega
    rw [if_pos rfl] at hd1
    simp only [Nat.sub_self] at hd1
    have hd2 := hd1
    have hx1 : (k : Int) ≤ (k : Int) + 1 := by omega
    clear hd1 hVL
    have ho0 : Own cR 4 30 (w3.alloc (.cells #[] 30)).drew w3.heap.size (.slice (some ⟨w3.heap.size, 0, none⟩) 0 0) ([] : List Rc) := (Own.empty w3 elR.len).drew
    have hw1 : IntKind.i64.wrap ((k : Int) + 1) = (k : Int) + 1 := IntWalk.i64_in _ (by omega)
    have hw2 : 0 ≤ (k : Int) + 1 := by omega
    have hw3 : ((k : Int) + 1).toNat = k + 1 := by omega
    have hrA := ((hrl3.take (k := k) (by omega)).alloc (.cells #[] 30)).drew
    have hrB := (hd2.alloc (.cells #[] 30)).drew
    have hsz : (w3.alloc (.cells #[] 30)).drew.heap.size = w3.heap.size + 1 := by simp
    go_region_law ((first
      | (refine step_append_rd elR _ rfl (.tmp 43) (.tmp 46) rfl rfl ho0 rfl hrA (by simp; omega) (by simp) ?_; intro v4 w4 ho4 hg4 _; have hb4 := below_own (((Below.refl w3.heap.size w3).alloc (Nat.le_refl _) _).drew) ho0 hg4 (Nat.le_refl _) (by simp))
      | (refine step_append_rd elR _ rfl (.tmp 47) (.tmp 51) rfl rfl ho4 rfl (hd2.below hb4) (by simp; omega) hb4.size ?_; intro v5 w5 ho5 hg5 _; have hb5 := below_own hb4 ho4 hg5 (Nat.le_refl _) hb4.size; simp only [List.nil_append] at ho5; obtain ⟨A5, m5, c5, rfl, hc5, hr5⟩ := ho5.rdn elR.len (by have := HML.out; simp; omega); clear ho5 ho4 hg4 hg5)
      | (go_simp; go_at_call 11; with_reducible refine (ValidLog_t _ _ A1 A5 n1 c1 m5 c5 t _ _ (hrt3.below hb5) hc1 hr5 HVk.out).mono ?_; rintro e w6 ⟨rfl, hb6⟩; have hb7 := hb5.trans (hb6.mono hb5.size))
      | (go_simp; go_at_call 11; refine (ValidLog_t _ 0 A1 none n1 c1 0 0 t [] _ (hrt3.below hb7) hc1 Rd.nil HV0.out).mono ?_; rintro e w8 ⟨rfl, hb8⟩)))
    go_wp2_with fail
    go_ret
    exact ⟨rfl, hB3.trans ((hb7.trans (hb8.mono hb7.size)).mono hB3.size)⟩
end Go.Proofs.Ytpklfhefhfkkhaa
