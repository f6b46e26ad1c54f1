/- The walk of the law that dropped paths lead nowhere. -/
import Derived.Test.YtmnlelpfbnagpaaDropS
import Derived.Test.YtmnlelpfbnagpaaWalkN
import Derived.Test.YtmnlelpfbnagpaaLawPath
import Derived.Test.YtmnlelpfbnagpaaEqNodes
namespace Go.Proofs.Ytmnlelpfbnagpaa
open Go.RowKit

set_option maxRecDepth 100000 in
set_option maxHeartbeats 2000000 in
theorem lawDropNodeResolve (A : Option Addr) (n c : Nat) (zs : List Int) (w : World) (hn : n ≤ 1048576) (hr : Rd cB 1 w 0 A n zs) (hc : n ≤ c) (hz : ∀ (k : Nat) (z : Int), zs[k]? = some z → 0 ≤ z ∧ z ≤ 255) :
    Calls Try.prog 7 #[.slice A n c] w fun e w' => e = .returned (.bool true) ∧ Below w.heap.size w w' := by
  have hn' : (n : Int) ≤ 1048576 := by omega
  go_enter Try.func7, Try.ntmps7
  go_wp2_with fail
  refine (DrawDropNode_any A n c zs _ hr hc hz).mono ?_
  rintro e w1 ⟨A1, n1, c1, t, a, rfl, hc1, hrt, hn1, hzt, hb1⟩
  have hs1 := hb1.size
  have HLT : Hid (t.length = n1) := hrt.len
  clear hr hz
  by_cases hd : IsNd t a ∧ 0 < a
  case neg =>
    have HI := Lib.hid (DropNode_n _ A1 n1 c1 t a w1 hrt hc1 hd)
    have HS := Lib.hid (fun w' (hb' : Below w1.heap.size w1 w') => DropNodeS_n _ A1 n1 c1 t a w' (hrt.below hb') hc1 hzt hd)
    have HQ := Lib.hid (fun w' => equalNodes_t 0 0 none none 0 0 0 0 [] w' Rd.nil Rd.nil)
    clear hd
    go_wp2_with fail
    refine HI.out.mono ?_
    rintro e w2 ⟨rfl, hb2⟩
    go_wp2_with fail
    refine (HS.out _ hb2).mono ?_
    rintro e w3 ⟨rfl, hb3⟩
    have hb13 := hb2.trans (hb3.mono hb2.size)
    go_wp2_with fail
    refine (HQ.out _).mono ?_
    rintro e w4 ⟨rfl, hb4⟩
    have hb14 := hb13.trans (hb4.mono hb13.size)
    go_wp2_with fail
    refine (HQ.out _).mono ?_
    rintro e w5 ⟨rfl, hb5⟩
    have HE := Lib.hid (hb1.trans ((hb14.trans (hb5.mono hb14.size)).mono hs1))
    go_wp2_with fail
    go_ret
    exact ⟨rfl, HE.out⟩
  obtain ⟨hd, ha⟩ := hd
  obtain ⟨k0, rfl⟩ := Int.eq_ofNat_of_zero_le hd.2.1
  have HD := Lib.hid hd
  have HA := Lib.hid ha
  have HI := Lib.hid (DropNode_t _ A1 n1 c1 t k0 w1 hrt hc1 hd ha)
  have HS := Lib.hid (fun w' (hb' : Below w1.heap.size w1 w') => DropNodeS_t _ A1 n1 c1 t k0 w' (hrt.below hb') hc1 hzt hd ha)
  have HW := Lib.hid (fun w' (hb' : Below w1.heap.size w1 w') => WalkNodes_t _ A1 n1 c1 t k0 w' (hrt.below hb') hc1 hd)
  have HCT := Lib.hid (dr_count hd.1 hd.2.1 hd.2.2)
  clear hd ha
  go_wp2_with fail
  refine HI.out.mono ?_
  rintro e w2 ⟨v2, rfl, ho2, hb2⟩
  obtain ⟨A2, m, c2, rfl, hc2, hr2⟩ := ho2.rdn elN.len (by have := HCT.out; have := HLT.out; omega)
  clear ho2
  go_wp2_with fail
  refine (HS.out _ hb2).mono ?_
  rintro e w3 ⟨v3, rfl, ho3, hb3⟩
  obtain ⟨A3, m3, c3, rfl, hc3, hr3⟩ := ho3.rdn elN.len (by have := HCT.out; have := HLT.out; omega)
  have hb13 := hb2.trans (hb3.mono hb2.size)
  have HQ := Lib.hid (equalNodes_t _ _ A2 A3 m c2 m3 c3 _ _ (hr2.below hb3) hr3)
  clear ho3
  go_wp2_with fail
  refine HQ.out.mono ?_
  rintro e w4 ⟨rfl, hb4⟩
  have hb14 := hb13.trans (hb4.mono hb13.size)
  have hr24 := (hr2.below hb3).below hb4
  go_wp2_with fail
  refine (HW.out _ hb14).mono ?_
  rintro e w5 ⟨v5, rfl, ho5, hb5⟩
  obtain ⟨A5, m5, c5, rfl, hc5, hr5⟩ := ho5.rdn elI.len (by have := HCT.out; have := HLT.out; omega)
  have HM5 : Hid ((wkI t (k0 : Int)).length = m5) := hr5.len
  have hm5 : 1 ≤ m5 := by
    have h := HM5.out
    rw [wkI_step HD.out.1 HD.out.2.1 HD.out.2.2] at h
    simp at h; omega
  have hm513 : m5 ≤ 13 := by have := HCT.out; have := HLT.out; have := HM5.out; omega
  have hb15 := hb14.trans (hb5.mono hb14.size)
  have hb5w := hb1.trans (hb15.mono hs1)
  have hs5 := hb5w.size
  have hrt5 := hrt.below hb15
  have hr25 := hr24.below hb5
  have HP := Lib.hid (fun (z : Int) w' (hb' : Below w5.heap.size w5 w') => PathText_any _ A1 n1 c1 t z w' (hrt5.below hb') hc1)
  have HR := Lib.hid (fun (z : Int) w' (hz : z ∈ wkI t (k0 : Int)) (hb' : Below w5.heap.size w5 w') => by
    obtain ⟨i, e, hi, _⟩ := (wk_mem HD.out.1 HD.out.2.1 HD.out.2.2).1 hz
    have hlen : (ptF t z).length ≤ 25 := by
      have hd : IsNd t z := ⟨HD.out.1, by omega, by omega⟩
      rw [ptF_yes hd]
      exact ptL_len hd
    have := ResolvePath_any _ A2 m c2 (drF t (k0 : Int)) ⟨(ptF t z).toArray⟩ w' (hr25.below hb') hc2 (by rw [ba_size]; omega)
    rw [show (⟨(ptF t z).toArray⟩ : ByteArray).data.toList = ptF t z from rfl, dr_gone HD.out.1 HA.out HD.out.2.2 hz] at this
    exact this)
  clear ho5 hrt hr2 hr3 HQ hrt5 hr24 hr25
  go_wp2_with fail
  go_loopw [10] (fun i wr => ∃ k : Nat, k ≤ m5 ∧ i = .int .i64 k ∧ Below w5.heap.size w5 wr) (fun i _ => m5 - (intOf i).toNat)
  case atStart => exact ⟨0, Nat.zero_le _, rfl, Below.refl _ _⟩
  case round =>
    rename World => W1
    obtain ⟨k, hk, rfl, hbl⟩ := hrel
    have hsl := hbl.size
    by_cases hlt : k < m5
    · obtain ⟨b, o, z, rfl, _, _, hz, g0⟩ := (hr5.below hbl).atI hlt
      have hzm := List.mem_of_getElem? hz
      obtain ⟨T, hT⟩ : ∃ T : ByteArray, T = ⟨(ptF t z).toArray⟩ := ⟨_, rfl⟩
      have H1 := Lib.hid (HP.out z W1 hbl)
      have H2 := Lib.hid (fun w' hb' => HR.out z w' hzm hb')
      rw [← hT] at H1 H2
      clear hT hz hzm
      go_wp2_with fail
      refine H1.out.mono ?_
      rintro e w6 ⟨rfl, hb6⟩
      have hbl6 := hbl.trans (hb6.mono hsl)
      go_wp2_with fail
      refine (H2.out _ hbl6).mono ?_
      rintro e w7 ⟨rfl, hb7⟩
      have hbl7 := hbl6.trans (hb7.mono hbl6.size)
      go_wp2_with fail
      go_roundw
      case rel => exact ⟨k + 1, by omega, by go_num, hbl7⟩
      case measure => simp [intOf]; omega
    · have HE := Lib.hid (hb5w.trans (hbl.mono hs5))
      have hm50 : (0 : Int) < (m5 : Int) := by omega
      clear HP HR
      go_wp2_with fail
      go_ret
      exact ⟨ret_bool (by simp; omega), HE.out⟩
end Go.Proofs.Ytmnlelpfbnagpaa
