/- The walks of the laws on walks by names. -/
import Derived.Test.YtmnlelpfbnagpaaWalkN2
import Derived.Test.YtmnlelpfbnagpaaPlaceW
import Derived.Test.YtmnlelpfbnagpaaEqInts
namespace Go.Proofs.Ytmnlelpfbnagpaa
open Go.RowKit

set_option maxRecDepth 100000 in
set_option maxHeartbeats 2000000 in
theorem lawWalkNodes (A : Option Addr) (n c : Nat) (zs : List Int) (w : World) (hn : n ≤ 1048576) (hr : Rd cB 1 w 0 A n zs) (hc : n ≤ c) (hz : ∀ (k : Nat) (z : Int), zs[k]? = some z → 0 ≤ z ∧ z ≤ 255) :
    Calls Try.prog 11 #[.slice A n c] w fun e w' => e = .returned (.bool true) ∧ Below w.heap.size w w' := by
  have hn' : (n : Int) ≤ 1048576 := by omega
  go_enter Try.func11, Try.ntmps11
  go_wp2_with fail
  refine (DrawWalkNodes_any A n c zs _ hr hc hz).mono ?_
  rintro e w1 ⟨A1, n1, c1, t, a, rfl, hc1, hrt, hn1, hzt, hb1⟩
  have hs1 := hb1.size
  have HLT : Hid (t.length = n1) := hrt.len
  clear hr hz
  by_cases hd : IsNd t a
  case neg =>
    have HI := Lib.hid (WalkNodes_f _ A1 n1 c1 t a w1 hrt hc1 hd)
    have HS := Lib.hid (fun w' (hb' : Below w1.heap.size w1 w') => WalkNodesS_f _ A1 n1 c1 t a w' (hrt.below hb') hc1 hzt hd)
    have HQ := Lib.hid (fun w' => equalInts_t 0 0 none none 0 0 0 0 [] w' Rd.nil Rd.nil)
    clear hd
    go_wp2_with fail
    refine HI.out.mono ?_
    rintro e w2 ⟨rfl, hb2⟩
    go_wp2_with fail
    refine (HS.out _ hb2).mono ?_
    rintro e w3 ⟨rfl, hb3⟩
    have hb13 := hb2.trans (hb3.mono hb2.size)
    go_wp2_with fail
    refine (HQ.out _).mono ?_
    rintro e w4 ⟨rfl, hb4⟩
    have hb14 := hb13.trans (hb4.mono hb13.size)
    go_wp2_with fail
    refine (HS.out _ hb14).mono ?_
    rintro e w5 ⟨rfl, hb5⟩
    have hb15 := hb14.trans (hb5.mono hb14.size)
    go_wp2_with fail
    refine (HQ.out _).mono ?_
    rintro e w6 ⟨rfl, hb6⟩
    have HE := Lib.hid (hb1.trans ((hb15.trans (hb6.mono hb15.size)).mono hs1))
    go_wp2_with fail
    go_ret
    exact ⟨rfl, HE.out⟩
  obtain ⟨k0, rfl⟩ := Int.eq_ofNat_of_zero_le hd.2.1
  have HD := Lib.hid hd
  have HI := Lib.hid (WalkNodes_t _ A1 n1 c1 t k0 w1 hrt hc1 hd)
  have HS := Lib.hid (fun w' (hb' : Below w1.heap.size w1 w') => WalkNodesS_t _ A1 n1 c1 t k0 w' (hrt.below hb') hc1 hzt hd)
  have hle := wk_le hd.1 hd.2.1 hd.2.2
  clear hd
  go_wp2_with fail
  refine HI.out.mono ?_
  rintro e w2 ⟨v2, rfl, ho2, hb2⟩
  obtain ⟨A2, m, c2, rfl, hc2, hr2⟩ := ho2.rdn elI.len (by have := HLT.out; omega)
  have HM : Hid ((wkI t (k0 : Int)).length = m) := hr2.len
  have hm1 : 1 ≤ m := by
    have h := HM.out
    rw [wkI_step HD.out.1 HD.out.2.1 HD.out.2.2] at h
    simp at h; omega
  have hm13 : m ≤ 13 := by have := HM.out; have := HLT.out; omega
  have hmz : ((m : Int) == 0) = false := by simp; omega
  clear ho2 hle
  go_wp2_with fail
  refine (HS.out _ hb2).mono ?_
  rintro e w3 ⟨v3, rfl, ho3, hb3⟩
  obtain ⟨A3, m3, c3, rfl, hc3, hr3⟩ := ho3.rdn elI.len (by have := HM.out; omega)
  have hb13 := hb2.trans (hb3.mono hb2.size)
  have HQ := Lib.hid (equalInts_t _ _ A2 A3 m c2 m3 c3 _ _ (hr2.below hb3) hr3)
  clear ho3
  go_wp2_with fail
  refine HQ.out.mono ?_
  rintro e w4 ⟨rfl, hb4⟩
  have hb14 := hb13.trans (hb4.mono hb13.size)
  have hr24 := (hr2.below hb3).below hb4
  have hrt4 := hrt.below hb14
  have hb4w := hb1.trans (hb14.mono hs1)
  have hs4 := hb4w.size
  clear hr2 hr3 HQ hrt
  have HIA := Lib.hid (fun (k : Nat) w' (hk : k < n1) (hb' : Below w4.heap.size w4 w') => by
    have h1 := IsAbove_t _ A1 n1 c1 t (k0 : Int) (k : Int) w' (hrt4.below hb') hc1 HD.out ⟨HD.out.1, by omega, by rw [HLT.out]; omega⟩
    have h2 : abv t (k0 : Int) (k : Int) = decide ((k : Int) ∈ wkI t (k0 : Int)) := by
      unfold abv
      rw [decide_eq_decide, wk_mem HD.out.1 HD.out.2.1 HD.out.2.2]
      constructor
      · intro h; exact ⟨k, rfl, by rw [HLT.out]; exact hk, h⟩
      · rintro ⟨i, e, _, h⟩
        have : i = k := by omega
        rw [← this]; exact h
    rw [h2] at h1
    exact h1)
  have HIN := Lib.hid (fun (k : Nat) w' (hb' : Below w4.heap.size w4 w') => isIn_any _ A2 m c2 (wkI t (k0 : Int)) (k : Int) w' (hr24.below hb'))
  go_wp2_with fail
  go_loopw [6] (fun i wr => ∃ k : Nat, k ≤ n1 ∧ i = .int .i64 k ∧ Below w4.heap.size w4 wr) (fun i _ => n1 - (intOf i).toNat)
  case atStart => exact ⟨0, Nat.zero_le _, rfl, Below.refl _ _⟩
  case round =>
    rename World => W1
    obtain ⟨k, hk, rfl, hbl⟩ := hrel
    have hsl := hbl.size
    by_cases hlt : k < n1
    · obtain ⟨b, hb⟩ : ∃ b, decide ((k : Int) ∈ wkI t (k0 : Int)) = b := ⟨_, rfl⟩
      have H1 := Lib.hid (HIA.out k W1 hlt hbl)
      have H2 := Lib.hid (fun w' hb' => HIN.out k w' hb')
      rw [hb] at H1 H2
      clear hb
      go_wp2_with fail
      refine H1.out.mono ?_
      rintro e w5 ⟨rfl, hb5⟩
      have hbl5 := hbl.trans (hb5.mono hsl)
      go_wp2_with fail
      refine (H2.out _ hbl5).mono ?_
      rintro e w6 ⟨rfl, rfl⟩
      go_wp2_with fail
      go_roundw
      case rel => exact ⟨k + 1, by omega, by go_num, hbl5⟩
      case measure => simp [intOf]; omega
    · clear HIA HIN
      go_wp2_with fail
      go_loopw [7] (fun i wr => ∃ j : Nat, j ≤ m ∧ i = .int .i64 j ∧ Below w4.heap.size w4 wr) (fun i _ => m - (intOf i).toNat)
      case atStart => exact ⟨0, Nat.zero_le _, rfl, hbl⟩
      case round =>
        rename World => W2
        obtain ⟨j, hj, rfl, hbl2⟩ := hrel
        have hsl2 := hbl2.size
        by_cases hltj : j < m
        · have hrj := hr24.below hbl2
          obtain ⟨b, o, z, rfl, _, _, hz, g0⟩ := hrj.atI hltj
          have HP := Lib.hid (placeOf_any _ _ m c2 (wkI t (k0 : Int)) z W2 hrj)
          rw [plF_nd (wk_nd HD.out.1 HD.out.2.1 HD.out.2.2) hz] at HP
          clear hz hrj
          go_wp2_with fail
          refine HP.out.mono ?_
          rintro e w6 ⟨rfl, rfl⟩
          go_wp2_with fail
          go_roundw
          case rel => exact ⟨j + 1, by omega, by go_num, hbl2⟩
          case measure => simp [intOf]; omega
        · obtain ⟨b, o, z, rfl, _, _, hz, g0⟩ := (hr24.below hbl2).atI (k := 0) (by omega)
          have hz2 := hz.symm.trans (wk_head HD.out.1 HD.out.2.1 HD.out.2.2)
          injection hz2 with hz2
          subst hz2
          have HE := Lib.hid (hb4w.trans (hbl2.mono hs4))
          have hm0 : (0 : Int) < (m : Int) := by omega
          rw [Nat.add_zero] at g0
          clear hz
          go_wp2_with fail
          go_ret
          exact ⟨rfl, HE.out⟩
end Go.Proofs.Ytmnlelpfbnagpaa
