/- The walk of the law that as many are gone as are below. -/
import Derived.Test.YtmnlelpfbnagpaaDropS
import Derived.Test.YtmnlelpfbnagpaaWalkN2
import Derived.Test.YtmnlelpfbnagpaaEqNodes
namespace Go.Proofs.Ytmnlelpfbnagpaa
open Go.RowKit

set_option maxRecDepth 100000 in
set_option maxHeartbeats 2000000 in
theorem lawDropNodeWalk (A : Option Addr) (n c : Nat) (zs : List Int) (w : World) (hn : n ≤ 1048576) (hr : Rd cB 1 w 0 A n zs) (hc : n ≤ c) (hz : ∀ (k : Nat) (z : Int), zs[k]? = some z → 0 ≤ z ∧ z ≤ 255) :
    Calls Try.prog 10 #[.slice A n c] w fun e w' => e = .returned (.bool true) ∧ Below w.heap.size w w' := by
  have hn' : (n : Int) ≤ 1048576 := by omega
  go_enter Try.func10, Try.ntmps10
  go_wp2_with fail
  refine (DrawDropNode_any A n c zs _ hr hc hz).mono ?_
  rintro e w1 ⟨A1, n1, c1, t, a, rfl, hc1, hrt, hn1, hzt, hb1⟩
  have hs1 := hb1.size
  have HLT : Hid (t.length = n1) := hrt.len
  clear hr hz
  by_cases hd : IsNd t a ∧ 0 < a
  case neg =>
    have HI := Lib.hid (DropNode_n _ A1 n1 c1 t a w1 hrt hc1 hd)
    have HS := Lib.hid (fun w' (hb' : Below w1.heap.size w1 w') => DropNodeS_n _ A1 n1 c1 t a w' (hrt.below hb') hc1 hzt hd)
    have HQ := Lib.hid (fun w' => equalNodes_t 0 0 none none 0 0 0 0 [] w' Rd.nil Rd.nil)
    clear hd
    go_wp2_with fail
    refine HI.out.mono ?_
    rintro e w2 ⟨rfl, hb2⟩
    go_wp2_with fail
    refine (HS.out _ hb2).mono ?_
    rintro e w3 ⟨rfl, hb3⟩
    have hb13 := hb2.trans (hb3.mono hb2.size)
    go_wp2_with fail
    refine (HQ.out _).mono ?_
    rintro e w4 ⟨rfl, hb4⟩
    have hb14 := hb13.trans (hb4.mono hb13.size)
    go_wp2_with fail
    refine (HQ.out _).mono ?_
    rintro e w5 ⟨rfl, hb5⟩
    have HE := Lib.hid (hb1.trans ((hb14.trans (hb5.mono hb14.size)).mono hs1))
    go_wp2_with fail
    go_ret
    exact ⟨rfl, HE.out⟩
  obtain ⟨hd, ha⟩ := hd
  obtain ⟨k0, rfl⟩ := Int.eq_ofNat_of_zero_le hd.2.1
  have HD := Lib.hid hd
  have HI := Lib.hid (DropNode_t _ A1 n1 c1 t k0 w1 hrt hc1 hd ha)
  have HS := Lib.hid (fun w' (hb' : Below w1.heap.size w1 w') => DropNodeS_t _ A1 n1 c1 t k0 w' (hrt.below hb') hc1 hzt hd ha)
  have HW := Lib.hid (fun w' (hb' : Below w1.heap.size w1 w') => WalkNodes_t _ A1 n1 c1 t k0 w' (hrt.below hb') hc1 hd)
  have HCT := Lib.hid (dr_count hd.1 hd.2.1 hd.2.2)
  clear hd
  go_wp2_with fail
  refine HI.out.mono ?_
  rintro e w2 ⟨v2, rfl, ho2, hb2⟩
  obtain ⟨A2, m, c2, rfl, hc2, hr2⟩ := ho2.rdn elN.len (by have := HCT.out; have := HLT.out; omega)
  have HM : Hid ((drF t (k0 : Int)).length = m) := hr2.len
  clear ho2
  go_wp2_with fail
  refine (HS.out _ hb2).mono ?_
  rintro e w3 ⟨v3, rfl, ho3, hb3⟩
  obtain ⟨A3, m3, c3, rfl, hc3, hr3⟩ := ho3.rdn elN.len (by have := HCT.out; have := HLT.out; omega)
  have hb13 := hb2.trans (hb3.mono hb2.size)
  have HQ := Lib.hid (equalNodes_t _ _ A2 A3 m c2 m3 c3 _ _ (hr2.below hb3) hr3)
  clear ho3
  go_wp2_with fail
  refine HQ.out.mono ?_
  rintro e w4 ⟨rfl, hb4⟩
  have hb14 := hb13.trans (hb4.mono hb13.size)
  go_wp2_with fail
  refine (HW.out _ hb14).mono ?_
  rintro e w5 ⟨v5, rfl, ho5, hb5⟩
  obtain ⟨A5, m5, c5, rfl, hc5, hr5⟩ := ho5.rdn elI.len (by have := HCT.out; have := HLT.out; omega)
  have HM5 : Hid ((wkI t (k0 : Int)).length = m5) := hr5.len
  have hsum : (m : Int) + (m5 : Int) = (n1 : Int) := by have := HCT.out; have := HLT.out; have := HM.out; have := HM5.out; omega
  have hm13 : m ≤ 13 := by omega
  have hm513 : m5 ≤ 13 := by omega
  have HE := Lib.hid (hb1.trans ((hb14.trans (hb5.mono hb14.size)).mono hs1))
  clear ho5
  go_wp2_with fail
  go_ret
  exact ⟨ret_bool (by simp), HE.out⟩
end Go.Proofs.Ytmnlelpfbnagpaa
