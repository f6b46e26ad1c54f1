/- The walks of the laws on walks by names. -/
import Derived.Test.YtmnlelpfbnagpaaWalkN2
import Derived.Test.YtmnlelpfbnagpaaPlaceW
import Derived.Test.YtmnlelpfbnagpaaEqInts
namespace Go.Proofs.Ytmnlelpfbnagpaa
open Go.RowKit

set_option maxRecDepth 100000 in
set_option maxHeartbeats 2000000 in
theorem lawWalkNodesPart (A : Option Addr) (n c : Nat) (zs : List Int) (w : World) (hn : n ≤ 1048576) (hr : Rd cB 1 w 0 A n zs) (hc : n ≤ c) (hz : ∀ (k : Nat) (z : Int), zs[k]? = some z → 0 ≤ z ∧ z ≤ 255) :
    Calls Try.prog 8 #[.slice A n c] w fun e w' => e = .returned (.bool true) ∧ Below w.heap.size w w' := by
  have hn' : (n : Int) ≤ 1048576 := by omega
  go_enter Try.func8, Try.ntmps8
  go_wp2_with fail
  refine (DrawWalkNodes_any A n c zs _ hr hc hz).mono ?_
  rintro e w1 ⟨A1, n1, c1, t, a, rfl, hc1, hrt, hn1, hzt, hb1⟩
  have hs1 := hb1.size
  have HLT : Hid (t.length = n1) := hrt.len
  clear hr hz
  by_cases hd : IsNd t a
  case neg =>
    have HI := Lib.hid (WalkNodes_f _ A1 n1 c1 t a w1 hrt hc1 hd)
    have HS := Lib.hid (fun w' (hb' : Below w1.heap.size w1 w') => WalkNodesS_f _ A1 n1 c1 t a w' (hrt.below hb') hc1 hzt hd)
    have HQ := Lib.hid (fun w' => equalInts_t 0 0 none none 0 0 0 0 [] w' Rd.nil Rd.nil)
    clear hd
    go_wp2_with fail
    refine HI.out.mono ?_
    rintro e w2 ⟨rfl, hb2⟩
    go_wp2_with fail
    refine (HS.out _ hb2).mono ?_
    rintro e w3 ⟨rfl, hb3⟩
    have hb13 := hb2.trans (hb3.mono hb2.size)
    go_wp2_with fail
    refine (HQ.out _).mono ?_
    rintro e w4 ⟨rfl, hb4⟩
    have hb14 := hb13.trans (hb4.mono hb13.size)
    go_wp2_with fail
    refine (HS.out _ hb14).mono ?_
    rintro e w5 ⟨rfl, hb5⟩
    have hb15 := hb14.trans (hb5.mono hb14.size)
    go_wp2_with fail
    refine (HQ.out _).mono ?_
    rintro e w6 ⟨rfl, hb6⟩
    have HE := Lib.hid (hb1.trans ((hb15.trans (hb6.mono hb15.size)).mono hs1))
    go_wp2_with fail
    go_ret
    exact ⟨rfl, HE.out⟩
  obtain ⟨k0, rfl⟩ := Int.eq_ofNat_of_zero_le hd.2.1
  have HD := Lib.hid hd
  have HI := Lib.hid (WalkNodes_t _ A1 n1 c1 t k0 w1 hrt hc1 hd)
  have HS := Lib.hid (fun w' (hb' : Below w1.heap.size w1 w') => WalkNodesS_t _ A1 n1 c1 t k0 w' (hrt.below hb') hc1 hzt hd)
  have hle := wk_le hd.1 hd.2.1 hd.2.2
  clear hd
  go_wp2_with fail
  refine HI.out.mono ?_
  rintro e w2 ⟨v2, rfl, ho2, hb2⟩
  have hw1 : 1 ≤ (wkI t (k0 : Int)).length := by rw [wkI_step HD.out.1 HD.out.2.1 HD.out.2.2]; simp
  obtain ⟨g, m, c2, rfl, hgb, hgl, hc2, hm⟩ := ho2.form hw1
  have hr2 := (ho2.rds elI.len (by have := HLT.out; omega)).2
  have HM : Hid ((wkI t (k0 : Int)).length = m) := hm.symm
  clear hw1 hm
  have hm1 : 1 ≤ m := by
    have h := HM.out
    rw [wkI_step HD.out.1 HD.out.2.1 HD.out.2.2] at h
    simp at h; omega
  have hm13 : m ≤ 13 := by have := HM.out; have := HLT.out; omega
  have hmz : ((m : Int) == 0) = false := by simp; omega
  clear ho2 hle
  go_wp2_with fail
  refine (HS.out _ hb2).mono ?_
  rintro e w3 ⟨v3, rfl, ho3, hb3⟩
  obtain ⟨A3, m3, c3, rfl, hc3, hr3⟩ := ho3.rdn elI.len (by have := HM.out; omega)
  have hb13 := hb2.trans (hb3.mono hb2.size)
  have HQ := Lib.hid (equalInts_t _ _ _ A3 m c2 m3 c3 _ _ (hr2.below hb3) hr3)
  clear ho3
  go_wp2_with fail
  refine HQ.out.mono ?_
  rintro e w4 ⟨rfl, hb4⟩
  have hb14 := hb13.trans (hb4.mono hb13.size)
  have hr24 := (hr2.below hb3).below hb4
  have hrt4 := hrt.below hb14
  have hb4w := hb1.trans (hb14.mono hs1)
  have hs4 := hb4w.size
  clear hr2 hr3 HQ hrt
  have HIW := Lib.hid (fun (i : Nat) w' (hi : IsNd t (i : Int)) (hb' : Below w4.heap.size w4 w') => WalkNodes_t _ A1 n1 c1 t i w' (hrt4.below hb') hc1 hi)
  obtain ⟨i, hi⟩ : ∃ i, i = n % m := ⟨_, rfl⟩
  have him : i < m := by rw [hi]; exact Nat.mod_lt _ (by omega)
  have hmod : (n : Int).tmod (m : Int) = (i : Int) := by rw [hi]; rfl
  obtain ⟨b, o, z, e0, _, _, hz, g0⟩ := hr24.atI him
  simp only [Option.some.injEq, Addr.mk.injEq, and_true] at e0
  obtain ⟨rfl, rfl⟩ := e0
  have hzm := (wk_mem HD.out.1 HD.out.2.1 HD.out.2.2).1 (List.mem_of_getElem? hz)
  obtain ⟨q, rfl, hq, _⟩ := hzm
  obtain ⟨l2, hl2⟩ := wk_cut HD.out.1 HD.out.2.1 HD.out.2.2 hz
  have HIQ := Lib.hid (HIW.out q w4 ⟨HD.out.1, by omega, by omega⟩ (Below.refl _ _))
  have HL2 := Lib.hid hl2
  have hmz0 : (m : Int) ≠ 0 := by omega
  have hi0 : (i : Int) < (m : Int) := by omega
  rw [Nat.zero_add] at g0
  clear hz hl2 hi
  go_wp2_with fail
  refine HIQ.out.mono ?_
  rintro e w5 ⟨v5, rfl, ho5, hb5⟩
  have hlen5 : i + (wkI t (q : Int)).length ≤ m := by
    have := congrArg List.length HL2.out
    rw [List.length_drop, List.length_append, HM.out] at this
    omega
  obtain ⟨A5, m5, c5, rfl, hc5, hr5⟩ := ho5.rdn elI.len (by omega)
  have hm5 : (wkI t (q : Int)).length = m5 := hr5.len
  have hle5 : (i : Int) + (m5 : Int) ≤ (m : Int) := by omega
  have hr25 := hr24.below hb5
  have HSUB : Hid (Rd cI 1 w5 w1.heap.size (some ⟨g, i, none⟩) m5 (wkI t (q : Int))) := by
    have h1 := (hr25.drop (k := i) (c := m) (by omega) (Nat.le_refl _)).take (k := m5) (by omega)
    rw [if_neg (by omega), HL2.out, ← hm5, List.take_left] at h1
    have e : (some (⟨g, 0, none⟩ : Addr)).map (fun q => q.add (i * 1)) = some ⟨g, i, none⟩ := by by_cases h : i = 0 <;> simp [Addr.add, h]
    rw [e, hm5] at h1
    exact h1
  have HB5 := Lib.hid (hb4w.trans (hb5.mono hs4))
  clear ho5 hm5 hlen5 hb5
  go_wp2_with fail
  refine (equalInts_t _ _ _ A5 m5 _ m5 c5 _ _ HSUB.out hr5).mono ?_
  rintro e w6 ⟨rfl, hb6⟩
  have HE := Lib.hid (HB5.out.trans (hb6.mono HB5.out.size))
  go_wp2_with fail
  go_ret
  exact ⟨rfl, HE.out⟩
end Go.Proofs.Ytmnlelpfbnagpaa
