/- The walk of the law on the paths of a grown tree. -/
import Derived.Test.YtmnlelpfbnagpaaPathE
import Derived.Test.YtmnlelpfbnagpaaAddI
import Derived.Test.YtmnlelpfbnagpaaLawPath
import Derived.Test.YtmnlelpfbnagpaaEqNodes
namespace Go.Proofs.Ytmnlelpfbnagpaa
open Go.RowKit

set_option maxRecDepth 100000 in
set_option maxHeartbeats 2000000 in
theorem lawAddNodePath (A : Option Addr) (n c : Nat) (zs : List Int) (w : World) (hn : n ≤ 1048576) (hr : Rd cB 1 w 0 A n zs) (hc : n ≤ c) (hz : ∀ (k : Nat) (z : Int), zs[k]? = some z → 0 ≤ z ∧ z ≤ 255) :
    Calls Try.prog 6 #[.slice A n c] w fun e w' => e = .returned (.bool true) ∧ Below w.heap.size w w' := by
  have hn' : (n : Int) ≤ 1048576 := by omega
  go_enter Try.func6, Try.ntmps6
  go_wp2_with fail
  refine (DrawAddNode_any A n c zs _ hr hc hz).mono ?_
  rintro e w1 ⟨A1, n1, c1, t, a, s, v, rfl, hc1, hrt, hn1, hzt, hs, hb1⟩
  have hs1 := hb1.size
  have HLT : Hid (t.length = n1) := hrt.len
  have HS := Lib.hid (fun w' (hb' : Below w1.heap.size w1 w') => AddNodeS_any _ A1 n1 c1 t a s v w' (hrt.below hb') hc1 hzt (by omega))
  clear hr hz
  go_wp2_with fail
  refine (AddNodeI_any _ A1 n1 c1 t a s v _ hrt hc1).mono ?_
  rintro e w2 ⟨hb2, h | h⟩
  case inr =>
    obtain ⟨h1, rfl⟩ := h
    have HO := Lib.hid h1
    clear h1
    have HQ := Lib.hid (fun w' => equalNodes_t 0 0 none none 0 0 0 0 [] w' Rd.nil Rd.nil)
    go_wp2_with fail
    refine (HS.out _ hb2).mono ?_
    rintro e w3 ⟨hb3, h | h⟩
    case inl => rw [HO.out] at h; cases h.1
    obtain ⟨_, rfl⟩ := h
    have hb13 := hb2.trans (hb3.mono hb2.size)
    go_wp2_with fail
    refine (HQ.out _).mono ?_
    rintro e w4 ⟨rfl, hb4⟩
    have hb14 := hb13.trans (hb4.mono hb13.size)
    go_wp2_with fail
    refine (HQ.out _).mono ?_
    rintro e w5 ⟨rfl, hb5⟩
    have HE := Lib.hid (hb1.trans ((hb14.trans (hb5.mono hb14.size)).mono hs1))
    go_wp2_with fail
    go_ret
    exact ⟨rfl, HE.out⟩
  obtain ⟨h1, out, rfl, ho⟩ := h
  have HO := Lib.hid h1
  have hlt := len_lt_of_addOk h1
  obtain ⟨A2, n2, c2, rfl, hc2, hr2⟩ := ho.rdn (fun _ => rfl) (by simp; omega)
  have HL2 : Hid (n2 = n1 + 1) := by show _ = _; have := hr2.len; rw [List.length_append, HLT.out] at this; simp at this; omega
  clear h1 hlt ho
  go_wp2_with fail
  refine (HS.out _ hb2).mono ?_
  rintro e w3 ⟨hb3, h | h⟩
  case inr => rw [HO.out] at h; cases h.1
  obtain ⟨_, out3, rfl, ho3⟩ := h
  obtain ⟨A3, n3, c3, rfl, hc3, hr3⟩ := ho3.rdn (fun _ => rfl) (by simp; rw [HLT.out]; omega)
  have hn3 : n3 = n2 := hr3.len.symm.trans hr2.len
  subst hn3
  have hb13 := hb2.trans (hb3.mono hb2.size)
  have HQ := Lib.hid (equalNodes_t _ _ A2 A3 _ c2 _ c3 _ _ (hr2.below hb3) hr3)
  rw [HLT.out]
  clear ho3 HS
  go_wp2_with fail
  refine HQ.out.mono ?_
  rintro e w4 ⟨rfl, hb4⟩
  have hb14 := hb13.trans (hb4.mono hb13.size)
  have hr24 := (hr2.below hb3).below hb4
  have hr14 := hrt.below hb14
  have HV1 : Hid (VT t) := VT_of (by have := HO.out; simp only [addOk, Bool.and_eq_true] at this; exact this.1)
  have HV2 : Hid (VT (t ++ [⟨a, s, v⟩])) := VT_of (by have := HO.out; simp only [addOk, Bool.and_eq_true] at this; exact this.2)
  have HP1 := Lib.hid (fun (k : Nat) w' (hk : k < n1) (hb' : Below w4.heap.size w4 w') => by
    have := PathText_any _ A1 n1 c1 t k w' (hr14.below hb') hc1
    rw [← add_path HV1.out HV2.out (by rw [HLT.out]; exact hk)] at this
    exact this)
  have HP2 := Lib.hid (fun (k : Int) w' (hb' : Below w4.heap.size w4 w') => PathText_any _ A2 _ c2 (t ++ [⟨a, s, v⟩]) k w' (hr24.below hb') hc2)
  have HSZ : Hid ((ptF (t ++ [⟨a, s, v⟩]) (n1 : Int)).length ≤ 25) := by
    show _ ≤ _
    have hd : IsNd (t ++ [⟨a, s, v⟩]) (n1 : Int) := ⟨HV2.out, by omega, by rw [List.length_append, HLT.out]; simp; omega⟩
    rw [ptF_yes hd]
    exact ptL_len hd
  have HR1 := Lib.hid (fun w' (hb' : Below w4.heap.size w4 w') => by
    have := ResolvePath_any _ A1 n1 c1 t ⟨(ptF (t ++ [⟨a, s, v⟩]) (n1 : Int)).toArray⟩ w' (hr14.below hb') hc1 (by rw [ba_size]; have := HSZ.out; omega)
    rw [show (⟨(ptF (t ++ [⟨a, s, v⟩]) (n1 : Int)).toArray⟩ : ByteArray).data.toList = ptF (t ++ [⟨a, s, v⟩]) (n1 : Int) from rfl, ← HLT.out, add_new HV1.out HV2.out, HLT.out] at this
    exact this)
  have HR2 := Lib.hid (fun w' (hb' : Below w4.heap.size w4 w') => by
    have := ResolvePath_any _ A2 _ c2 (t ++ [⟨a, s, v⟩]) ⟨(ptF (t ++ [⟨a, s, v⟩]) (n1 : Int)).toArray⟩ w' (hr24.below hb') hc2 (by rw [ba_size]; have := HSZ.out; omega)
    rw [show (⟨(ptF (t ++ [⟨a, s, v⟩]) (n1 : Int)).toArray⟩ : ByteArray).data.toList = ptF (t ++ [⟨a, s, v⟩]) (n1 : Int) from rfl, rsF_ptF0 HV2.out (by rw [List.length_append, HLT.out]; simp)] at this
    exact this)
  have hs14 := hb14.size
  have hb4w := hb1.trans (hb14.mono hs1)
  have hs4 := hb4w.size
  clear hr2 hr3 hrt hr24 hr14 HQ
  go_wp2_with fail
  go_loopw [13] (fun i wr => ∃ k : Nat, k ≤ n1 ∧ i = .int .i64 k ∧ Below w4.heap.size w4 wr) (fun i _ => n1 - (intOf i).toNat)
  case atStart => exact ⟨0, Nat.zero_le _, rfl, Below.refl _ _⟩
  case round =>
    rename World => W1
    obtain ⟨k, hk, rfl, hbl⟩ := hrel
    have hsl := hbl.size
    by_cases hlt : k < n1
    · obtain ⟨T, hT⟩ : ∃ T : ByteArray, T = ⟨(ptF (t ++ [⟨a, s, v⟩]) (k : Int)).toArray⟩ := ⟨_, rfl⟩
      have H1 := Lib.hid (HP2.out k W1 hbl)
      have H2 := Lib.hid (fun w' hb' => HP1.out k w' hlt hb')
      rw [← hT] at H1 H2
      clear hT
      go_wp2_with fail
      refine H1.out.mono ?_
      rintro e w5 ⟨rfl, hb5⟩
      have hbl5 := hbl.trans (hb5.mono hsl)
      go_wp2_with fail
      refine (H2.out _ hbl5).mono ?_
      rintro e w6 ⟨rfl, hb6⟩
      have hbl6 := hbl5.trans (hb6.mono hbl5.size)
      go_wp2_with fail
      go_roundw
      case rel => exact ⟨k + 1, by omega, by go_num, hbl6⟩
      case measure => simp [intOf]; omega
    · have H1 := Lib.hid (fun w' hb' => HP2.out n1 w' hb')
      clear HP1 HP2
      go_wp2_with fail
      refine (H1.out _ hbl).mono ?_
      rintro e w5 ⟨rfl, hb5⟩
      have hbl5 := hbl.trans (hb5.mono hsl)
      go_wp2_with fail
      refine (HR1.out _ hbl5).mono ?_
      rintro e w6 ⟨rfl, hb6⟩
      have hbl6 := hbl5.trans (hb6.mono hbl5.size)
      go_wp2_with fail
      refine (H1.out _ hbl6).mono ?_
      rintro e w7 ⟨rfl, hb7⟩
      have hbl7 := hbl6.trans (hb7.mono hbl6.size)
      go_wp2_with fail
      refine (HR2.out _ hbl7).mono ?_
      rintro e w8 ⟨rfl, hb8⟩
      have HE := Lib.hid (hb4w.trans ((hbl7.trans (hb8.mono hbl7.size)).mono hs4))
      go_wp2_with fail
      go_ret
      exact ⟨rfl, HE.out⟩
end Go.Proofs.Ytmnlelpfbnagpaa
