/- The walks of the laws on paths as texts. -/
import Derived.Test.YtmnlelpfbnagpaaDrawPath
import Derived.Test.YtmnlelpfbnagpaaPathT
import Derived.Test.YtmnlelpfbnagpaaResW
namespace Go.Proofs.Ytmnlelpfbnagpaa
open Go.RowKit

theorem ptF_nil {t : List Nd} {a : Int} (h : IsNd t a) : (ptF t a).isEmpty = false := by
  rw [ptF_yes h]
  unfold ptL
  split
  · rfl
  · rename_i h0
    obtain ⟨h1, h2, h3⟩ := h
    obtain ⟨k, rfl⟩ := Int.eq_ofNat_of_zero_le h2
    obtain ⟨r, hr, _⟩ := txL_cons h1 (k := k) (by omega) (by omega)
    rw [hr]; rfl
theorem ptF_node {t : List Nd} {a : Int} (h : (ptF t a).isEmpty = false) : IsNd t a := by
  rcases Classical.em (IsNd t a) with h1 | h1
  · exact h1
  · rw [ptF_no h1] at h; cases h
theorem rsF_ptF {t : List Nd} {a : Int} (h : IsNd t a) : rsF t (ptF t a) = a := by
  rw [ptF_yes h]
  obtain ⟨h1, h2, h3⟩ := h
  obtain ⟨k, rfl⟩ := Int.eq_ofNat_of_zero_le h2
  exact rsF_path h1 (by omega)
theorem ptF_cons {t : List Nd} {a : Int} (h : IsNd t a) : ∃ r, ptF t a = 47 :: r ∧ (r = [] ↔ a = 0) := by
  rw [ptF_yes h]
  unfold ptL
  split
  · rename_i h0; exact ⟨[], rfl, by simp [h0]⟩
  · rename_i h0
    obtain ⟨h1, h2, h3⟩ := h
    obtain ⟨k, rfl⟩ := Int.eq_ofNat_of_zero_le h2
    obtain ⟨r, hr, hn⟩ := txL_cons h1 (k := k) (by omega) (by omega)
    exact ⟨r, hr, by constructor <;> intro e <;> contradiction⟩
theorem rsF_47 {t : List Nd} (h : VT t) : rsF t [47] = 0 := by unfold rsF; rw [if_pos h]; rfl
theorem rsF_nil {t : List Nd} : rsF t [] = -1 := by unfold rsF; split <;> rfl
theorem rsF_dbl {t : List Nd} (h : VT t) : rsF t [47, 47] = -1 := by
  rcases rsF_cases h [47, 47] with h1 | ⟨k, h1, h2, h3, _⟩
  · exact h1.1
  · exfalso
    have h4 : rsF t [47, 47] = dnP t 0 (pcs [47]) := by unfold rsF; rw [if_pos h]; rfl
    have h5 : pcs [47] = [[], []] := rfl
    rw [h5, dnP] at h4
    split at h4
    · omega
    · rename_i hk
      rcases kidF_spec 0 ⟨#[]⟩ t 0 with ⟨g1, _⟩ | ⟨j, x, g1, g2, g3, _⟩
      · rw [show (⟨([] : List UInt8).toArray⟩ : ByteArray) = ⟨#[]⟩ from rfl] at hk; omega
      · have hlj := (List.getElem?_eq_some_iff.1 g2).1
        have hj0 : 0 < j := by
          rcases Nat.eq_zero_or_pos j with e | e
          · subst e; have := h.par0 g2; have := g3.1; omega
          · exact e
        have hn := ((h.2.2 j x hlj g2).2.2.2 hj0).2.2.1
        have h6 : x.name.toList = [] := by rw [g3.2, Lib.toList_data]
        have h7 : x.name.size = 0 := by rw [Lib.size_eq, ← Lib.toList_data, h6]; rfl
        simp [nmOk, h7] at hn

set_option maxRecDepth 100000 in
set_option maxHeartbeats 1600000 in
theorem lawResolvePathTop (A : Option Addr) (n c : Nat) (zs : List Int) (w : World) (hn : n ≤ 1048576) (hr : Rd cB 1 w 0 A n zs) (hc : n ≤ c) (hz : ∀ (k : Nat) (z : Int), zs[k]? = some z → 0 ≤ z ∧ z ≤ 255) :
    Calls Try.prog 3 #[.slice A n c] w fun e w' => e = .returned (.bool true) ∧ Below w.heap.size w w' := by
  have hn' : (n : Int) ≤ 1048576 := by omega
  go_enter Try.func3, Try.ntmps3
  go_wp2_with fail
  refine (DrawResolvePath_any A n c zs _ hr hc hz).mono ?_
  rintro e w1 ⟨A1, n1, c1, t, s, rfl, hc1, hrt, hn1, hzt, hs, hb1⟩
  have HRI := Lib.hid (fun (q : ByteArray) w' (hq : q.size ≤ 1000) (hb' : Below w1.heap.size w1 w') => ResolvePath_any _ A1 n1 c1 t q w' (hrt.below hb') hc1 (by omega))
  have HRS := Lib.hid (fun w' (hb' : Below w1.heap.size w1 w') => ResolvePathS_any _ A1 n1 c1 t s w' (hrt.below hb') hc1 hzt)
  have HVT := Lib.hid (fun w' (hb' : Below w1.heap.size w1 w') => ValidTree_any _ A1 n1 c1 t w' (hrt.below hb') hc1)
  have hs1 := hb1.size
  obtain ⟨v, hv⟩ : ∃ v, rsF t s.data.toList = v := ⟨_, rfl⟩
  have HR1 := Lib.hid (HRI.out s w1 hs (Below.refl _ _))
  rw [hv] at HR1 HRS
  clear hv hr hz
  go_wp2_with fail
  refine HR1.out.mono ?_
  rintro e w2 ⟨rfl, hb2⟩
  go_wp2_with fail
  refine (HRS.out _ hb2).mono ?_
  rintro e w3 ⟨rfl, hb3⟩
  have hb13 := hb2.trans (hb3.mono hb2.size)
  go_wp2_with fail
  refine (HVT.out _ hb13).mono ?_
  rintro e w4 ⟨rfl, hb4⟩
  have hb14 := hb13.trans (hb4.mono hb13.size)
  obtain ⟨b, hb⟩ : ∃ b, vt t = b := ⟨_, rfl⟩
  have HB := Lib.hid hb
  rw [hb]
  clear hb hb2 hb3 hb4 hb13
  cases b with
  | false =>
    go_wp2_with fail
    refine (HRS.out _ hb14).mono ?_
    rintro e w5 ⟨rfl, hb5⟩
    have HE := Lib.hid (hb1.trans ((hb14.trans (hb5.mono hb14.size)).mono hs1))
    go_wp2_with fail
    go_ret
    exact ⟨rfl, HE.out⟩
  | true =>
    have H1 := Lib.hid (fun w' (hb' : Below w1.heap.size w1 w') => HRI.out ⟨#[47]⟩ w' (by decide) hb')
    have H2 := Lib.hid (fun w' (hb' : Below w1.heap.size w1 w') => HRI.out ⟨#[]⟩ w' (by decide) hb')
    have H3 := Lib.hid (fun w' (hb' : Below w1.heap.size w1 w') => HRI.out ⟨#[47, 47]⟩ w' (by decide) hb')
    have e1 : rsF t (⟨#[47]⟩ : ByteArray).data.toList = 0 := rsF_47 (VT_of HB.out)
    have e2 : rsF t (⟨#[]⟩ : ByteArray).data.toList = -1 := rsF_nil
    have e3 : rsF t (⟨#[47, 47]⟩ : ByteArray).data.toList = -1 := rsF_dbl (VT_of HB.out)
    rw [e1] at H1
    rw [e2] at H2
    rw [e3] at H3
    clear e1 e2 e3 HRI
    go_wp2_with fail
    refine (H1.out _ hb14).mono ?_
    rintro e w5 ⟨rfl, hb5⟩
    have hb15 := hb14.trans (hb5.mono hb14.size)
    go_wp2_with fail
    refine (H2.out _ hb15).mono ?_
    rintro e w6 ⟨rfl, hb6⟩
    have hb16 := hb15.trans (hb6.mono hb15.size)
    go_wp2_with fail
    refine (H3.out _ hb16).mono ?_
    rintro e w7 ⟨rfl, hb7⟩
    have HE := Lib.hid (hb1.trans ((hb16.trans (hb7.mono hb16.size)).mono hs1))
    go_wp2_with fail
    go_ret
    exact ⟨rfl, HE.out⟩
set_option maxRecDepth 100000 in
set_option maxHeartbeats 1600000 in
theorem lawPathText (A : Option Addr) (n c : Nat) (zs : List Int) (w : World) (hn : n ≤ 1048576) (hr : Rd cB 1 w 0 A n zs) (hc : n ≤ c) (hz : ∀ (k : Nat) (z : Int), zs[k]? = some z → 0 ≤ z ∧ z ≤ 255) :
    Calls Try.prog 4 #[.slice A n c] w fun e w' => e = .returned (.bool true) ∧ Below w.heap.size w w' := by
  have hn' : (n : Int) ≤ 1048576 := by omega
  go_enter Try.func4, Try.ntmps4
  go_wp2_with fail
  refine (DrawPathText_any A n c zs _ hr hc hz).mono ?_
  rintro e w1 ⟨A1, n1, c1, t, a, rfl, hc1, hrt, hn1, hzt, hb1⟩
  have HPI := Lib.hid (PathText_any _ A1 n1 c1 t a w1 hrt hc1)
  have HPS := Lib.hid (fun w' (hb' : Below w1.heap.size w1 w') => PathTextS_any _ A1 n1 c1 t a w' (hrt.below hb') hc1 hzt)
  have HRI := Lib.hid (fun (q : ByteArray) w' (hq : q.size ≤ 1000) (hb' : Below w1.heap.size w1 w') => ResolvePath_any _ A1 n1 c1 t q w' (hrt.below hb') hc1 (by omega))
  have hs1 := hb1.size
  obtain ⟨T, hT⟩ : ∃ T : ByteArray, T = ⟨(ptF t a).toArray⟩ := ⟨_, rfl⟩
  have hTl : T.data.toList = ptF t a := by rw [hT]
  rw [← hT] at HPI HPS
  have HTL := Lib.hid hTl
  clear hT hTl hr hz
  go_wp2_with fail
  refine HPI.out.mono ?_
  rintro e w2 ⟨rfl, hb2⟩
  go_wp2_with fail
  refine (HPS.out _ hb2).mono ?_
  rintro e w3 ⟨rfl, hb3⟩
  have hb13 := hb2.trans (hb3.mono hb2.size)
  clear hb2 hb3
  by_cases hd : IsNd t a
  case neg =>
    have hE : T.toList.isEmpty = true := by rw [Lib.toList_data, HTL.out, ptF_no hd]; rfl
    clear hd
    go_wp2_with fail
    refine (HPS.out _ hb13).mono ?_
    rintro e w5 ⟨rfl, hb5⟩
    have HE := Lib.hid (hb1.trans ((hb13.trans (hb5.mono hb13.size)).mono hs1))
    go_wp2_with fail
    go_ret
    exact ⟨rfl, HE.out⟩
  have hE : T.toList.isEmpty = false := by rw [Lib.toList_data, HTL.out]; exact ptF_nil hd
  obtain ⟨r, hr1, hr2⟩ := ptF_cons hd
  have hsz : T.size = r.length + 1 := by rw [Lib.size_eq, HTL.out, hr1]; rfl
  have hsz2 : T.size ≤ 25 := by rw [Lib.size_eq, HTL.out, ptF_yes hd]; exact ptL_len hd
  have HR := Lib.hid (HRI.out T w3 (by omega) hb13)
  rw [HTL.out, rsF_ptF hd] at HR
  have h47 : T[0]'(by omega) = 47 := by
    have h1 := Lib.data_getElem? T 0 (by omega)
    rw [HTL.out, hr1] at h1
    simpa using h1.symm
  have h01 : (0 : Int) < (T.size : Int) := by omega
  have HZ : Hid ((T.size : Int) = 1 ↔ a = 0) := by
    show _ ↔ _
    rw [← hr2, hsz]
    cases r <;> simp <;> omega
  have h0s : 0 < T.size := by omega
  have h47' : T[0]'h0s = 47 := h47
  clear hr2 hr1 h47 hsz hd
  go_wp2_with fail
  refine HR.out.mono ?_
  rintro e w5 ⟨rfl, hb5⟩
  have HE := Lib.hid (hb1.trans ((hb13.trans (hb5.mono hb13.size)).mono hs1))
  go_wp2_with fail
  go_ret
  exact ⟨ret_bool (by rw [beq_iff_eq, Bool.eq_iff_iff, beq_iff_eq, beq_iff_eq]; exact HZ.out), HE.out⟩
set_option maxRecDepth 100000 in
set_option maxHeartbeats 1600000 in
theorem lawResolvePath (A : Option Addr) (n c : Nat) (zs : List Int) (w : World) (hn : n ≤ 1048576) (hr : Rd cB 1 w 0 A n zs) (hc : n ≤ c) (hz : ∀ (k : Nat) (z : Int), zs[k]? = some z → 0 ≤ z ∧ z ≤ 255) :
    Calls Try.prog 5 #[.slice A n c] w fun e w' => e = .returned (.bool true) ∧ Below w.heap.size w w' := by
  have hn' : (n : Int) ≤ 1048576 := by omega
  go_enter Try.func5, Try.ntmps5
  go_wp2_with fail
  refine (DrawResolvePath_any A n c zs _ hr hc hz).mono ?_
  rintro e w1 ⟨A1, n1, c1, t, s, rfl, hc1, hrt, hn1, hzt, hs, hb1⟩
  have HPI := Lib.hid (fun a w' (hb' : Below w1.heap.size w1 w') => PathText_any _ A1 n1 c1 t a w' (hrt.below hb') hc1)
  have HRS := Lib.hid (fun w' (hb' : Below w1.heap.size w1 w') => ResolvePathS_any _ A1 n1 c1 t s w' (hrt.below hb') hc1 hzt)
  have HVT := Lib.hid (fun w' (hb' : Below w1.heap.size w1 w') => ValidTree_any _ A1 n1 c1 t w' (hrt.below hb') hc1)
  have HRI := Lib.hid (ResolvePath_any _ A1 n1 c1 t s w1 hrt hc1 (by omega))
  have hs1 := hb1.size
  have HLT : Hid (t.length = n1) := hrt.len
  obtain ⟨v, hv⟩ : ∃ v, rsF t s.data.toList = v := ⟨_, rfl⟩
  have HV := Lib.hid hv
  rw [hv] at HRI HRS
  clear hv hr hz
  go_wp2_with fail
  refine HRI.out.mono ?_
  rintro e w2 ⟨rfl, hb2⟩
  go_wp2_with fail
  refine (HRS.out _ hb2).mono ?_
  rintro e w3 ⟨rfl, hb3⟩
  have hb13 := hb2.trans (hb3.mono hb2.size)
  go_wp2_with fail
  refine (HVT.out _ hb13).mono ?_
  rintro e w4 ⟨rfl, hb4⟩
  have hb14 := hb13.trans (hb4.mono hb13.size)
  obtain ⟨b, hb⟩ : ∃ b, vt t = b := ⟨_, rfl⟩
  have HB := Lib.hid hb
  rw [hb]
  clear hb hb2 hb3 hb4 hb13
  cases b with
  | false =>
    go_wp2_with fail
    refine (HRS.out _ hb14).mono ?_
    rintro e w5 ⟨rfl, hb5⟩
    have HE := Lib.hid (hb1.trans ((hb14.trans (hb5.mono hb14.size)).mono hs1))
    go_wp2_with fail
    go_ret
    exact ⟨rfl, HE.out⟩
  | true =>
    have HD : Hid (∀ k : Nat, k < n1 → IsNd t k) := fun k hk => ⟨VT_of HB.out, by omega, by rw [HLT.out]; omega⟩
    have HQ : Hid (∀ k : Nat, k < n1 → (ptF t k = s.data.toList ↔ (k : Int) = v)) := by
      intro k hk
      constructor
      · intro e
        have := rsF_ptF (HD.out k hk)
        rw [e, HV.out] at this
        exact this.symm
      · intro e
        rcases rsF_cases (VT_of HB.out) s.data.toList with h1 | ⟨j, h1, _, h3, _⟩
        · have := HV.out; rw [h1.1] at this; omega
        · have := HV.out
          rw [h1] at this
          rw [ptF_yes (HD.out k hk), show k = j by omega]
          exact h3
    have HVN : Hid (v < n1) := by
      show _ < _
      rcases rsF_cases (VT_of HB.out) s.data.toList with h1 | ⟨j, h1, h2, _, _⟩
      · have := HV.out; rw [h1.1] at this; omega
      · have := HV.out; rw [h1] at this; have := HLT.out; omega
    clear HRS HVT
    go_wp2_with fail
    go_loopw [6] (fun i wr => ∃ k : Nat, k ≤ n1 ∧ i = .int .i64 k ∧ Below w1.heap.size w1 wr) (fun i _ => n1 - (intOf i).toNat)
    case atStart => exact ⟨0, Nat.zero_le _, rfl, hb14⟩
    case round =>
      rename World => W1
      obtain ⟨k, hk, rfl, hbl⟩ := hrel
      have hs2 := hbl.size
      by_cases hlt : k < n1
      · obtain ⟨T, hT⟩ : ∃ T : ByteArray, T = ⟨(ptF t k).toArray⟩ := ⟨_, rfl⟩
        have hTl : T.data.toList = ptF t k := by rw [hT]
        have HP := Lib.hid (HPI.out k W1 hbl)
        rw [← hT] at HP
        have hq := HQ.out k hlt
        rw [← hTl] at hq
        have h2 : (T.toList == s.toList) = ((k : Int) == v) := by
          rw [Lib.toList_data, Lib.toList_data, Bool.eq_iff_iff, beq_iff_eq, beq_iff_eq]
          exact hq
        clear hT hTl hq
        go_wp2_with fail
        refine HP.out.mono ?_
        rintro e w5 ⟨rfl, hb5⟩
        have hbl5 := hbl.trans (hb5.mono hs2)
        go_wp2_with fail
        go_roundw
        case rel => exact ⟨k + 1, by omega, by go_num, hbl5⟩
        case measure => simp [intOf]; omega
      · have HE := Lib.hid (hb1.trans (hbl.mono hs1))
        have hvn : v < (n1 : Int) := HVN.out
        go_wp2_with fail
        go_ret
        exact ⟨ret_bool (by simp), HE.out⟩
end Go.Proofs.Ytmnlelpfbnagpaa
