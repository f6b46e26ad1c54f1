/- The walks over the reference's PathText and ResolvePath. -/
import Derived.Test.YtmnlelpfbnagpaaPathB
import Derived.Test.YtmnlelpfbnagpaaPathW2
namespace Go.Proofs.Ytmnlelpfbnagpaa
open Go.RowKit

theorem ba_mk (s : ByteArray) (l : List UInt8) (h : s.data.toList = l) : s = ⟨l.toArray⟩ := by rw [← h]
set_option maxHeartbeats 2000000 in
theorem pathTextS_any (lo : Nat) (A : Option Addr) (n c : Nat) (t : List Nd) (a : Int) (w : World) (hr : Rd cN 3 w lo A n t) (h : IsNd t a) :
    Calls Try.prog 48 #[.slice A n c, .int .i64 a] w fun e w' => e = .returned (.string ⟨(ptL t a).toArray⟩) ∧ Below w.heap.size w w' := by
  have HC := Lib.hid (pathTo_any lo A n c t a w hr h)
  have HN := Lib.hid h
  have HPL := Lib.hid h.path_len
  have HNX : Hid (t.length = n) := hr.len
  have HZ : Hid (a = 0 → ptL t a = [47]) := by show _ → _; intro e; unfold ptL; rw [if_pos e]
  have HZ2 : Hid (a ≠ 0 → ptL t a = txL t a) := by show _ → _; intro e; unfold ptL; rw [if_neg e]
  clear h
  go_enter Try.func48, Try.ntmps48
  go_wp2_with fail
  refine HC.out.mono ?_
  rintro e w1 ⟨v, rfl, ho, hb1⟩
  obtain ⟨g, m, cap, rfl, hgb, hgs, hmc, hm⟩ := ho.form HPL.out.2
  have hrd := (ho.rds elI.len (by have := HPL.out.1; omega)).2
  have hm2 : 1 ≤ m := by have := HPL.out.2; omega
  have hm5 : m ≤ 5 := by have := HPL.out.1; omega
  have HM := Lib.hid hm
  have hs1 := hb1.size
  clear hm ho
  go_wp2_with fail
  go_loopw [5, 7] (fun v i wr => ∃ (k : Nat) (s : ByteArray), k + 1 ≤ m ∧ i = .int .i64 ((k : Int) + 1) ∧ v = .string s ∧ s.size ≤ 5 * k ∧ Below w1.heap.size w1 wr ∧ Hid (s.data.toList = pfx t a k)) (fun _ i _ => m - (intOf i).toNat)
  case atStart => exact ⟨0, _, hm2, rfl, rfl, Nat.le_refl _, Below.refl _ _, rfl⟩
  case round =>
    rename World => W1
    obtain ⟨k, s, hk, rfl, rfl, hsz, hbl, HS⟩ := hrel
    have hs2 := hbl.size
    by_cases hlt : (k : Int) + 1 < (m : Int)
    · obtain ⟨b, o, z, e0, _, _, hz, g0⟩ := (hrd.below hbl).atI (k := k + 1) (by omega)
      simp only [Option.some.injEq, Addr.mk.injEq, and_true] at e0
      obtain ⟨rfl, rfl⟩ := e0
      obtain ⟨j, x, rfl, hj0, hx, hxs, hpx⟩ := path_at HN.out hz
      have hbw := hb1.trans (hbl.mono hs1)
      have hjn : j < n := by have := (List.getElem?_eq_some_iff.1 hx).1; have := HNX.out; omega
      obtain ⟨b, o, y, rfl, _, _, hy, _, d1, _⟩ := (hr.below hbw).atN (k := j) hjn
      have ey : y = x := by have := hx.symm.trans hy; injection this with this; exact this.symm
      subst ey
      have HPX := Lib.hid hpx
      have g1 : W1.cell? ⟨g, k + 1, none⟩ = some (.int .i64 j) := by rw [← g0]; congr 2; omega
      clear hpx hz hx hy
      have hs25 : s.size ≤ 25 := by omega
      go_wp2_with fail
      go_roundw
      case rel => exact ⟨k + 1, _, by omega, by go_num, rfl, by simp [show (⟨#[47]⟩ : ByteArray).size = 1 from rfl]; omega, hbl, by show _ = _; rw [HPX.out, ← HS.out]; simp⟩
      case measure => simp [intOf]; omega
    · have HPA : Hid (pfx t a k = txL t a) := pfx_all (by have := HM.out; omega)
      have HR := Lib.hid (hb1.trans (hbl.mono hs1))
      by_cases ha : a = 0
      · have HE := Lib.hid (HZ.out ha)
        have ha' : (a == 0) = true := by simp [ha]
        clear ha
        go_wp2_with fail
        go_ret
        exact ⟨by rw [HE.out]; rfl, HR.out⟩
      · have HE := Lib.hid (HZ2.out ha)
        have ha' : (a == 0) = false := by simp [ha]
        clear ha
        go_wp2_with fail
        go_ret
        exact ⟨by rw [HE.out, ← HPA.out, ← HS.out]; rfl, HR.out⟩
set_option maxHeartbeats 1000000 in
theorem PathTextS_any (lo : Nat) (A : Option Addr) (n c : Nat) (t : List Nd) (a : Int) (w : World) (hr : Rd cN 3 w lo A n t) (hc : n ≤ c) (hz : NmB t) :
    Calls Try.prog 18 #[.slice A n c, .int .i64 a] w fun e w' => e = .returned (.string ⟨(ptF t a).toArray⟩) ∧ Below w.heap.size w w' := by
  by_cases hv : VT t
  case neg =>
    have HC := Lib.hid (validTree_f lo A n c t w hr hc hz hv)
    rw [ptF_no fun h => hv h.1]
    clear hv
    go_enter Try.func18, Try.ntmps18
    go_wp2_with fail
    refine HC.out.mono ?_
    rintro e w1 ⟨rfl, hb1⟩
    go_wp2_with fail
    go_ret
    exact ⟨rfl, hb1⟩
  have HC := Lib.hid (validTree_t lo A n c t w hr hc hz hv)
  have HNX : Hid (t.length = n) := hr.len
  have hn := hr.le
  by_cases ha : 0 ≤ a ∧ a < n
  · have hd : IsNd t a := ⟨hv, ha.1, by rw [HNX.out]; exact ha.2⟩
    have HR := Lib.hid (fun w => inRange_t a 0 ((n : Int) - 1) w ha.1 (by omega))
    rw [ptF_yes hd]
    have HD := Lib.hid hd
    clear hd hv ha
    go_enter Try.func18, Try.ntmps18
    go_wp2_with fail
    refine HC.out.mono ?_
    rintro e w1 ⟨rfl, hb1⟩
    have hs1 := hb1.size
    go_wp2_with fail
    refine (HR.out _).mono ?_
    rintro e w2 ⟨rfl, rfl⟩
    have HP := Lib.hid (pathTextS_any lo A n c t a _ (hr.below hb1) HD.out)
    go_wp2_with fail
    refine HP.out.mono ?_
    rintro e w3 ⟨rfl, hb3⟩
    have HB := Lib.hid (hb1.trans (hb3.mono hs1))
    go_wp2_with fail
    go_ret
    exact ⟨rfl, HB.out⟩
  · have hd : ¬ IsNd t a := fun h => ha ⟨h.2.1, by have := h.2.2; rw [HNX.out] at this; exact this⟩
    have HR := Lib.hid (fun w => inRange_f a 0 ((n : Int) - 1) w (by omega))
    rw [ptF_no hd]
    clear hd hv ha
    go_enter Try.func18, Try.ntmps18
    go_wp2_with fail
    refine HC.out.mono ?_
    rintro e w1 ⟨rfl, hb1⟩
    have hs1 := hb1.size
    go_wp2_with fail
    refine (HR.out _).mono ?_
    rintro e w2 ⟨rfl, rfl⟩
    go_wp2_with fail
    go_ret
    exact ⟨rfl, hb1⟩
set_option maxHeartbeats 1000000 in
theorem resolveS_any (lo : Nat) (A : Option Addr) (n c : Nat) (t : List Nd) (s : ByteArray) (w : World) (hr : Rd cN 3 w lo A n t) (hv : VT t) :
    Calls Try.prog 40 #[.slice A n c, .string s] w fun e w' => e = .returned (.int .i64 (rsF t s.data.toList)) ∧ Below w.heap.size w w' := by
  have HV := Lib.hid hv
  have HNX : Hid (t.length = n) := hr.len
  have hn := hr.le
  clear hv
  go_enter Try.func40, Try.ntmps40
  go_wp2_with fail
  go_loopw [5] (fun i wr => ∃ k : Nat, k ≤ n ∧ i = .int .i64 k ∧ Below w.heap.size w wr ∧ Hid (∀ j, j < k → ptL t j ≠ s.data.toList)) (fun i _ => n - (intOf i).toNat)
  case atStart => exact ⟨0, by omega, rfl, Below.refl _ _, fun j hj => by omega⟩
  case round =>
    rename World => W1
    obtain ⟨k, hk, rfl, hbl, HF⟩ := hrel
    have hs1 := hbl.size
    by_cases hlt : k < n
    · have HP := Lib.hid (pathTextS_any lo A n c t k _ (hr.below hbl) ⟨HV.out, by omega, by rw [HNX.out]; omega⟩)
      by_cases he : ptL t k = s.data.toList
      · have hrs : rsF t s.data.toList = k := by rw [← he]; exact rsF_path HV.out (by rw [HNX.out]; exact hlt)
        have HRS := Lib.hid hrs
        have hee : (⟨(ptL t k).toArray⟩ : ByteArray) = s := by rw [he]
        rw [hee] at HP
        clear he hrs hee
        go_wp2_with fail
        refine HP.out.mono ?_
        rintro e w3 ⟨rfl, hb3⟩
        have HB := Lib.hid (hbl.trans (hb3.mono hs1))
        go_wp2_with fail
        go_ret
        exact ⟨ret_int (by rw [HRS.out]), HB.out⟩
      · obtain ⟨s2, hs2⟩ : ∃ s2 : ByteArray, s2 = ⟨(ptL t k).toArray⟩ := ⟨_, rfl⟩
        rw [← hs2] at HP
        have HE := Lib.hid he
        have hne : (s2.toList == s.toList) = false := by
          rw [Lib.toList_data, Lib.toList_data, hs2]
          simpa using he
        clear he hs2
        go_wp2_with fail
        refine HP.out.mono ?_
        rintro e w3 ⟨rfl, hb3⟩
        have hbl3 := hbl.trans (hb3.mono hs1)
        go_wp2_with fail
        go_roundw
        case rel => exact ⟨k + 1, by omega, by go_num, hbl3, fun j hj => by
          rcases Nat.lt_or_ge j k with h | h
          · exact HF.out j h
          · rw [show j = k by omega]; exact HE.out⟩
        case measure => simp [intOf]; omega
    · have hrs : rsF t s.data.toList = -1 := by
        rcases rsF_cases HV.out s.data.toList with h | ⟨j, _, h2, h3, _⟩
        · exact h.1
        · exact absurd h3 (HF.out j (by rw [HNX.out] at h2; omega))
      have HRS := Lib.hid hrs
      clear hrs
      go_wp2_with fail
      go_ret
      exact ⟨ret_int (by rw [HRS.out]), hbl⟩
theorem ResolvePathS_any (lo : Nat) (A : Option Addr) (n c : Nat) (t : List Nd) (s : ByteArray) (w : World) (hr : Rd cN 3 w lo A n t) (hc : n ≤ c) (hz : NmB t) :
    Calls Try.prog 14 #[.slice A n c, .string s] w fun e w' => e = .returned (.int .i64 (rsF t s.data.toList)) ∧ Below w.heap.size w w' := by
  by_cases hv : VT t
  case neg =>
    have HC := Lib.hid (validTree_f lo A n c t w hr hc hz hv)
    rw [rsF_no hv]
    clear hv
    go_enter Try.func14, Try.ntmps14
    go_wp2_with fail
    refine HC.out.mono ?_
    rintro e w1 ⟨rfl, hb1⟩
    go_wp2_with fail
    go_ret
    exact ⟨rfl, hb1⟩
  have HC := Lib.hid (validTree_t lo A n c t w hr hc hz hv)
  have HV := Lib.hid hv
  clear hv
  go_enter Try.func14, Try.ntmps14
  go_wp2_with fail
  refine HC.out.mono ?_
  rintro e w1 ⟨rfl, hb1⟩
  have hs1 := hb1.size
  have HP := Lib.hid (resolveS_any lo A n c t s _ (hr.below hb1) HV.out)
  go_wp2_with fail
  refine HP.out.mono ?_
  rintro e w3 ⟨rfl, hb3⟩
  have HB := Lib.hid (hb1.trans (hb3.mono hs1))
  go_wp2_with fail
  go_ret
  exact ⟨rfl, HB.out⟩
end Go.Proofs.Ytmnlelpfbnagpaa
