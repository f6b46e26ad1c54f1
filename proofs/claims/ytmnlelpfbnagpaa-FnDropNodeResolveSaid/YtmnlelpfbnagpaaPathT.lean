/- The walks over PathText. -/
import Derived.Test.YtmnlelpfbnagpaaPathB
import Derived.Test.YtmnlelpfbnagpaaPathW2
import Derived.Test.YtmnlelpfbnagpaaBldW
import Derived.Test.YtmnlelpfbnagpaaShelfA
namespace Go.Proofs.Ytmnlelpfbnagpaa
open Go.RowKit

theorem PathText_n (lo : Nat) (A : Option Addr) (n c : Nat) (t : List Nd) (a : Int) (w : World) (hr : Rd cN 3 w lo A n t) (hc : n ≤ c) (h : ¬ IsNd t a) :
    Calls Try.prog 17 #[.slice A n c, .int .i64 a] w fun e w' => e = .returned (.string ⟨(ptF t a).toArray⟩) ∧ Below w.heap.size w w' := by
  have HC := Lib.hid (PathTo_f lo A n c t a w hr hc h)
  rw [ptF_no h]
  clear h
  go_enter Try.func17, Try.ntmps17
  go_wp2_with fail
  refine HC.out.mono ?_
  rintro e w1 ⟨rfl, hb1⟩
  go_wp2_with fail
  go_ret
  exact ⟨rfl, hb1⟩
set_option maxHeartbeats 2000000 in
theorem PathText_any (lo : Nat) (A : Option Addr) (n c : Nat) (t : List Nd) (a : Int) (w : World) (hr : Rd cN 3 w lo A n t) (hc : n ≤ c) :
    Calls Try.prog 17 #[.slice A n c, .int .i64 a] w fun e w' => e = .returned (.string ⟨(ptF t a).toArray⟩) ∧ Below w.heap.size w w' := by
  by_cases h : IsNd t a
  case neg => exact PathText_n lo A n c t a w hr hc h
  have HC := Lib.hid (PathTo_t lo A n c t a w hr hc h)
  have HN := Lib.hid h
  have HPL := Lib.hid h.path_len
  rw [ptF_yes h]
  rcases path_two h with ⟨h1, rfl⟩ | ⟨h2, ha⟩
  · have HP : Hid (pathL t 0 = [0]) := pathL_top h.1
    clear h h1
    go_enter Try.func17, Try.ntmps17
    go_wp2_with fail
    refine HC.out.mono ?_
    rintro e w1 ⟨v, rfl, ho, hb1⟩
    rw [HP.out] at ho
    obtain ⟨g, m, cap, rfl, _, _, _, rfl⟩ := ho.form (by simp)
    go_wp2_with fail
    go_ret
    exact ⟨rfl, hb1⟩
  · have HA := Lib.hid ha
    have HT : Hid (ptL t a = txL t a) := by show _ = _; unfold ptL; rw [if_neg (by omega)]
    have HNX : Hid (t.length = n) := hr.len
    clear h ha
    go_enter Try.func17, Try.ntmps17
    go_wp2_with fail
    refine HC.out.mono ?_
    rintro e w1 ⟨v, rfl, ho, hb1⟩
    obtain ⟨g, m, cap, rfl, hgb, hgs, hmc, hm⟩ := ho.form (by omega)
    have hrd := (ho.rds elI.len (by have := HPL.out.1; omega)).2
    have hm2 : 2 ≤ m := by omega
    have hm5 : m ≤ 5 := by have := HPL.out.1; omega
    have HM := Lib.hid hm
    have hs1 := hb1.size
    have HB0 : Hid (Bld (w1.alloc (.cells #[.pointer none, .slice none 0 0] 60)) w1.heap.size w1.heap.size []) := Lib.fresh_isBuilder _ _ _
    have hm1 : (1 : Int) ≤ m := by omega
    have hc1 : (m : Int) ≤ cap := by omega
    have hm0 : ((m : Int) == 0) = false := by simp; omega
    have hm11 : ((m : Int) == 1) = false := by simp; omega
    clear hm h2 ho
    go_wp2_with fail
    go_loopw [8, 21] (fun _ i wr => ∃ k : Nat, k ≤ m - 1 ∧ i = .int .i64 k ∧ Below w1.heap.size w1 wr ∧ Bld wr w1.heap.size w1.heap.size (pfx t a k) ∧ (pfx t a k).length ≤ 5 * k) (fun _ i _ => m - (intOf i).toNat)
    case atStart => exact ⟨0, Nat.zero_le _, rfl, (Below.refl _ _).alloc (Nat.le_refl _) _, HB0.out, by rw [pfx_zero]; simp⟩
    case round =>
      rename World => W1
      obtain ⟨k, hk, rfl, hbl, hB, hpl⟩ := hrel
      have hs2 := hbl.size
      by_cases hlt : k < m - 1
      · obtain ⟨b, o, z, e0, _, _, hz, g0⟩ := (hrd.below hbl).atI (k := k + 1) (by omega)
        simp only [Option.some.injEq, Addr.mk.injEq, and_true] at e0
        obtain ⟨rfl, rfl⟩ := e0
        obtain ⟨j, x, rfl, hj0, hx, hxs, hpx⟩ := path_at HN.out hz
        have g1 : W1.cell? ⟨g, 1 + k, none⟩ = some (.int .i64 j) := by rw [← g0]; congr 2; omega
        have hbw := hb1.trans (hbl.mono hs1)
        have hjn : j < n := by have := (List.getElem?_eq_some_iff.1 hx).1; have := HNX.out; omega
        have HPX := Lib.hid hpx
        have HX := Lib.hid hx
        clear hpx hz g0 hx
        go_wp2_with fail
        refine (WriteByte_any _ _ _ _ hB (by omega) hs2).mono ?_
        rintro e w3 ⟨rfl, hB3, hb3⟩
        have hbl3 := hbl.trans hb3
        have hs3 := hbl3.size
        have hbw3 := hb1.trans (hbl3.mono hs1)
        obtain ⟨b, o, y, rfl, _, _, hy, _, d1, _⟩ := (hr.below hbw3).atN (k := j) hjn
        have ey : y = x := by have := HX.out.symm.trans hy; injection this with this; exact this.symm
        subst ey
        clear hy
        go_wp2_with fail
        refine (WriteString_any _ _ _ y.name _ hB3 (by simp; omega) hs3).mono ?_
        rintro e w4 ⟨⟨z4, rfl⟩, hB4, hb4⟩
        have hbl4 := hbl3.trans hb4
        go_wp2_with fail
        go_roundw
        case rel => exact ⟨k + 1, by omega, by go_num, hbl4, by rw [HPX.out, List.append_cons]; exact hB4, by rw [HPX.out]; simp only [List.length_append, List.length_cons]; rw [← Lib.size_eq]; omega⟩
        case measure => simp [intOf]; omega
      · have ek : k = m - 1 := by omega
        subst ek
        have HPA : Hid (pfx t a (m - 1) = txL t a) := pfx_all (by have := HM.out; omega)
        have hBs := Lib.hid (Try.Builder_String_any _ _ _ _ hB hs2)
        clear hB
        go_wp2_with fail
        refine hBs.out.mono ?_
        rintro e w3 ⟨rfl, hb3⟩
        have HBE := Lib.hid (hb1.trans ((hbl.trans hb3).mono hs1))
        go_wp2_with fail
        go_ret
        exact ⟨by rw [HT.out, ← HPA.out]; rfl, HBE.out⟩
end Go.Proofs.Ytmnlelpfbnagpaa
