/- The walks over the reference's DropNode; both in one form. -/
import Derived.Test.YtmnlelpfbnagpaaDropW
namespace Go.Proofs.Ytmnlelpfbnagpaa
open Go.RowKit

theorem DropNodeS_n (lo : Nat) (A : Option Addr) (n c : Nat) (t : List Nd) (a : Int) (w : World) (hr : Rd cN 3 w lo A n t) (hc : n ≤ c) (hz : NmB t) (h : ¬ (IsNd t a ∧ 0 < a)) :
    Calls Try.prog 25 #[.slice A n c, .int .i64 a] w fun e w' => e = .returned (.tuple #[.slice none 0 0, .bool false]) ∧ Below w.heap.size w w' := by
  have hn := hr.le
  have HNX : Hid (t.length = n) := hr.len
  by_cases hv : VT t
  · have HC := Lib.hid (validTree_t lo A n c t w hr hc hz hv)
    have ha : ¬ (1 ≤ a ∧ a < n) := fun hh => h ⟨⟨hv, by omega, by rw [HNX.out]; exact hh.2⟩, by omega⟩
    have HR := Lib.hid (fun w => inRange_f a 1 ((n : Int) - 1) w (by omega))
    clear h hv ha
    go_enter Try.func25, Try.ntmps25
    go_wp2_with fail
    refine HC.out.mono ?_
    rintro e w1 ⟨rfl, hb1⟩
    go_wp2_with fail
    refine (HR.out _).mono ?_
    rintro e w2 ⟨rfl, rfl⟩
    go_wp2_with fail
    refine bodyPost_ret (v := .tuple #[.slice none 0 0, .bool false]) (by simp [results, Try.results25, go_sem]) rfl ?_
    exact ⟨rfl, hb1⟩
  · have HC := Lib.hid (validTree_f lo A n c t w hr hc hz hv)
    clear h hv
    go_enter Try.func25, Try.ntmps25
    go_wp2_with fail
    refine HC.out.mono ?_
    rintro e w1 ⟨rfl, hb1⟩
    go_wp2_with fail
    refine bodyPost_ret (v := .tuple #[.slice none 0 0, .bool false]) (by simp [results, Try.results25, go_sem]) rfl ?_
    exact ⟨rfl, hb1⟩
theorem DropNodeS_t (lo : Nat) (A : Option Addr) (n c : Nat) (t : List Nd) (a : Int) (w : World) (hr : Rd cN 3 w lo A n t) (hc : n ≤ c) (hz : NmB t) (h : IsNd t a) (ha : 0 < a) :
    Calls Try.prog 25 #[.slice A n c, .int .i64 a] w (DropQ w (drF t a)) := by
  have hn := hr.le
  have HNX : Hid (t.length = n) := hr.len
  have HC := Lib.hid (validTree_t lo A n c t w hr hc hz h.1)
  have HR := Lib.hid (fun w => inRange_t a 1 ((n : Int) - 1) w (by omega) (by have := h.2.2; rw [HNX.out] at this; omega))
  have HV := Lib.hid h.1
  clear h
  go_enter Try.func25, Try.ntmps25
  go_wp2_with fail
  refine HC.out.mono ?_
  rintro e w1 ⟨rfl, hb1⟩
  have hs1 := hb1.size
  go_wp2_with fail
  refine (HR.out _).mono ?_
  rintro e w2 ⟨rfl, rfl⟩
  have HW := Lib.hid (without_any lo A n c t a _ (hr.below hb1) HV.out ha)
  go_wp2_with fail
  refine HW.out.mono ?_
  rintro e w3 ⟨v3, rfl, ho3, hb3⟩
  have HO := Lib.hid (ho3.low hs1)
  have HB := Lib.hid (hb1.trans (hb3.mono hs1))
  clear ho3
  go_wp2_with fail
  refine bodyPost_ret (v := .tuple #[v3, .bool true]) (by simp [results, Try.results25, go_sem]) rfl ?_
  exact ⟨v3, rfl, HO.out, HB.out⟩
end Go.Proofs.Ytmnlelpfbnagpaa
