/- The walk over the reference's WalkNodes; the draw of a tree and a node. -/
import Derived.Test.YtmnlelpfbnagpaaWalkS
import Derived.Test.YtmnlelpfbnagpaaDrawPath
namespace Go.Proofs.Ytmnlelpfbnagpaa
open Go.RowKit

theorem WalkNodesS_f (lo : Nat) (A : Option Addr) (n c : Nat) (t : List Nd) (a : Int) (w : World) (hr : Rd cN 3 w lo A n t) (hc : n ≤ c) (hz : NmB t) (h : ¬ IsNd t a) :
    Calls Try.prog 29 #[.slice A n c, .int .i64 a] w fun e w' => e = .returned (.slice none 0 0) ∧ Below w.heap.size w w' := by
  have hn := hr.le
  have HNX : Hid (t.length = n) := hr.len
  by_cases hv : VT t
  · have HC := Lib.hid (validTree_t lo A n c t w hr hc hz hv)
    have ha : ¬ (0 ≤ a ∧ a < n) := fun hh => h ⟨hv, hh.1, by rw [HNX.out]; exact hh.2⟩
    have HR := Lib.hid (fun w => inRange_f a 0 ((n : Int) - 1) w (by omega))
    clear h hv ha
    go_enter Try.func29, Try.ntmps29
    go_wp2_with fail
    refine HC.out.mono ?_
    rintro e w1 ⟨rfl, hb1⟩
    go_wp2_with fail
    refine (HR.out _).mono ?_
    rintro e w2 ⟨rfl, rfl⟩
    go_wp2_with fail
    go_ret
    exact ⟨rfl, hb1⟩
  · have HC := Lib.hid (validTree_f lo A n c t w hr hc hz hv)
    clear h hv
    go_enter Try.func29, Try.ntmps29
    go_wp2_with fail
    refine HC.out.mono ?_
    rintro e w1 ⟨rfl, hb1⟩
    go_wp2_with fail
    go_ret
    exact ⟨rfl, hb1⟩
theorem WalkNodesS_t (lo : Nat) (A : Option Addr) (n c : Nat) (t : List Nd) (a : Nat) (w : World) (hr : Rd cN 3 w lo A n t) (hc : n ≤ c) (hz : NmB t) (h : IsNd t (a : Int)) :
    Calls Try.prog 29 #[.slice A n c, .int .i64 (a : Int)] w (IntsP w (wkI t (a : Int))) := by
  have hn := hr.le
  have HNX : Hid (t.length = n) := hr.len
  have han : a < n := by have := h.2.2; have := HNX.out; omega
  have HC := Lib.hid (validTree_t lo A n c t w hr hc hz h.1)
  have HR := Lib.hid (fun w => inRange_t (a : Int) 0 ((n : Int) - 1) w (by omega) (by omega))
  have HV := Lib.hid h.1
  clear h
  go_enter Try.func29, Try.ntmps29
  go_wp2_with fail
  refine HC.out.mono ?_
  rintro e w1 ⟨rfl, hb1⟩
  have hs1 := hb1.size
  go_wp2_with fail
  refine (HR.out _).mono ?_
  rintro e w2 ⟨rfl, rfl⟩
  have HW := Lib.hid (walkS_any lo A n c t HV.out HNX.out n a _ (by omega) han (hr.below hb1))
  go_wp2_with fail
  refine HW.out.mono ?_
  rintro e w3 ⟨v3, rfl, ho3, hb3⟩
  have HO := Lib.hid (ho3.low hs1)
  have HB := Lib.hid (hb1.trans (hb3.mono hs1))
  clear ho3
  go_wp2_with fail
  go_ret
  exact ⟨v3, rfl, HO.out, HB.out⟩
theorem DrawWalkNodes_any (A : Option Addr) (n c : Nat) (zs : List Int) (w : World) (hr : Rd cB 1 w 0 A n zs) (hc : n ≤ c) (hz : ∀ (k : Nat) (z : Int), zs[k]? = some z → 0 ≤ z ∧ z ≤ 255) :
    Calls Try.prog 27 #[.slice A n c] w (TAtP w) := by
  go_enter Try.func27, Try.ntmps27
  go_wp2_with fail
  refine (DrawDropNode_any A n c zs _ hr hc hz).mono ?_
  rintro e w1 ⟨A2, n2, c2, t, x, rfl, hc2, h2, hn2, hz2, hb⟩
  go_wp2_with fail
  refine bodyPost_ret (v := .tuple #[.slice A2 n2 c2, .int .i64 x]) (by simp [results, Try.results27, go_sem]) rfl ?_
  exact ⟨A2, n2, c2, t, x, rfl, hc2, h2, hn2, hz2, hb⟩
end Go.Proofs.Ytmnlelpfbnagpaa
