/- The walks over DrawAccessesOf, DrawLockPointOrder. -/
import Derived.Test.YtddpdcnbdbnljaaDoorDrawStep
namespace Go.Proofs.YtddpdcnbdbnljaaDoor
open Go.RowKit

/-- Steps are drawn. -/
def STP (w : World) (e : Ending) (w' : World) : Prop := ∃ (A : Option Addr) (n c : Nat) (list : List St), e = .returned (.slice A n c) ∧ n ≤ c ∧ Rd cS 4 w' w.heap.size A n list ∧ n ≤ 17 ∧ Below w.heap.size w w'
theorem DrawAccessesOf_any (A : Option Addr) (n c : Nat) (zs : List Int) (w : World) (hr : Rd cB 1 w 0 A n zs) (hc : n ≤ c) (hz : ∀ (k : Nat) (z : Int), zs[k]? = some z → 0 ≤ z ∧ z ≤ 255) :
    Calls Tryd.prog 18 #[.slice A n c] w (STP w) := by
  go_enter Tryd.func18, Tryd.ntmps18
  go_wp2_with fail
  refine (newReader_any A n c zs _ hr hc hz).mono ?_
  rintro e w1 ⟨rfl, hr1, hb1⟩
  have hs1 := hr1.lt
  clear hr hz
  go_wp2_with fail
  refine (someSteps_any _ 0 _ hr1 (by omega)).mono ?_
  rintro e w2 ⟨v2, l, rfl, ho2, hl, ⟨p2, hp2, hr2⟩, hg2⟩
  obtain ⟨A2, n2, c2, rfl, hc2, hrd2⟩ := ho2.rdn elS.len (by omega)
  have hn2 : n2 ≤ 17 := by have := hrd2.len; omega
  go_wp2_with fail
  go_ret
  exact ⟨A2, n2, c2, l, rfl, hc2, hrd2.low hb1.size, hn2, below_of_grown hb1 hg2 (by omega)⟩
theorem DrawLockPointOrder_any (A : Option Addr) (n c : Nat) (zs : List Int) (w : World) (hr : Rd cB 1 w 0 A n zs) (hc : n ≤ c) (hz : ∀ (k : Nat) (z : Int), zs[k]? = some z → 0 ≤ z ∧ z ≤ 255) :
    Calls Tryd.prog 24 #[.slice A n c] w (STP w) := by
  go_enter Tryd.func24, Tryd.ntmps24
  go_wp2_with fail
  refine (newReader_any A n c zs _ hr hc hz).mono ?_
  rintro e w1 ⟨rfl, hr1, hb1⟩
  have hs1 := hr1.lt
  clear hr hz
  go_wp2_with fail
  refine (someSteps_any _ 0 _ hr1 (by omega)).mono ?_
  rintro e w2 ⟨v2, l, rfl, ho2, hl, ⟨p2, hp2, hr2⟩, hg2⟩
  obtain ⟨A2, n2, c2, rfl, hc2, hrd2⟩ := ho2.rdn elS.len (by omega)
  have hn2 : n2 ≤ 17 := by have := hrd2.len; omega
  go_wp2_with fail
  go_ret
  exact ⟨A2, n2, c2, l, rfl, hc2, hrd2.low hb1.size, hn2, below_of_grown hb1 hg2 (by omega)⟩
end Go.Proofs.YtddpdcnbdbnljaaDoor
