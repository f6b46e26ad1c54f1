/- The walks over DrawValidLog and its kin. -/
import Derived.Test.YtpklfhefhfkkhaaSomeLog
namespace Go.Proofs.Ytpklfhefhfkkhaa
open Go.RowKit

/-- A tree and a log are drawn. -/
def TLP (w : World) (e : Ending) (w' : World) : Prop := ∃ (A : Option Addr) (n c : Nat) (t : List Nd) (A2 : Option Addr) (m c2 : Nat) (log : List Rc),
  e = .returned (.tuple #[.slice A n c, .slice A2 m c2]) ∧ n ≤ c ∧ Rd cN 3 w' w.heap.size A n t ∧ n ≤ 13 ∧ NmB t ∧ m ≤ c2 ∧ Rd cR 4 w' w.heap.size A2 m log ∧ m ≤ 17 ∧ Below w.heap.size w w'

theorem below_of_grown {w w1 w2 : World} (h1 : Below w.heap.size w w1) {R : Nat} (h2 : w1.grownBy w2 (some R)) (hR : w.heap.size ≤ R) : Below w.heap.size w w2 :=
  h1.grown h2 h1.size fun k hk => by injection hk with hk; omega

theorem DrawValidLog_any (A : Option Addr) (n c : Nat) (zs : List Int) (w : World) (hr : Rd cB 1 w 0 A n zs) (hc : n ≤ c) (hz : ∀ (k : Nat) (z : Int), zs[k]? = some z → 0 ≤ z ∧ z ≤ 255) :
    Calls Try.prog 10 #[.slice A n c] w (TLP w) := by
  go_enter Try.func10, Try.ntmps10
  go_wp2_with fail
  refine (newReader_any A n c zs _ hr hc hz).mono ?_
  rintro e w1 ⟨rfl, hr1, hb1⟩
  go_wp2_with fail
  refine (anyTree_any _ 0 _ hr1 (by omega)).mono ?_
  rintro e w2 ⟨A2, n2, c2, t, rfl, hc2, hrd2, hn2, hz2, ⟨p2, hp2, hr2⟩, hg2⟩
  have hb2 := below_of_grown hb1 hg2 (Nat.le_refl _)
  go_wp2_with fail
  refine (someLog_any _ p2 A2 n2 c2 _ hr2 (by omega) (by omega)).mono ?_
  rintro e w3 ⟨A3, n3, c3, log, rfl, hc3, hrd3, hn3, ⟨p3, hp3, hr3⟩, hg3⟩
  have hb3 := below_of_grown hb2 hg3 (Nat.le_refl _)
  have hs1 := hr1.lt
  have hrd2' := hrd2.grown hg3 hs1
  have hsz := hb2.size
  go_wp2_with fail
  go_ret2
  exact ⟨_, _, _, t, _, _, _, log, rfl, hc2, hrd2'.low hb1.size, hn2, hz2, hc3, hrd3.low hsz, hn3, hb3⟩

theorem DrawRedoLog_any (A : Option Addr) (n c : Nat) (zs : List Int) (w : World) (hr : Rd cB 1 w 0 A n zs) (hc : n ≤ c) (hz : ∀ (k : Nat) (z : Int), zs[k]? = some z → 0 ≤ z ∧ z ≤ 255) :
    Calls Try.prog 19 #[.slice A n c] w (TLP w) := by
  go_enter Try.func19, Try.ntmps19
  go_wp2_with fail
  refine (DrawValidLog_any A n c zs _ hr hc hz).mono ?_
  rintro e w1 ⟨A1, n1, c1, t, A2, m, c2, log, rfl, h⟩
  go_wp2_with fail
  go_ret2
  exact ⟨A1, n1, c1, t, A2, m, c2, log, rfl, h⟩
theorem DrawLosersOf_any (A : Option Addr) (n c : Nat) (zs : List Int) (w : World) (hr : Rd cB 1 w 0 A n zs) (hc : n ≤ c) (hz : ∀ (k : Nat) (z : Int), zs[k]? = some z → 0 ≤ z ∧ z ≤ 255) :
    Calls Try.prog 24 #[.slice A n c] w (TLP w) := by
  go_enter Try.func24, Try.ntmps24
  go_wp2_with fail
  refine (DrawValidLog_any A n c zs _ hr hc hz).mono ?_
  rintro e w1 ⟨A1, n1, c1, t, A2, m, c2, log, rfl, h⟩
  go_wp2_with fail
  go_ret2
  exact ⟨A1, n1, c1, t, A2, m, c2, log, rfl, h⟩
end Go.Proofs.Ytpklfhefhfkkhaa
