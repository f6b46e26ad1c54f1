/- The walk over equalInts (lists that are the same). -/
import Derived.Test.YtmnlelpfbnagpaaElems
import Derived.Test.YtmnlelpfbnagpaaWords4
namespace Go.Proofs.Ytmnlelpfbnagpaa
open Go.RowKit

theorem equalInts_t (lo lo2 : Nat) (A A2 : Option Addr) (n c n2 c2 : Nat) (l : List Int) (w : World) (hr : Rd cI 1 w lo A n l) (hr2 : Rd cI 1 w lo2 A2 n2 l) :
    Calls Try.prog 28 #[.slice A n c, .slice A2 n2 c2] w fun e w' => e = .returned (.bool true) ∧ Below w.heap.size w w' := by
  have hn := hr.le
  obtain rfl : n2 = n := hr2.len.symm.trans hr.len
  go_enter Try.func28, Try.ntmps28
  go_wp2_with fail
  go_loopw [5] (fun i wr => ∃ k : Nat, k ≤ n2 ∧ i = .int .i64 k ∧ Below w.heap.size w wr) (fun i _ => n2 - (intOf i).toNat)
  case atStart => exact ⟨0, Nat.zero_le _, rfl, Below.refl _ _⟩
  case round =>
    obtain ⟨k, hk, rfl, hbl⟩ := hrel
    by_cases hlt : k < n2
    case neg =>
      go_wp2_with fail
      go_ret
      exact ⟨rfl, hbl⟩
    obtain ⟨b, o, x, rfl, _, hb, hx, g0⟩ := (hr.below hbl).atI hlt
    obtain ⟨b2, o2, y, rfl, _, hb2, hy, d0⟩ := (hr2.below hbl).atI hlt
    rw [hx] at hy
    injection hy with hy
    subst hy
    have a0 := aft g0
    have b0 := aft d0
    clear hx hr hr2
    go_wp2_with fail
    refine wp_region_after (by kernel_rfl) (by kernel_rfl) ?_
    repeat (go_big_quiet_step (fail))
    refine wpQuiet_nil ?_
    intro w1 hb1
    go_wp2_with fail
    go_roundw
    case rel => exact ⟨k + 1, by omega, by go_num, hbl.trans (hb1.mono hbl.size)⟩
    case measure => simp [intOf]; omega
end Go.Proofs.Ytmnlelpfbnagpaa
