/- The walk over the comparison of two children by their names. -/
import Derived.Test.YtmnlelpfbnagpaaShelfB
import Derived.Test.YtmnlelpfbnagpaaWalkP
import Derived.Test.YtmnlelpfbnagpaaWords6
import Derived.BigQuiet
namespace Go.Proofs.Ytmnlelpfbnagpaa
open Go.RowKit

set_option maxHeartbeats 1000000 in
theorem cmp_any (X lo : Nat) (A : Option Addr) (n c : Nat) (t : List Nd) (x y : Nat) (w : World) (hX : w.cell? ⟨X, 0, none⟩ = some (.slice A n c)) (hr : Rd cN 3 w lo A n t) (hx : x < n) (hy : y < n) :
    Calls Try.prog 69 #[.int .i64 x, .int .i64 y, .pointer (some ⟨X, 0, none⟩)] w fun e w' => e = .returned (.int .i64 (Lib.compareBytes (nmL t x) (nmL t y))) ∧ ∃ q, w' = w.drewN q := by
  obtain ⟨b, o, u, rfl, _, _, hu, _, g1, _⟩ := hr.atN hx
  obtain ⟨b2, o2, v, e0, _, _, hv, _, k1, _⟩ := hr.atN hy
  simp only [Option.some.injEq, Addr.mk.injEq, and_true] at e0
  obtain ⟨rfl, rfl⟩ := e0
  have e1 : nmL t (x : Int) = u.name.data.toList := by unfold nmL; rw [Int.toNat_natCast, hu, ← Lib.toList_data]
  have e2 : nmL t (y : Int) = v.name.data.toList := by unfold nmL; rw [Int.toNat_natCast, hv, ← Lib.toList_data]
  rw [e1, e2]
  have HC := Lib.hid (fun W => Try.strings_Compare u.name v.name W)
  have hx' : (x : Int) < (n : Int) := by omega
  have hy' : (y : Int) < (n : Int) := by omega
  clear e1 e2 hu hv hr
  go_enter Try.func69, Try.ntmps69
  go_wp2_with fail
  go_quiet ((go_at_call 70; refine Calls.quiet_of_same (HC.out _)))
  go_wp2
  go_ret
  exact ⟨rfl, _, rfl⟩
end Go.Proofs.Ytmnlelpfbnagpaa
