/- The walks over the modes: isMode, GoTogether, JoinModes, IsStronger, NeedAbove; the reference's joined, goTogether, needAbove; isAsk. -/
import Derived.Test.YtgpocjehiohimaaDoorRows
import Derived.Test.YtgpocjehiohimaaDoorModeP
import Derived.Test.YtgpocjehiohimaaDoorTabP
import Derived.Test.YtgpocjehiohimaaDoorTreeW
namespace Go.Proofs.YtgpocjehiohimaaDoor
open Go.RowKit

/-- The program's two tables lie in memory as their initialisers lay them. -/
def Tb (w : World) : Prop := 2 ≤ w.heap.size ∧ ∀ i j : Nat, i < 6 → j < 6 → w.cell? ⟨0, i * 6 + j, none⟩ = some (.int .i64 (joinF i j)) ∧ w.cell? ⟨1, i * 6 + j, none⟩ = some (.bool (togF i j))
theorem Tb.keep {w w' : World} (h : Tb w) (hs : w.heap.size ≤ w'.heap.size) (hk : ∀ b, b < 2 → w'.heap[b]? = w.heap[b]?) : Tb w' :=
  ⟨by have := h.1; omega, fun i j hi hj => ⟨(World.cell?_of_block (hk 0 (by omega))).trans (h.2 i j hi hj).1, (World.cell?_of_block (hk 1 (by omega))).trans (h.2 i j hi hj).2⟩⟩
theorem Tb.below {w w' : World} (h : Tb w) (hb : Below w.heap.size w w') : Tb w' := h.keep hb.size fun b hlt => hb.block b (by have := h.1; omega)
theorem Tb.grown {w w' : World} {R : Nat} (h : Tb w) (hb : w.grownBy w' (some R)) (hR : 2 ≤ R) : Tb w' := h.keep hb.size fun b hlt => hb.block b (by have := h.1; omega) (by intro e; injection e with e; omega)
theorem Tb.grown0 {w w' : World} (h : Tb w) (hb : w.grownBy w' none) : Tb w' := h.keep hb.size fun b hlt => hb.block b (by have := h.1; omega) (by simp)
theorem Tb.alloc {w : World} (h : Tb w) (o : Obj) : Tb (w.alloc o) := h.below ((Below.refl _ _).alloc (Nat.le_refl _) o)
theorem Tb.drew {w : World} (h : Tb w) : Tb w.drew := h

theorem isMode_t (m : Int) (w : World) (h : IsM m) : Calls Tryd.prog 84 #[.int .i64 m] w fun e w' => e = .returned (.bool true) ∧ w = w' := by
  obtain ⟨h1, h2⟩ := h
  go_enter Tryd.func84, Tryd.ntmps84
  go_wp2_with (go_at_call 61; refine (within_t _ _ _ _ h1 h2).mono ?_; rintro e w' ⟨rfl, rfl⟩)
  go_ret
  exact ⟨rfl, rfl⟩

theorem GoTogether_t (a b : Int) (w : World) (ha : IsM a) (hb : IsM b) (hT : Tb w) : Calls Tryd.prog 72 #[.int .i64 a, .int .i64 b] w fun e w' => e = .returned (.bool (togF a b)) ∧ w = w' := by
  obtain ⟨i, rfl⟩ := Int.eq_ofNat_of_zero_le ha.1
  obtain ⟨j, rfl⟩ := Int.eq_ofNat_of_zero_le hb.1
  have hi : (i : Int) < 6 := by have := ha.2; omega
  have hj : (j : Int) < 6 := by have := hb.2; omega
  have c := (hT.2 i j (by omega) (by omega)).2
  generalize togF i j = v at c
  clear hT
  go_enter Tryd.func72, Tryd.ntmps72
  go_wp2_with (go_at_call 84; refine (isMode_t _ _ (by first | exact ha | exact hb)).mono ?_; rintro e w' ⟨rfl, rfl⟩)
  go_ret
  exact ⟨rfl, rfl⟩
theorem JoinModes_t (a b : Int) (w : World) (ha : IsM a) (hb : IsM b) (hT : Tb w) : Calls Tryd.prog 70 #[.int .i64 a, .int .i64 b] w fun e w' => e = .returned (.int .i64 (joinF a b)) ∧ w = w' := by
  obtain ⟨i, rfl⟩ := Int.eq_ofNat_of_zero_le ha.1
  obtain ⟨j, rfl⟩ := Int.eq_ofNat_of_zero_le hb.1
  have hi : (i : Int) < 6 := by have := ha.2; omega
  have hj : (j : Int) < 6 := by have := hb.2; omega
  have c := (hT.2 i j (by omega) (by omega)).1
  generalize joinF i j = v at c
  clear hT
  go_enter Tryd.func70, Tryd.ntmps70
  go_wp2_with (go_at_call 84; refine (isMode_t _ _ (by first | exact ha | exact hb)).mono ?_; rintro e w' ⟨rfl, rfl⟩)
  go_ret
  exact ⟨rfl, rfl⟩

theorem m6 {a : Int} (ha : IsM a) : a = 0 ∨ a = 1 ∨ a = 2 ∨ a = 3 ∨ a = 4 ∨ a = 5 := by
  obtain ⟨h1, h2⟩ := ha; omega

theorem NeedAbove_t (a : Int) (w : World) (ha : IsM a) : Calls Tryd.prog 83 #[.int .i64 a] w fun e w' => e = .returned (.int .i64 (needF a)) ∧ w = w' := by
  rcases m6 ha with rfl | rfl | rfl | rfl | rfl | rfl
  all_goals (
    go_enter Tryd.func83, Tryd.ntmps83
    go_wp2_with fail
    go_ret
    exact ⟨rfl, rfl⟩)
theorem needAbove_t (a : Int) (w : World) (ha : IsM a) : Calls Tryd.prog 65 #[.int .i64 a] w fun e w' => e = .returned (.int .i64 (needF a)) ∧ w = w' := by
  rcases m6 ha with rfl | rfl | rfl | rfl | rfl | rfl
  all_goals (
    go_enter Tryd.func65, Tryd.ntmps65
    go_wp2_with fail
    go_ret
    exact ⟨rfl, rfl⟩)

theorem joined_t (a b : Int) (w : World) (ha : IsM a) (hb : IsM b) : Calls Tryd.prog 48 #[.int .i64 a, .int .i64 b] w fun e w' => e = .returned (.int .i64 (joinF a b)) ∧ w = w' := by
  rcases m6 ha with rfl | rfl | rfl | rfl | rfl | rfl <;> rcases m6 hb with rfl | rfl | rfl | rfl | rfl | rfl
  all_goals (
    clear ha hb
    go_enter Tryd.func48, Tryd.ntmps48
    go_wp2_with fail
    go_ret
    exact ⟨ret_int (by decide), rfl⟩)

theorem goTogether_t (a b : Int) (w : World) (ha : IsM a) (hb : IsM b) : Calls Tryd.prog 66 #[.int .i64 a, .int .i64 b] w fun e w' => e = .returned (.bool (togF a b)) ∧ w = w' := by
  rcases m6 ha with rfl | rfl | rfl | rfl | rfl | rfl <;> rcases m6 hb with rfl | rfl | rfl | rfl | rfl | rfl
  all_goals (
    clear ha hb
    go_enter Tryd.func66, Tryd.ntmps66
    go_wp2_with fail
    go_ret
    exact ⟨ret_bool (by decide), rfl⟩)

theorem isAsk_t (a b c : Int) (w : World) (h : OkAsk a b c) : Calls Tryd.prog 69 #[.int .i64 a, .int .i64 b, .int .i64 c] w fun e w' => e = .returned (.bool true) ∧ w = w' := by
  obtain ⟨⟨h1, h2⟩, ⟨h3, h4⟩, h5, h6⟩ := h
  go_enter Tryd.func69, Tryd.ntmps69
  go_wp2_with (go_at_call 61; refine (within_t _ _ _ _ (by omega) (by omega)).mono ?_; rintro e w' ⟨rfl, rfl⟩)
  go_ret
  exact ⟨rfl, rfl⟩
theorem isAsk_f (a b c : Int) (w : World) (h : ¬ OkAsk a b c) : Calls Tryd.prog 69 #[.int .i64 a, .int .i64 b, .int .i64 c] w fun e w' => e = .returned (.bool false) ∧ w = w' := by
  by_cases h1 : 0 ≤ a ∧ a ≤ 3
  case neg =>
    have h1' : a < 0 ∨ 3 < a := by omega
    clear h h1
    go_enter Tryd.func69, Tryd.ntmps69
    go_wp2_with (go_at_call 61; refine (within_f _ _ _ _ (by omega)).mono ?_; rintro e w' ⟨rfl, rfl⟩)
    go_ret
    exact ⟨rfl, rfl⟩
  by_cases h2 : 0 ≤ b ∧ b ≤ 11
  case neg =>
    have h2' : b < 0 ∨ 11 < b := by omega
    clear h h2
    go_enter Tryd.func69, Tryd.ntmps69
    go_wp2_with (go_at_call 61; first | (refine (within_t _ _ _ _ (by omega) (by omega)).mono ?_; rintro e w' ⟨rfl, rfl⟩) | (refine (within_f _ _ _ _ (by omega)).mono ?_; rintro e w' ⟨rfl, rfl⟩))
    go_ret
    exact ⟨rfl, rfl⟩
  have h3 : c < 1 ∨ 5 < c := by unfold OkAsk at h; omega
  clear h
  go_enter Tryd.func69, Tryd.ntmps69
  go_wp2_with (go_at_call 61; first | (refine (within_t _ _ _ _ (by omega) (by omega)).mono ?_; rintro e w' ⟨rfl, rfl⟩) | (refine (within_f _ _ _ _ (by omega)).mono ?_; rintro e w' ⟨rfl, rfl⟩))
  go_ret
  exact ⟨rfl, rfl⟩
end Go.Proofs.YtgpocjehiohimaaDoor
