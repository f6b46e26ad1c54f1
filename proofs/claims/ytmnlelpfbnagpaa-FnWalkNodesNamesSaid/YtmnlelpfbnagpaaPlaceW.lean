/- The walks over isIn of both, placeOf, slices.Index and slices.Contains of numbers. -/
import Derived.Test.YtmnlelpfbnagpaaElems
import Derived.Test.YtmnlelpfbnagpaaInts
import Derived.Test.YtmnlelpfbnagpaaPlaceP
namespace Go.Proofs.Ytmnlelpfbnagpaa
open Go.RowKit

theorem isIn_any (lo : Nat) (A : Option Addr) (n c : Nat) (l : List Int) (z : Int) (w : World) (hr : Rd cI 1 w lo A n l) :
    Calls Try.prog 32 #[.slice A n c, .int .i64 z] w fun e w' => e = .returned (.bool (decide (z ∈ l))) ∧ w = w' := by
  have hn := hr.le
  have HL := Lib.hid hr.len
  generalize hR : decide (z ∈ l) = R
  have HR := Lib.hid hR
  clear hR
  go_enter Try.func32, Try.ntmps32
  go_wp2_with fail
  go_loop [5] (fun i => ∃ k : Nat, k ≤ n ∧ i = .int .i64 k ∧ ∀ (j : Nat) (y : Int), j < k → l[j]? = some y → y ≠ z) (fun i => n - (intOf i).toNat)
  case atStart => exact ⟨0, Nat.zero_le _, rfl, fun j y h => by omega⟩
  case round =>
    obtain ⟨k, hk, rfl, hall⟩ := hrel
    have HALL := Lib.hid hall
    clear hall
    by_cases hlt : k < n
    case neg =>
      have : R = false := by
        rw [← HR.out]
        refine decide_eq_false fun hm => ?_
        obtain ⟨j, hj⟩ := List.mem_iff_getElem?.1 hm
        have h1 := (List.getElem?_eq_some_iff.1 hj).1
        have h2 := HL.out
        exact HALL.out j z (by omega) hj rfl
      subst this
      go_wp2_with fail
      go_ret
      exact ⟨rfl, rfl⟩
    obtain ⟨b, o, x, rfl, _, hb, hx, g0⟩ := hr.atI hlt
    by_cases e1 : x = z
    · subst e1
      have : R = true := by rw [← HR.out]; exact decide_eq_true (List.mem_of_getElem? hx)
      subst this
      clear hx
      go_wp2_with fail
      go_ret
      exact ⟨rfl, rfl⟩
    · have e2 : (x == z) = false := by simpa using e1
      have HN : Hid (∀ (j : Nat) (y : Int), j < k + 1 → l[j]? = some y → y ≠ z) := fun j y hj hy => by
        by_cases e : j = k
        · subst e; rw [hx] at hy; injection hy with hy; subst hy; exact e1
        · exact HALL.out j y (by omega) hy
      clear hx e1
      go_wp2_with fail
      go_round
      case rel => exact ⟨k + 1, by omega, by go_num, HN.out⟩
      case measure => simp [intOf]; omega
theorem placeOf_any (lo : Nat) (A : Option Addr) (n c : Nat) (l : List Int) (z : Int) (w : World) (hr : Rd cI 1 w lo A n l) :
    Calls Try.prog 30 #[.slice A n c, .int .i64 z] w fun e w' => e = .returned (.int .i64 (plF l z)) ∧ w = w' := by
  have hn := hr.le
  have HL := Lib.hid hr.len
  generalize hR : plF l z = R
  have HR := Lib.hid hR
  clear hR
  go_enter Try.func30, Try.ntmps30
  go_wp2_with fail
  go_loop [5] (fun i => ∃ k : Nat, k ≤ n ∧ i = .int .i64 k ∧ ∀ (j : Nat) (y : Int), j < k → l[j]? = some y → y ≠ z) (fun i => n - (intOf i).toNat)
  case atStart => exact ⟨0, Nat.zero_le _, rfl, fun j y h => by omega⟩
  case round =>
    obtain ⟨k, hk, rfl, hall⟩ := hrel
    have HALL := Lib.hid hall
    clear hall
    by_cases hlt : k < n
    case neg =>
      have : R = -1 := by
        rw [← HR.out]
        exact plF_miss fun j y hj hy => HALL.out j y (by have := HL.out; omega) hy
      subst this
      go_wp2_with fail
      go_ret
      exact ⟨rfl, rfl⟩
    obtain ⟨b, o, x, rfl, _, hb, hx, g0⟩ := hr.atI hlt
    by_cases e1 : x = z
    · subst e1
      have : R = k := by rw [← HR.out]; exact plF_hit hx HALL.out
      subst this
      clear hx
      go_wp2_with fail
      go_ret
      exact ⟨rfl, rfl⟩
    · have e2 : (x == z) = false := by simpa using e1
      have HN : Hid (∀ (j : Nat) (y : Int), j < k + 1 → l[j]? = some y → y ≠ z) := fun j y hj hy => by
        by_cases e : j = k
        · subst e; rw [hx] at hy; injection hy with hy; subst hy; exact e1
        · exact HALL.out j y (by omega) hy
      clear hx e1
      go_wp2_with fail
      go_round
      case rel => exact ⟨k + 1, by omega, by go_num, HN.out⟩
      case measure => simp [intOf]; omega
end Go.Proofs.Ytmnlelpfbnagpaa
