/- The walks over the tables of locks, the reference's: grant, TakeLock, takeAll, TakeAll; and the program's TakeAll. -/
import Derived.Test.YtgpocjehiohimaaDoorTabS
import Derived.Test.YtgpocjehiohimaaDoorTabW3
import Derived.Deep.RegionHeld3
namespace Go.Proofs.YtgpocjehiohimaaDoor
open Go.RowKit

set_option maxHeartbeats 1000000 in
theorem grant_any (lo : Nat) (A : Option Addr) (n c : Nat) (l : List Lk) (who node mode : Int) (w : World) (hr : Rd cL 3 w lo A n l) (hv : VTb l) (hm : IsM mode) :
    Calls Tryd.prog 99 #[.slice A n c, .int .i64 who, .int .i64 node, .int .i64 mode] w (LksP w (grantF l who node mode)) := by
  have HL := Lib.hid hr.len
  have hn48 : n ≤ 48 := by have := hv.1; rw [hr.len] at this; exact this
  have HV := Lib.hid hv
  have HM := Lib.hid hm
  have HNN := fun h => Lib.hid (grantF_app (l := l) (who := who) (node := node) (mode := mode) h)
  clear hv hm
  go_enter Tryd.func99, Tryd.ntmps99
  go_wp2_with (at_builtin; refine wpList_append_rd elL _ rfl (.tmp 11) (.tmp 12) rfl rfl (Own.empty w elL.len) rfl (hr.alloc _) (by simp; omega) (by simp) ?_; intro v1 w1 ho1 hg1 _; have hb1 := below_own ((Below.refl w.heap.size w).alloc (Nat.le_refl _) _) (Own.empty (e := 67) w elL.len) hg1 (Nat.le_refl _) (by simp))
  simp only [List.nil_append] at ho1
  clear hg1
  have hs1 := hb1.size
  rcases Nat.eq_zero_or_pos n with h0 | h0
  · have hl0 : l = [] := List.eq_nil_of_length_eq_zero (by rw [HL.out]; exact h0)
    subst hl0
    obtain ⟨A2, m2, c2, rfl, hc2, hr2⟩ := ho1.rdn elL.len (by simp)
    obtain rfl : m2 = 0 := hr2.len.symm
    have HG := HNN (by simp)
    clear hr2 HNN
    refine wp_loop_rounds 1 ?_
    rw [rounds_succ]
    go_wp2_with (at_builtin; refine wpList_append_rd elL _ rfl (.tmp 48) (.tmp 53) rfl rfl (ho1.alloc _) rfl (Rd_one _ #[.int .i64 who, .int .i64 node, .int .i64 mode] 67 ⟨who, node, mode⟩ rfl) (by simp) (by simp; omega) ?_; intro v5 w5 ho5 hg5 _)
    have hb5 := below_own (hb1.alloc hs1 _) (ho1.alloc (.cells #[.int .i64 who, .int .i64 node, .int .i64 mode] 67)) hg5 (Nat.le_refl _) (by simp; omega)
    go_ret
    exact ⟨_, rfl, by rw [HG.out]; exact ho5, hb5⟩
  obtain ⟨g, n', cap, rfl, hgb, _, _, hn'⟩ := ho1.form (by have := HL.out; omega)
  obtain rfl : n' = n := hn'.trans HL.out
  clear hn'
  go_loopw [10] (fun i wr => ∃ k : Nat, k ≤ n' ∧ i = .int .i64 k ∧ wr = w1 ∧ ∀ (j : Nat) (y : Lk), j < k → l[j]? = some y → ¬ (y.who = who ∧ y.node = node)) (fun i _ => n' - (intOf i).toNat)
  case atStart => exact ⟨0, Nat.zero_le _, rfl, rfl, fun j y h => by omega⟩
  case round =>
    obtain ⟨k, hk, rfl, rfl, hK⟩ := hrel
    by_cases hlt : k < n'
    case neg =>
      have HG := HNN (fun x hx hc => by
        obtain ⟨i, hi⟩ := List.mem_iff_getElem?.1 hx
        exact hK i x (by have := (List.getElem?_eq_some_iff.1 hi).1; have := HL.out; omega) hi hc)
      clear hK HNN
      go_wp2_with (at_builtin; refine wpList_append_rd elL _ rfl (.tmp 48) (.tmp 53) rfl rfl (ho1.alloc _) rfl (Rd_one _ #[.int .i64 who, .int .i64 node, .int .i64 mode] 67 ⟨who, node, mode⟩ rfl) (by rw [HL.out]; omega) (by simp; omega) ?_; intro v5 w5 ho5 hg5 _)
      have hb5 := below_own (hb1.alloc hs1 _) (ho1.alloc (.cells #[.int .i64 who, .int .i64 node, .int .i64 mode] 67)) hg5 (Nat.le_refl _) (by simp; omega)
      go_ret
      exact ⟨_, rfl, by rw [HG.out]; exact ho5, hb5⟩
    obtain ⟨_, hrd⟩ := ho1.rds elL.len (by rw [HL.out]; omega)
    obtain ⟨b', o', x, hA', _, _, hx, g0, g1, g2⟩ := hrd.atL hlt
    simp only [Option.some.injEq, Addr.mk.injEq, and_true] at hA'
    obtain ⟨rfl, rfl⟩ := hA'
    simp only [Nat.zero_add] at g0 g1 g2
    obtain ⟨xw, xn, xm⟩ := x
    simp only at g0 g1 g2
    have HX := Lib.hid hx
    have HK := Lib.hid hK
    clear hx hK hrd HNN
    by_cases e1 : xw = who
    case neg =>
      have HN : Hid (∀ (j : Nat) (y : Lk), j < k + 1 → l[j]? = some y → ¬ (y.who = who ∧ y.node = node)) := fun j y hj hy hc => by
        by_cases e : j = k
        · subst e; rw [HX.out] at hy; injection hy with hy; subst hy; exact e1 hc.1
        · exact HK.out j y (by omega) hy hc
      have e1' : (xw == who) = false := by simpa using e1
      clear e1
      go_wp2_with fail
      go_roundw
      case rel => exact ⟨k + 1, by omega, by go_num, by first | trivial | rfl, HN.out⟩
      case measure => simp [intOf]; omega
    subst e1
    by_cases e2 : xn = node
    case neg =>
      have HN : Hid (∀ (j : Nat) (y : Lk), j < k + 1 → l[j]? = some y → ¬ (y.who = xw ∧ y.node = node)) := fun j y hj hy hc => by
        by_cases e : j = k
        · subst e; rw [HX.out] at hy; injection hy with hy; subst hy; exact e2 hc.2
        · exact HK.out j y (by omega) hy hc
      have e2' : (xn == node) = false := by simpa using e2
      clear e2
      go_wp2_with fail
      go_roundw
      case rel => exact ⟨k + 1, by omega, by go_num, by first | trivial | rfl, HN.out⟩
      case measure => simp [intOf]; omega
    subst e2
    have HG := Lib.hid (grantF_set (mode := mode) HX.out rfl rfl HK.out)
    have hxm := (HV.out.ask (List.mem_of_getElem? HX.out)).isM
    have f0 := ho1.free (k * 3 + 2)
    have HJ := Lib.hid (fun w' => joined_t xm mode w' hxm HM.out)
    have HO := Lib.hid (ho1.set (u := .int .i64 (joinF xm mode)) (x' := ⟨xw, xn, joinF xm mode⟩) (j := 2) elL.len HX.out rfl (by omega) (q := k * 3 + 2) rfl)
    clear hxm
    generalize joinF xm mode = J at *
    go_wp2_with (go_at_call 48; refine (HJ.out _).mono ?_; rintro e w5 ⟨rfl, rfl⟩)
    go_ret
    exact ⟨_, rfl, by rw [HG.out]; exact HO.out, hb1.setCell hgb _⟩
end Go.Proofs.YtgpocjehiohimaaDoor
