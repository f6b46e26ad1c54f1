/- The walk over marked. -/
import Derived.Test.YtpklfhefhfkkhaaElems
import Derived.Test.YtpklfhefhfkkhaaWords4
import Derived.Test.YtpklfhefhfkkhaaMarkP
namespace Go.Proofs.Ytpklfhefhfkkhaa
open Go.RowKit

def IntsP (w : World) (l : List Int) (e : Ending) (w' : World) : Prop := ∃ v, e = .returned v ∧ Own cI 1 3 w' w.heap.size v l ∧ Below w.heap.size w w'

set_option maxHeartbeats 1000000 in
theorem marked_any (f : Int → Bool) (w : World) :
    Calls Try.prog 44 #[.agg #[.bool (f 0), .bool (f 1), .bool (f 2), .bool (f 3)]] w (IntsP w (markL f)) := by
  generalize h0 : f 0 = b0
  generalize h1 : f 1 = b1
  generalize h2 : f 2 = b2
  generalize h3 : f 3 = b3
  have hF : ∀ k : Nat, k < 4 → f k = (match k with | 0 => b0 | 1 => b1 | 2 => b2 | _ => b3) := by
    intro k hk
    match k, hk with
    | 0, _ => exact h0
    | 1, _ => exact h1
    | 2, _ => exact h2
    | 3, _ => exact h3
  have HF := Lib.hid hF
  have HM : Hid ((([0, 1, 2, 3] : List Int).take 4).filter f = markL f) := (rfl : _ = _)
  clear h0 h1 h2 h3 hF
  have i0 : ∀ w, (Instr.index 64 (.agg #[.bool b0, .bool b1, .bool b2, .bool b3]) (.int .i64 0)).run Try.prog w = .ok (.bool b0) w := fun _ => by kernel_rfl
  have i1 : ∀ w, (Instr.index 64 (.agg #[.bool b0, .bool b1, .bool b2, .bool b3]) (.int .i64 1)).run Try.prog w = .ok (.bool b1) w := fun _ => by kernel_rfl
  have i2 : ∀ w, (Instr.index 64 (.agg #[.bool b0, .bool b1, .bool b2, .bool b3]) (.int .i64 2)).run Try.prog w = .ok (.bool b2) w := fun _ => by kernel_rfl
  have i3 : ∀ w, (Instr.index 64 (.agg #[.bool b0, .bool b1, .bool b2, .bool b3]) (.int .i64 3)).run Try.prog w = .ok (.bool b3) w := fun _ => by kernel_rfl
  go_enter Try.func44, Try.ntmps44
  go_wp2_with fail
  go_loopw [3, 7] (fun v i wr => ∃ k : Nat, k ≤ 4 ∧ i = .int .i64 k ∧ Own cI 1 3 wr w.heap.size v ((([0, 1, 2, 3] : List Int).take k).filter f) ∧ Below w.heap.size w wr) (fun _ i _ => 4 - (intOf i).toNat)
  case atStart => exact ⟨0, Nat.zero_le _, rfl, Own.nil _ _, (Below.refl _ _).alloc (Nat.le_refl _) _⟩
  case round =>
    obtain ⟨k, hk, rfl, ho, hbl⟩ := hrel
    have hs := hbl.size
    by_cases hlt : k < 4
    case neg =>
      obtain rfl : k = 4 := by omega
      rw [HM.out] at ho
      go_wp2_with fail
      go_ret
      exact ⟨_, rfl, ho, hbl⟩
    have hml := mark_len f k
    have hf := HF.out k hlt
    obtain rfl | rfl | rfl | rfl : k = 0 ∨ k = 1 ∨ k = 2 ∨ k = 3 := by omega
    all_goals simp only at hf
    · cases b0
      · have HS := Lib.hid (mark_f hlt hf)
        clear hf
        go_wp2_with fail
        go_roundw
        case rel => exact ⟨1, by omega, by go_num, by rw [HS.out]; exact ho, hbl⟩
        case measure => simp [intOf]
      · have HS := Lib.hid (mark_t hlt hf)
        clear hf
        go_wp2_with (at_builtin; refine wpList_append_rd elI _ rfl (.tmp 12) (.tmp 14) rfl rfl (ho.alloc _) rfl (Rd_one _ #[.int .i64 0] 3 0 rfl) (by omega) (by simp; omega) ?_; intro v3 w3 ho3 hg3 _)
        have hb3 := below_own (hbl.alloc hs _) (ho.alloc (.cells #[.int .i64 0] 3)) hg3 (Nat.le_refl _) (by simp; omega)
        go_roundw
        case rel => exact ⟨1, by omega, by go_num, by rw [HS.out]; exact ho3, hb3⟩
        case measure => simp [intOf]
    · cases b1
      · have HS := Lib.hid (mark_f hlt hf)
        clear hf
        go_wp2_with fail
        go_roundw
        case rel => exact ⟨2, by omega, by go_num, by rw [HS.out]; exact ho, hbl⟩
        case measure => simp [intOf]
      · have HS := Lib.hid (mark_t hlt hf)
        clear hf
        go_wp2_with (at_builtin; refine wpList_append_rd elI _ rfl (.tmp 12) (.tmp 14) rfl rfl (ho.alloc _) rfl (Rd_one _ #[.int .i64 1] 3 1 rfl) (by omega) (by simp; omega) ?_; intro v3 w3 ho3 hg3 _)
        have hb3 := below_own (hbl.alloc hs _) (ho.alloc (.cells #[.int .i64 1] 3)) hg3 (Nat.le_refl _) (by simp; omega)
        go_roundw
        case rel => exact ⟨2, by omega, by go_num, by rw [HS.out]; exact ho3, hb3⟩
        case measure => simp [intOf]
    · cases b2
      · have HS := Lib.hid (mark_f hlt hf)
        clear hf
        go_wp2_with fail
        go_roundw
        case rel => exact ⟨3, by omega, by go_num, by rw [HS.out]; exact ho, hbl⟩
        case measure => simp [intOf]
      · have HS := Lib.hid (mark_t hlt hf)
        clear hf
        go_wp2_with (at_builtin; refine wpList_append_rd elI _ rfl (.tmp 12) (.tmp 14) rfl rfl (ho.alloc _) rfl (Rd_one _ #[.int .i64 2] 3 2 rfl) (by omega) (by simp; omega) ?_; intro v3 w3 ho3 hg3 _)
        have hb3 := below_own (hbl.alloc hs _) (ho.alloc (.cells #[.int .i64 2] 3)) hg3 (Nat.le_refl _) (by simp; omega)
        go_roundw
        case rel => exact ⟨3, by omega, by go_num, by rw [HS.out]; exact ho3, hb3⟩
        case measure => simp [intOf]
    · cases b3
      · have HS := Lib.hid (mark_f hlt hf)
        clear hf
        go_wp2_with fail
        go_roundw
        case rel => exact ⟨4, by omega, by go_num, by rw [HS.out]; exact ho, hbl⟩
        case measure => simp [intOf]
      · have HS := Lib.hid (mark_t hlt hf)
        clear hf
        go_wp2_with (at_builtin; refine wpList_append_rd elI _ rfl (.tmp 12) (.tmp 14) rfl rfl (ho.alloc _) rfl (Rd_one _ #[.int .i64 3] 3 3 rfl) (by omega) (by simp; omega) ?_; intro v3 w3 ho3 hg3 _)
        have hb3 := below_own (hbl.alloc hs _) (ho.alloc (.cells #[.int .i64 3] 3)) hg3 (Nat.le_refl _) (by simp; omega)
        go_roundw
        case rel => exact ⟨4, by omega, by go_num, by rw [HS.out]; exact ho3, hb3⟩
        case measure => simp [intOf]
end Go.Proofs.Ytpklfhefhfkkhaa
