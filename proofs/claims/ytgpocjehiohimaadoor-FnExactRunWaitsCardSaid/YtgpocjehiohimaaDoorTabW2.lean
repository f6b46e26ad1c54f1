/- The walks over the tables of locks, the program's: HeldMode, LockBlockers, Clone, TakeLock, FreeLocks, TakeAll. -/
import Derived.Test.YtgpocjehiohimaaDoorTabW
namespace Go.Proofs.YtgpocjehiohimaaDoor
open Go.RowKit

theorem ValidTable_t (lo : Nat) (A : Option Addr) (n c : Nat) (l : List Lk) (w : World) (hr : Rd cL 3 w lo A n l) (hc : n ≤ c) (hT : Tb w) (h : VTb l) :
    Calls Tryd.prog 68 #[.slice A n c] w fun e w' => e = .returned (.bool true) ∧ Below w.heap.size w w' := by rw [← vtb_true h]; exact ValidTable_any lo A n c l w hr hc hT
theorem ValidTable_f (lo : Nat) (A : Option Addr) (n c : Nat) (l : List Lk) (w : World) (hr : Rd cL 3 w lo A n l) (hc : n ≤ c) (hT : Tb w) (h : ¬ VTb l) :
    Calls Tryd.prog 68 #[.slice A n c] w fun e w' => e = .returned (.bool false) ∧ Below w.heap.size w w' := by rw [← vtb_false h]; exact ValidTable_any lo A n c l w hr hc hT


set_option maxHeartbeats 1000000 in
theorem LockBlockers_any (lo : Nat) (A : Option Addr) (n c : Nat) (l : List Lk) (who node mode : Int) (w : World) (hr : Rd cL 3 w lo A n l) (hc : n ≤ c) (hT : Tb w) :
    Calls Tryd.prog 51 #[.slice A n c, .int .i64 who, .int .i64 node, .int .i64 mode] w (IntsP w (lbF l who node mode)) := by
  by_cases h1 : VTb l
  case neg =>
    have HF := Lib.hid (lbF_no (who := who) (node := node) (mode := mode) (fun h => h1 h.1))
    have HC := Lib.hid (ValidTable_f lo A n c l w hr hc hT h1)
    clear h1
    go_enter Tryd.func51, Tryd.ntmps51
    go_wp2_with fail
    refine HC.out.mono ?_
    rintro e w1 ⟨rfl, hb1⟩
    go_wp2_with fail
    go_ret
    exact ⟨_, rfl, by rw [HF.out]; exact Own.nil _ _, hb1⟩
  have HC := Lib.hid (ValidTable_t lo A n c l w hr hc hT h1)
  by_cases h2 : OkAsk who node mode
  case neg =>
    have HF := Lib.hid (lbF_no (l := l) (fun h => h2 h.2))
    have HA := fun w' => isAsk_f who node mode w' h2
    clear h1 h2
    go_enter Tryd.func51, Tryd.ntmps51
    go_wp2_with fail
    refine HC.out.mono ?_
    rintro e w1 ⟨rfl, hb1⟩
    go_wp2_with (go_at_call 69; refine (HA _).mono ?_; rintro e w3 ⟨rfl, rfl⟩)
    go_ret
    exact ⟨_, rfl, by rw [HF.out]; exact Own.nil _ _, hb1⟩
  have HF := Lib.hid (lbF_yes h1 h2)
  have HA := fun w' => isAsk_t who node mode w' h2
  have hh := heldF_isM h1
  have hm := h2.isM
  have hj := joinF_isM (hh who node) hm
  have HH := Lib.hid hh
  have HM := Lib.hid hm
  have HJ := Lib.hid hj
  clear h1 h2 hh hm hj
  go_enter Tryd.func51, Tryd.ntmps51
  go_wp2_with fail
  refine HC.out.mono ?_
  rintro e w1 ⟨rfl, hb1⟩
  have hT1 := hT.below hb1
  have hs1 := hb1.size
  go_wp2_with (go_at_call 69; refine (HA _).mono ?_; rintro e w3 ⟨rfl, rfl⟩)
  refine (heldIn_any lo A n c l who node _ (hr.below hb1)).mono ?_
  rintro e w2 ⟨rfl, hb2⟩
  have hB2 := hb1.trans (hb2.mono hs1)
  have hT2 := hT1.below hb2
  go_wp2_with fail
  refine (JoinModes_t _ _ _ (HH.out _ _) HM.out hT2).mono ?_
  rintro e w2' ⟨rfl, rfl⟩
  clear HC HA hb1 hb2 hs1 hT1
  generalize joinF (heldF l who node) mode = J at HF HJ
  go_wp2_with fail
  go_loopw [10, 28] (fun v i wr => ∃ k : Nat, k ≤ 4 ∧ i = .int .i64 k ∧ Below w.heap.size w wr ∧ Own cI 1 3 wr w.heap.size v ((([0, 1, 2, 3] : List Int).take k).filter fun t => decide (t ≠ who) && !togF (heldF l t node) J)) (fun _ i _ => 4 - (intOf i).toNat)
  case atStart => exact ⟨0, Nat.zero_le _, rfl, hB2, Own.nil _ _⟩
  case round =>
    obtain ⟨k, hk, rfl, hbl, ho⟩ := hrel
    have hs := hbl.size
    by_cases hlt : k < 4
    case neg =>
      obtain rfl : k = 4 := by omega
      go_wp2_with fail
      go_ret
      exact ⟨_, rfl, by rw [HF.out]; exact ho, hbl⟩
    have hlt' : (k : Int) < 4 := by omega
    generalize hf : (fun t => decide (t ≠ who) && !togF (heldF l t node) J) = f at ho
    by_cases e1 : (k : Int) = who
    · have hfk : f (k : Int) = false := by rw [← hf]; simp [e1]
      have HS := Lib.hid (mark_f hlt hfk)
      subst e1
      clear hfk hf
      go_wp2_with fail
      go_roundw
      case rel => exact ⟨k + 1, by omega, by go_num, hbl, by rw [HS.out]; exact ho⟩
      case measure => simp [intOf]; omega
    have e1' : ((k : Int) != who) = true := by simpa using e1
    have hH := heldIn_any lo A n c l k node _ (hr.below hbl)
    have hG := fun w' hT' => GoTogether_t (heldF l k node) J w' (HH.out _ _) HJ.out hT'
    cases ht : togF (heldF l k node) J with
    | true =>
      have hfk : f (k : Int) = false := by rw [← hf]; simp [ht]
      have HS := Lib.hid (mark_f hlt hfk)
      rw [ht] at hG
      have HG := Lib.hid hG
      have HHH := Lib.hid hH
      clear hfk hf e1 ht hG hH
      go_wp2_with fail
      refine HHH.out.mono ?_
      rintro e w3 ⟨rfl, hb3⟩
      have hT3 := (hT.below hbl).below hb3
      go_wp2_with fail
      refine (HG.out _ hT3).mono ?_
      rintro e w4 ⟨rfl, rfl⟩
      go_wp2_with fail
      go_roundw
      case rel => exact ⟨k + 1, by omega, by go_num, hbl.trans (hb3.mono hs), by rw [HS.out]; exact ho.below hb3⟩
      case measure => simp [intOf]; omega
    | false =>
      have hfk : f (k : Int) = true := by rw [← hf]; simp [ht, e1]
      have HS := Lib.hid (mark_t hlt hfk)
      have hml := mark_len f k
      rw [ht] at hG
      have HG := Lib.hid hG
      have HHH := Lib.hid hH
      clear hfk hf e1 ht hG hH
      go_wp2_with fail
      refine HHH.out.mono ?_
      rintro e w3 ⟨rfl, hb3⟩
      have hT3 := (hT.below hbl).below hb3
      have hbl3 := hbl.trans (hb3.mono hs)
      have hs3 := hbl3.size
      have ho3' := ho.below hb3
      go_wp2_with fail
      refine (HG.out _ hT3).mono ?_
      rintro e w4 ⟨rfl, rfl⟩
      go_wp2_with (at_builtin; refine wpList_append_rd elI _ rfl (.tmp 43) (.tmp 45) rfl rfl (ho3'.alloc _) rfl (Rd_one _ #[.int .i64 (k : Int)] 3 (k : Int) rfl) (by omega) (by simp; omega) ?_; intro v5 w5 ho5 hg5 _)
      have hb5 := below_own (hbl3.alloc hs3 _) (ho3'.alloc (.cells #[.int .i64 (k : Int)] 3)) hg5 (Nat.le_refl _) (by simp; omega)
      go_roundw
      case rel => exact ⟨k + 1, by omega, by go_num, hb5, by rw [HS.out]; exact ho5⟩
      case measure => simp [intOf]; omega
end Go.Proofs.YtgpocjehiohimaaDoor
