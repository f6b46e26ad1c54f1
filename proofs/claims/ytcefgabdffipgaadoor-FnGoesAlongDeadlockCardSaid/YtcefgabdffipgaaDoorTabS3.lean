/- The walks over TakeLock, takeAll, TakeAll of the reference, TakeAll of the program, equalLocks. -/
import Derived.Test.YtcefgabdffipgaaDoorTabS2
namespace Go.Proofs.YtcefgabdffipgaaDoor
open Go.RowKit

set_option maxHeartbeats 1000000 in
theorem TakeLockS_t (lo : Nat) (A : Option Addr) (n c : Nat) (l l' : List Lk) (who node mode : Int) (w : World) (hr : Rd cL 3 w lo A n l) (h : takeF l who node mode = some l') :
    Calls Tryd.prog 58 #[.slice A n c, .int .i64 who, .int .i64 node, .int .i64 mode] w (LksT w l') := by
  obtain ⟨h1, h2, h3, rfl⟩ := takeF_some h
  have HC := Lib.hid (validAsk_t lo A n c l who node mode w hr h1 h2)
  have HH := Lib.hid (heldF_isM h1 who node)
  have HM := Lib.hid h2.isM
  have HB := Lib.hid h3
  have HV := Lib.hid h1
  clear h h1 h2 h3
  go_enter Tryd.func58, Tryd.ntmps58
  go_wp2_with fail
  refine HC.out.mono ?_
  rintro e w1 ⟨rfl, hb1⟩
  go_wp2_with fail
  refine (held_any lo A n c l who node _ (hr.below hb1)).mono ?_
  rintro e w2 ⟨rfl, rfl⟩
  go_wp2_with fail
  refine (joined_t _ _ _ HH.out HM.out).mono ?_
  rintro e w3 ⟨rfl, rfl⟩
  go_wp2_with fail
  refine (blockers_any lo A n c l who node _ _ (hr.below hb1) HV.out (joinF_isM HH.out HM.out)).mono ?_
  rintro e w4 ⟨v4, rfl, ho4, hb4⟩
  rw [HB.out] at ho4
  obtain ⟨A2, m2, c2, rfl, hc2, hr2⟩ := ho4.rdn elI.len (by simp)
  obtain rfl : m2 = 0 := hr2.len.symm
  have hB4 := hb1.trans (hb4.mono hb1.size)
  clear ho4 hr2
  go_wp2_with fail
  refine (grant_any lo A n c l who node mode _ (hr.below hB4) HV.out HM.out).mono ?_
  rintro e w5 ⟨v5, rfl, ho5, hb5⟩
  have HO := Lib.hid (ho5.low hB4.size)
  clear ho5
  go_wp2_with fail
  go_ret2
  exact ⟨_, rfl, HO.out, hB4.trans (hb5.mono hB4.size)⟩

theorem TakeLockS_f (lo : Nat) (A : Option Addr) (n c : Nat) (l : List Lk) (who node mode : Int) (w : World) (hr : Rd cL 3 w lo A n l) (h : takeF l who node mode = none) :
    Calls Tryd.prog 58 #[.slice A n c, .int .i64 who, .int .i64 node, .int .i64 mode] w (LksF w) := by
  by_cases h1 : VTb l ∧ OkAsk who node mode
  case neg =>
    have HC := Lib.hid (validAsk_f lo A n c l who node mode w hr h1)
    clear h h1
    go_enter Tryd.func58, Tryd.ntmps58
    go_wp2_with fail
    refine HC.out.mono ?_
    rintro e w1 ⟨rfl, hb1⟩
    go_wp2_with fail
    go_ret2
    exact ⟨rfl, hb1⟩
  obtain ⟨h1, h2⟩ := h1
  have HC := Lib.hid (validAsk_t lo A n c l who node mode w hr h1 h2)
  have h3 : blkF l who node (joinF (heldF l who node) mode) ≠ [] := by
    intro h3
    rw [takeF_yes h1 h2 h3] at h
    cases h
  have hlen : 1 ≤ (blkF l who node (joinF (heldF l who node) mode)).length := by
    rcases Nat.eq_zero_or_pos (blkF l who node (joinF (heldF l who node) mode)).length with h4 | h4
    · exact absurd (List.eq_nil_of_length_eq_zero h4) h3
    · exact h4
  have HLN := Lib.hid hlen
  have HH := Lib.hid (heldF_isM h1 who node)
  have HM := Lib.hid h2.isM
  have HV := Lib.hid h1
  clear h h1 h2 h3 hlen
  go_enter Tryd.func58, Tryd.ntmps58
  go_wp2_with fail
  refine HC.out.mono ?_
  rintro e w1 ⟨rfl, hb1⟩
  go_wp2_with fail
  refine (held_any lo A n c l who node _ (hr.below hb1)).mono ?_
  rintro e w2 ⟨rfl, rfl⟩
  go_wp2_with fail
  refine (joined_t _ _ _ HH.out HM.out).mono ?_
  rintro e w3 ⟨rfl, rfl⟩
  go_wp2_with fail
  refine (blockers_any lo A n c l who node _ _ (hr.below hb1) HV.out (joinF_isM HH.out HM.out)).mono ?_
  rintro e w4 ⟨v4, rfl, ho4, hb4⟩
  obtain ⟨A2, m2, c2, rfl, hc2, hr2⟩ := ho4.rdn elI.len (by have := blkF_len l who node (joinF (heldF l who node) mode); omega)
  have hm : (0 : Int) < (m2 : Int) := by have := hr2.len; have := HLN.out; omega
  have hB4 := hb1.trans (hb4.mono hb1.size)
  clear ho4 hr2
  go_wp2_with fail
  go_ret2
  exact ⟨rfl, hB4⟩

/-- What comes of taking: a list, or none. -/
def LksO (w : World) (o : Option (List Lk)) (e : Ending) (w' : World) : Prop := match o with
  | some l => LksT w l e w'
  | none => LksF w e w'

theorem takeAllF_yes {l list : List Lk} (h : VTb l) : takeAllF l list = takeL l list := by unfold takeAllF; rw [if_pos (vtb_true h)]
theorem takeAllF_no {l list : List Lk} (h : ¬ VTb l) : takeAllF l list = none := by unfold takeAllF; rw [if_neg (by rw [vtb_false h]; simp)]

theorem lksO_ret {w w' : World} {R : Option (List Lk)} {e : Ending} (h : LksO w R e w') : ∃ v b, e = .returned (.tuple #[v, .bool b]) := by
  cases R with
  | none => exact ⟨_, _, h.1⟩
  | some l => obtain ⟨v, h1, _⟩ := h; exact ⟨v, _, h1⟩
theorem LksO.from {w w1 w' : World} {R : Option (List Lk)} {e : Ending} (h : LksO w1 R e w') (hb : Below w.heap.size w w1) : LksO w R e w' := by
  cases R with
  | none => exact ⟨h.1, hb.trans (h.2.mono hb.size)⟩
  | some l => obtain ⟨v, h1, h2, h3⟩ := h; exact ⟨v, h1, h2.low hb.size, hb.trans (h3.mono hb.size)⟩

end Go.Proofs.YtcefgabdffipgaaDoor
