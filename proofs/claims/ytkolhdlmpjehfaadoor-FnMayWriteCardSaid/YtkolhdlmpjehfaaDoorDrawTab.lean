/- The walks over someTable, anyTable, grainTable. -/
import Derived.Test.YtkolhdlmpjehfaaDoorDrawC
import Derived.Test.YtkolhdlmpjehfaaDoorTabS3
import Derived.Test.YtkolhdlmpjehfaaDoorGrainS
namespace Go.Proofs.YtkolhdlmpjehfaaDoor
open Go.RowKit

def TabP (w : World) (R p q : Nat) (e : Ending) (w' : World) : Prop := ∃ (v : Value) (l : List Lk), e = .returned v ∧ Own cL 3 31 w' w.heap.size v l ∧ VTb l ∧ Adv w R p q w'
def ATabP (w : World) (R p q : Nat) (e : Ending) (w' : World) : Prop := ∃ (A : Option Addr) (m c : Nat) (l : List Lk), e = .returned (.slice A m c) ∧ m ≤ c ∧ Rd cL 3 w' w.heap.size A m l ∧ m ≤ 49 ∧ Adv w R p q w'

set_option maxHeartbeats 1600000 in
theorem someTable_any (R p : Nat) (w : World) (hr : Rdr w R p) (hp : p ≤ 700000000) :
    Calls Tryd.prog 85 #[.pointer (some ⟨R, 0, none⟩)] w (TabP w R p 100) := by
  have hRl := hr.lt
  go_enter Tryd.func85, Tryd.ntmps85
  go_wp2_with fail
  refine (one_any R p _ _ 7 7 [5, 8, 3, 12, 1, 0, 24] _ ((hr.alloc _).alloc _) (by omega) (Rd_newIg (w.alloc (.cells #[] 31)) _ _ _ _ (by simp) (by simp) rfl) (by omega) (by omega)).mono ?_
  rintro e w2 ⟨z, rfl, ⟨kz, hkz⟩, hr2, hg2⟩
  have hz : 0 ≤ z ∧ z ≤ 24 := by
    have hm := List.mem_of_getElem? hkz
    simp only [List.mem_cons, List.not_mem_nil, or_false] at hm
    omega
  obtain ⟨z0, z24⟩ := hz
  clear hkz
  go_wp2_with fail
  go_loopw [3, 4] (fun v n wr => ∃ (l : List Lk) (y : Int) (q : Nat), n = .int .i64 y ∧ 0 ≤ y ∧ y ≤ 24 ∧ Own cL 3 31 wr w.heap.size v l ∧ VTb l ∧
      (q : Int) + 3 * y ≤ p + 90 ∧ Rdr wr R q ∧ w.grownBy wr (some R)) (fun _ n _ => (intOf n).toNat)
  case atStart =>
    refine ⟨[], z, p + 1, rfl, z0, z24, ?_, VTb_nil, by omega, hr2, ?_⟩
    · exact ((Own.empty (cs := cL) (sz := 3) w elL.len).alloc _).grown hg2 hRl
    · exact grown_trans (grown_of_below (((Below.refl _ _).alloc (Nat.le_refl _) _).alloc (by simp) _)) hg2
  case round =>
    rename World => W1
    obtain ⟨l, y, q, rfl, y0, y24, ho, hv, hq, hrr, hgg⟩ := hrel
    have hsr := hgg.size
    have HV := Lib.hid hv
    have hl48 := hv.1
    clear hv
    by_cases hy : 0 < y
    case neg =>
      have hy' : y ≤ 0 := by omega
      clear hl48
      go_wp2_with fail
      go_ret
      exact ⟨_, l, rfl, ho, HV.out, ⟨q, by omega, hrr⟩, hgg⟩
    go_wp2_with fail
    refine (pick_any R q 4 _ hrr (by omega) (by omega)).mono ?_
    rintro e w3 ⟨a, rfl, _, _, _, hr3, hg3⟩
    go_wp2_with fail
    refine (pick_any R (q + 1) 8 _ hr3 (by omega) (by omega)).mono ?_
    rintro e w4 ⟨b, rfl, _, _, _, hr4, hg4⟩
    go_wp2_with fail
    refine (pick_any R (q + 2) 5 _ hr4 (by omega) (by omega)).mono ?_
    rintro e w5 ⟨d, rfl, d0, _, d2, hr5, hg5⟩
    have hd5 := d2 (by omega)
    have hG5 := grown_trans hgg (grown_trans hg3 (grown_trans hg4 hg5))
    have ho5 := ((ho.grown hg3 hRl).grown hg4 hRl).grown hg5 hRl
    obtain ⟨A5, m5, c5, rfl, hc5, hrd5⟩ := ho5.rdn elL.len (by omega)
    have hs5 := hG5.size
    clear ho d2 hl48
    cases ht : takeF l a b (1 + d) with
    | none =>
      have HC := Lib.hid (TakeLockS_f _ A5 m5 c5 l a b (1 + d) _ hrd5 ht)
      clear ht
      go_wp2_with fail
      refine HC.out.mono ?_
      rintro e w6 ⟨rfl, hb6⟩
      go_wp2_with fail
      go_roundw
      case rel => exact ⟨l, y - 1, q + 3, rfl, by omega, by omega, ho5.below hb6, HV.out, by omega, hr5.below hb6, grown_below hG5 hb6⟩
      case measure => simp [intOf]; omega
    | some nxt =>
      have HC := Lib.hid (TakeLockS_t _ A5 m5 c5 l nxt a b (1 + d) _ hrd5 ht)
      have HN := Lib.hid (takeF_VTb ht)
      clear ht
      go_wp2_with fail
      refine HC.out.mono ?_
      rintro e w6 ⟨v6, rfl, ho6, hb6⟩
      go_wp2_with fail
      go_roundw
      case rel => exact ⟨nxt, y - 1, q + 3, rfl, by omega, by omega, ho6.low hs5, HN.out, by omega, hr5.below hb6, grown_below hG5 hb6⟩
      case measure => simp [intOf]; omega

theorem anyTable_any (R p : Nat) (w : World) (hr : Rdr w R p) (hp : p ≤ 600000000) :
    Calls Tryd.prog 76 #[.pointer (some ⟨R, 0, none⟩)] w (ATabP w R p 110) := by
  have hRl := hr.lt
  go_enter Tryd.func76, Tryd.ntmps76
  go_wp2_with fail
  refine (someTable_any R p _ hr (by omega)).mono ?_
  rintro e w1 ⟨v, l, rfl, ho, hv, ⟨p1, hp1, hr1⟩, hg1⟩
  have hl48 := hv.1
  have hs1 := hg1.size
  clear hv
  go_wp2_with fail
  refine (pick_any R p1 14 _ hr1 (by omega) (by omega)).mono ?_
  rintro e w2 ⟨x, rfl, _, _, _, hr2, hg2⟩
  have ho2 := ho.grown hg2 hRl
  have hG2 := grown_trans hg1 hg2
  have hs2 := hG2.size
  clear ho
  by_cases h0 : x = 0
  · subst h0
    go_wp2_with fail
    refine (one_any R (p1 + 1) _ _ 4 4 [0, 3, 4, -1] _ (hr2.alloc _) (by omega) (Rd_newI w2 _ _ _ (by simp) rfl) (by omega) (by omega)).mono ?_
    rintro e w3 ⟨a, rfl, _, hr3, hg3⟩
    have ho3 := (ho2.alloc (.cells #[.int .i64 0, .int .i64 3, .int .i64 4, .int .i64 (-1)] 3)).grown hg3 hRl
    have hG3 := grown_trans hG2 (grown_trans (grown_of_below ((Below.refl _ _).alloc (Nat.le_refl _) _)) hg3)
    clear ho2
    go_wp2_with fail
    refine (one_any R (p1 + 2) _ _ 4 4 [0, 11, 12, 1] _ (hr3.alloc _) (by omega) (Rd_newI w3 _ _ _ (by simp) rfl) (by have := hr3.lt; omega) (by omega)).mono ?_
    rintro e w4 ⟨b, rfl, _, hr4, hg4⟩
    have ho4 := (ho3.alloc (.cells #[.int .i64 0, .int .i64 11, .int .i64 12, .int .i64 1] 3)).grown hg4 hRl
    have hG4 := grown_trans hG3 (grown_trans (grown_of_below ((Below.refl _ _).alloc (Nat.le_refl _) _)) hg4)
    clear ho3
    go_wp2_with fail
    refine (one_any R (p1 + 3) _ _ 4 4 [5, 0, 6, 1] _ (hr4.alloc _) (by omega) (Rd_newI w4 _ _ _ (by simp) rfl) (by have := hr4.lt; omega) (by omega)).mono ?_
    rintro e w5 ⟨d, rfl, _, hr5, hg5⟩
    have ho5 := (ho4.alloc (.cells #[.int .i64 5, .int .i64 0, .int .i64 6, .int .i64 1] 3)).grown hg5 hRl
    have hG5 := grown_trans hG4 (grown_trans (grown_of_below ((Below.refl _ _).alloc (Nat.le_refl _) _)) hg5)
    have hs5 := hG5.size
    clear ho4
    go_wp2_with (at_builtin; refine wpList_append_rd elL _ rfl (.tmp 9) (.tmp 20) rfl rfl (ho5.alloc _) rfl (Rd_one w5 #[.int .i64 a, .int .i64 b, .int .i64 d] _ ⟨a, b, d⟩ rfl) (by omega) (by simp; omega) ?_; intro v7 w7 ho7 hg7 _)
    have hG7 := grown_own (grown_alloc hG5 _) (ho5.alloc (.cells #[.int .i64 a, .int .i64 b, .int .i64 d] 31)) hg7 (Nat.le_refl _)
    have hr7 := (hr5.alloc _).own (ho5.alloc (.cells #[.int .i64 a, .int .i64 b, .int .i64 d] 31)) hg7 hRl
    obtain ⟨A7, m7, c7, rfl, hc7, hrd7⟩ := ho7.rdn elL.len (by simp; omega)
    have hm7 : m7 ≤ 49 := by have := hrd7.len; simp at this; omega
    clear hg7
    go_ret
    exact ⟨A7, m7, c7, _, rfl, hc7, hrd7, hm7, ⟨p1 + 4, by omega, hr7⟩, hG7⟩
  · have h0' : (x == 0) = false := by simpa using h0
    clear h0
    obtain ⟨A7, m7, c7, rfl, hc7, hrd7⟩ := ho2.rdn elL.len (by omega)
    have hm7 : m7 ≤ 49 := by have := hrd7.len; omega
    go_wp2_with fail
    go_ret
    exact ⟨A7, m7, c7, _, rfl, hc7, hrd7, hm7, ⟨p1 + 1, by omega, hr2⟩, hG2⟩

set_option maxHeartbeats 1600000 in
theorem grainTable_any (R p lo : Nat) (A : Option Addr) (n c : Nat) (t : List Nd) (w : World) (hr : Rdr w R p) (hp : p ≤ 500000000) (hrt : Rd cN 3 w lo A n t) (hlo : R < lo) (hc : n ≤ c) (hz : NmB t) (hn : n ≤ 13) :
    Calls Tryd.prog 42 #[.pointer (some ⟨R, 0, none⟩), .slice A n c] w (ATabP w R p 200) := by
  have hRl := hr.lt
  go_enter Tryd.func42, Tryd.ntmps42
  go_wp2_with fail
  refine (one_any R p _ _ 5 5 [3, 5, 2, 1, 0] _ ((hr.alloc _).alloc _) (by omega) (Rd_newIg (w.alloc (.cells #[] 31)) _ _ _ _ (by simp) (by simp) rfl) (by omega) (by omega)).mono ?_
  rintro e w2 ⟨z, rfl, ⟨kz, hkz⟩, hr2, hg2⟩
  have hz5 : 0 ≤ z ∧ z ≤ 5 := by
    have hm := List.mem_of_getElem? hkz
    simp only [List.mem_cons, List.not_mem_nil, or_false] at hm
    omega
  obtain ⟨z0, z5⟩ := hz5
  clear hkz
  go_wp2_with fail
  go_loopw [5, 6] (fun v n wr => ∃ (l : List Lk) (y : Int) (q : Nat), n = .int .i64 y ∧ 0 ≤ y ∧ y ≤ 5 ∧ Own cL 3 31 wr w.heap.size v l ∧ VTb l ∧
      (q : Int) + 3 * y ≤ p + 20 ∧ Rdr wr R q ∧ w.grownBy wr (some R)) (fun _ n _ => (intOf n).toNat)
  case atStart =>
    refine ⟨[], z, p + 1, rfl, z0, z5, ?_, VTb_nil, by omega, hr2, ?_⟩
    · exact ((Own.empty (cs := cL) (sz := 3) w elL.len).alloc _).grown hg2 hRl
    · exact grown_trans (grown_of_below (((Below.refl _ _).alloc (Nat.le_refl _) _).alloc (by simp) _)) hg2
  case round =>
    rename World => W1
    obtain ⟨l, y, q, rfl, y0, y5, ho, hv, hq, hrr, hgg⟩ := hrel
    have hsr := hgg.size
    have HV := Lib.hid hv
    have hl48 := hv.1
    clear hv
    by_cases hy : 0 < y
    case neg =>
      have hy' : y ≤ 0 := by omega
      go_wp2_with fail
      refine (pick_any R q 8 _ hrr (by omega) (by omega)).mono ?_
      rintro e w3 ⟨x, rfl, _, _, _, hr3, hg3⟩
      have ho3 := ho.grown hg3 hRl
      have hG3 := grown_trans hgg hg3
      clear ho
      by_cases h0 : x = 0
      · subst h0
        go_wp2_with fail
        refine (anyTable_any R (q + 1) _ hr3 (by omega)).mono ?_
        rintro e w4 ⟨A4, m4, c4, l4, rfl, hc4, hrd4, hm4, ⟨p4, hp4, hr4⟩, hg4⟩
        have HR4 := Lib.hid (hrd4.low hG3.size)
        have HA := Lib.hid (⟨⟨p4, by omega, hr4⟩, grown_trans hG3 hg4⟩ : Adv w R p 200 w4)
        clear hrd4
        go_wp2_with fail
        go_ret
        exact ⟨A4, m4, c4, l4, rfl, hc4, HR4.out, hm4, HA.out⟩
      · have h0' : (x == 0) = false := by simpa using h0
        obtain ⟨A7, m7, c7, rfl, hc7, hrd7⟩ := ho3.rdn elL.len (by omega)
        have hm7 : m7 ≤ 49 := by have := hrd7.len; omega
        clear h0 hl48
        go_wp2_with fail
        go_ret
        exact ⟨A7, m7, c7, _, rfl, hc7, hrd7, hm7, ⟨q + 1, by omega, hr3⟩, hG3⟩
    go_wp2_with fail
    refine (pick_any R q 4 _ hrr (by omega) (by omega)).mono ?_
    rintro e w3 ⟨a, rfl, _, _, _, hr3, hg3⟩
    go_wp2_with fail
    all_goals
      refine (pick_any R (q + 1) _ _ hr3 (by omega) (by omega)).mono ?_
      rintro e w4 ⟨b, rfl, _, _, _, hr4, hg4⟩
      go_wp2_with fail
      refine (pick_any R (q + 2) 5 _ hr4 (by omega) (by omega)).mono ?_
      rintro e w5 ⟨d, rfl, d0, _, d2, hr5, hg5⟩
      have hd5 := d2 (by omega)
      have hG5 := grown_trans hgg (grown_trans hg3 (grown_trans hg4 hg5))
      have ho5 := ((ho.grown hg3 hRl).grown hg4 hRl).grown hg5 hRl
      have hs5 := hG5.size
      have hrt5 := hrt.grown hG5 hlo
      clear d2
      go_wp2_with fail
      refine (LocksForS_any lo A n c t a b (1 + d) _ hrt5 hc hz).mono ?_
      rintro e w6 ⟨A6, m6, c6, rfl, hc6, hrd6, hb6⟩
      have ho6 := ho5.below hb6
      obtain ⟨A7, m7, c7, rfl, hc7, hrd7⟩ := ho6.rdn elL.len (by omega)
      have hG6 := grown_below hG5 hb6
      have hs6 := hG6.size
      have HT := Lib.hid (TakeAllS_any _ _ A7 A6 m7 c7 m6 c6 l (lksF t a b (1 + d)) _ hrd7 hc7 hrd6)
      cases ht : takeAllF l (lksF t a b (1 + d)) with
      | none =>
        rw [ht] at HT
        clear ht
        go_wp2_with fail
        refine HT.out.mono ?_
        rintro e w8 ⟨rfl, hb8⟩
        go_wp2_with fail
        go_roundw
        case rel => exact ⟨l, y - 1, q + 3, rfl, by omega, by omega, ho6.below hb8, HV.out, by omega, (hr5.below hb6).below hb8, grown_below hG6 hb8⟩
        case measure => simp [intOf]; omega
      | some nxt =>
        have HN : Hid (VTb nxt) := by
          have h1 := ht
          rw [takeAllF_yes HV.out] at h1
          exact takeL_VTb _ _ _ HV.out h1
        rw [ht] at HT
        clear ht
        go_wp2_with fail
        refine HT.out.mono ?_
        rintro e w8 ⟨v8, rfl, ho8, hb8⟩
        have HO8 := Lib.hid (ho8.low hs6)
        clear ho8
        go_wp2_with fail
        go_roundw
        case rel => exact ⟨nxt, y - 1, q + 3, rfl, by omega, by omega, HO8.out, HN.out, by omega, (hr5.below hb6).below hb8, grown_below hG6 hb8⟩
        case measure => simp [intOf]; omega
end Go.Proofs.YtkolhdlmpjehfaaDoor
