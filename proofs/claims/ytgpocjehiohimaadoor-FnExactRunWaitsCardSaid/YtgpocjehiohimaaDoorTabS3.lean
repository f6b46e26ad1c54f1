/- The walks over TakeLock, takeAll, TakeAll of the reference, TakeAll of the program, equalLocks. -/
import Derived.Test.YtgpocjehiohimaaDoorTabS2
namespace Go.Proofs.YtgpocjehiohimaaDoor
open Go.RowKit

set_option maxHeartbeats 1000000 in
theorem TakeLockS_t (lo : Nat) (A : Option Addr) (n c : Nat) (l l' : List Lk) (who node mode : Int) (w : World) (hr : Rd cL 3 w lo A n l) (h : takeF l who node mode = some l') :
    Calls Tryd.prog 89 #[.slice A n c, .int .i64 who, .int .i64 node, .int .i64 mode] w (LksT w l') := by
  obtain ⟨h1, h2, h3, rfl⟩ := takeF_some h
  have HC := Lib.hid (validAsk_t lo A n c l who node mode w hr h1 h2)
  have HH := Lib.hid (heldF_isM h1 who node)
  have HM := Lib.hid h2.isM
  have HB := Lib.hid h3
  have HV := Lib.hid h1
  clear h h1 h2 h3
  go_enter Tryd.func89, Tryd.ntmps89
  go_wp2_with fail
  refine HC.out.mono ?_
  rintro e w1 ⟨rfl, hb1⟩
  go_wp2_with fail
  refine (held_any lo A n c l who node _ (hr.below hb1)).mono ?_
  rintro e w2 ⟨rfl, rfl⟩
  go_wp2_with fail
  refine (joined_t _ _ _ HH.out HM.out).mono ?_
  rintro e w3 ⟨rfl, rfl⟩
  go_wp2_with fail
  refine (blockers_any lo A n c l who node _ _ (hr.below hb1) HV.out (joinF_isM HH.out HM.out)).mono ?_
  rintro e w4 ⟨v4, rfl, ho4, hb4⟩
  rw [HB.out] at ho4
  obtain ⟨A2, m2, c2, rfl, hc2, hr2⟩ := ho4.rdn elI.len (by simp)
  obtain rfl : m2 = 0 := hr2.len.symm
  have hB4 := hb1.trans (hb4.mono hb1.size)
  clear ho4 hr2
  go_wp2_with fail
  refine (grant_any lo A n c l who node mode _ (hr.below hB4) HV.out HM.out).mono ?_
  rintro e w5 ⟨v5, rfl, ho5, hb5⟩
  have HO := Lib.hid (ho5.low hB4.size)
  clear ho5
  go_wp2_with fail
  go_ret2
  exact ⟨_, rfl, HO.out, hB4.trans (hb5.mono hB4.size)⟩

theorem TakeLockS_f (lo : Nat) (A : Option Addr) (n c : Nat) (l : List Lk) (who node mode : Int) (w : World) (hr : Rd cL 3 w lo A n l) (h : takeF l who node mode = none) :
    Calls Tryd.prog 89 #[.slice A n c, .int .i64 who, .int .i64 node, .int .i64 mode] w (LksF w) := by
  by_cases h1 : VTb l ∧ OkAsk who node mode
  case neg =>
    have HC := Lib.hid (validAsk_f lo A n c l who node mode w hr h1)
    clear h h1
    go_enter Tryd.func89, Tryd.ntmps89
    go_wp2_with fail
    refine HC.out.mono ?_
    rintro e w1 ⟨rfl, hb1⟩
    go_wp2_with fail
    go_ret2
    exact ⟨rfl, hb1⟩
  obtain ⟨h1, h2⟩ := h1
  have HC := Lib.hid (validAsk_t lo A n c l who node mode w hr h1 h2)
  have h3 : blkF l who node (joinF (heldF l who node) mode) ≠ [] := by
    intro h3
    rw [takeF_yes h1 h2 h3] at h
    cases h
  have hlen : 1 ≤ (blkF l who node (joinF (heldF l who node) mode)).length := by
    rcases Nat.eq_zero_or_pos (blkF l who node (joinF (heldF l who node) mode)).length with h4 | h4
    · exact absurd (List.eq_nil_of_length_eq_zero h4) h3
    · exact h4
  have HLN := Lib.hid hlen
  have HH := Lib.hid (heldF_isM h1 who node)
  have HM := Lib.hid h2.isM
  have HV := Lib.hid h1
  clear h h1 h2 h3 hlen
  go_enter Tryd.func89, Tryd.ntmps89
  go_wp2_with fail
  refine HC.out.mono ?_
  rintro e w1 ⟨rfl, hb1⟩
  go_wp2_with fail
  refine (held_any lo A n c l who node _ (hr.below hb1)).mono ?_
  rintro e w2 ⟨rfl, rfl⟩
  go_wp2_with fail
  refine (joined_t _ _ _ HH.out HM.out).mono ?_
  rintro e w3 ⟨rfl, rfl⟩
  go_wp2_with fail
  refine (blockers_any lo A n c l who node _ _ (hr.below hb1) HV.out (joinF_isM HH.out HM.out)).mono ?_
  rintro e w4 ⟨v4, rfl, ho4, hb4⟩
  obtain ⟨A2, m2, c2, rfl, hc2, hr2⟩ := ho4.rdn elI.len (by have := blkF_len l who node (joinF (heldF l who node) mode); omega)
  have hm : (0 : Int) < (m2 : Int) := by have := hr2.len; have := HLN.out; omega
  have hB4 := hb1.trans (hb4.mono hb1.size)
  clear ho4 hr2
  go_wp2_with fail
  go_ret2
  exact ⟨rfl, hB4⟩

/-- What comes of taking: a list, or none. -/
def LksO (w : World) (o : Option (List Lk)) (e : Ending) (w' : World) : Prop := match o with
  | some l => LksT w l e w'
  | none => LksF w e w'

set_option maxHeartbeats 1000000 in
theorem takeAll_any (lo lo2 : Nat) (A A2 : Option Addr) (n c n2 c2 : Nat) (l list : List Lk) (w : World) (hr : Rd cL 3 w lo A n l) (hc : n ≤ c) (hr2 : Rd cL 3 w lo2 A2 n2 list) (hv : VTb l) :
    Calls Tryd.prog 75 #[.slice A n c, .slice A2 n2 c2] w (LksO w (takeL l list)) := by
  have hn2 := hr2.le
  have HL2 := Lib.hid hr2.len
  generalize hR : takeL l list = R
  have HR := Lib.hid hR
  have HV := Lib.hid hv
  clear hR hv
  go_enter Tryd.func75, Tryd.ntmps75
  go_wp2_with fail
  go_loopw [0, 6] (fun v i wr => ∃ (k : Nat) (cur : List Lk) (lo' : Nat) (B : Option Addr) (m c' : Nat), k ≤ n2 ∧ i = .int .i64 k ∧ v = .slice B m c' ∧ m ≤ c' ∧ Below w.heap.size w wr ∧ Rd cL 3 wr lo' B m cur ∧ VTb cur ∧ takeL cur (list.drop k) = R) (fun _ i _ => n2 - (intOf i).toNat)
  case atStart => exact ⟨0, l, lo, A, n, c, Nat.zero_le _, rfl, rfl, hc, Below.refl _ _, hr, HV.out, by simpa using HR.out⟩
  case round =>
    rename World => W1
    obtain ⟨k, cur, lo', B, m, c', hk, rfl, rfl, hmc, hbl, hcur, hvc, hK⟩ := hrel
    have hs := hbl.size
    have hm48 : m ≤ 48 := by have := hvc.1; rw [hcur.len] at this; exact this
    by_cases hlt : k < n2
    case neg =>
      rw [List.drop_eq_nil_of_le (by have := HL2.out; omega), takeL] at hK
      subst hK
      clear HR HV hvc
      go_wp2_with (at_builtin; refine wpList_append_rd elL _ rfl (.tmp 38) (.tmp 39) rfl rfl (Own.empty W1 elL.len) rfl (hcur.alloc _) (by simp; omega) (by simp) ?_; intro v5 w5 ho5 hg5 _)
      have hb5 := below_own ((Below.refl W1.heap.size W1).alloc (Nat.le_refl _) _) (Own.empty (cs := cL) (e := 67) W1 elL.len) hg5 (Nat.le_refl _) (by simp)
      simp only [List.nil_append] at ho5
      go_ret2
      exact ⟨_, rfl, ho5.low hs, hbl.trans (hb5.mono hs)⟩
    obtain ⟨b, o, x, rfl, _, hb, hx, g0, g1, g2⟩ := (hr2.below hbl).atL hlt
    rw [drop_cons hx, takeL] at hK
    obtain ⟨xw, xn, xm⟩ := x
    simp only at hK g0 g1 g2
    have hbs := World.block_lt_of_cell? _ _ g0
    have HBB : Hid (b < W1.heap.size) := hbs
    clear hx hbs
    cases ht : takeF cur xw xn xm with
    | none =>
      rw [ht] at hK
      have HC := Lib.hid (fun w' (h : Rd cL 3 w' lo' B m cur) => TakeLockS_f lo' B m c' cur xw xn xm w' h ht)
      have HK : Hid (none = R) := hK
      clear hK ht HR HV hvc
      go_wp2_with fail
      go_region_held3 (fun w' => w'.cell? ⟨b, o + k * 3, none⟩ = some (.int .i64 xw) ∧ w'.cell? ⟨b, o + k * 3 + 1, none⟩ = some (.int .i64 xn) ∧ w'.cell? ⟨b, o + k * 3 + 2, none⟩ = some (.int .i64 xm)) (first | go_keep | exact ⟨(hb5.cell HBB.out).trans g0, (hb5.cell HBB.out).trans g1, (hb5.cell HBB.out).trans g2⟩)
        ((first | (go_simp; go_at_call 89; refine (HC.out _ hcur.drew).mono ?_; rintro e w5 ⟨rfl, hb5⟩)))
      go_wp2_with fail
      go_ret2
      rw [← HK.out]
      exact ⟨rfl, hbl.drew.trans (hb5.mono hs)⟩
    | some nxt =>
      rw [ht] at hK
      have HC := Lib.hid (fun w' (h : Rd cL 3 w' lo' B m cur) => TakeLockS_t lo' B m c' cur nxt xw xn xm w' h ht)
      have HN := Lib.hid (takeF_VTb ht)
      have HK : Hid (takeL nxt (list.drop (k + 1)) = R) := hK
      clear hK ht HR HV hvc
      go_wp2_with fail
      go_region_held3 (fun w' => w'.cell? ⟨b, o + k * 3, none⟩ = some (.int .i64 xw) ∧ w'.cell? ⟨b, o + k * 3 + 1, none⟩ = some (.int .i64 xn) ∧ w'.cell? ⟨b, o + k * 3 + 2, none⟩ = some (.int .i64 xm)) (first | go_keep | exact ⟨(hb5.cell HBB.out).trans g0, (hb5.cell HBB.out).trans g1, (hb5.cell HBB.out).trans g2⟩)
        ((first | (go_simp; go_at_call 89; refine (HC.out _ hcur.drew).mono ?_; rintro e w5 ⟨v5, rfl, ho5, hb5⟩)))
      have hl5 := HN.out.1
      obtain ⟨B5, m5, c5, rfl, hc5, hr5⟩ := ho5.rdn elL.len (by omega)
      clear ho5
      go_wp2_with fail
      go_roundw
      case rel => exact ⟨k + 1, nxt, _, B5, m5, c5, by omega, by go_num, rfl, hc5, hbl.drew.trans (hb5.mono hs), hr5, HN.out, HK.out⟩
      case measure => simp [intOf]; omega

theorem takeAllF_yes {l list : List Lk} (h : VTb l) : takeAllF l list = takeL l list := by unfold takeAllF; rw [if_pos (vtb_true h)]
theorem takeAllF_no {l list : List Lk} (h : ¬ VTb l) : takeAllF l list = none := by unfold takeAllF; rw [if_neg (by rw [vtb_false h]; simp)]

theorem lksO_ret {w w' : World} {R : Option (List Lk)} {e : Ending} (h : LksO w R e w') : ∃ v b, e = .returned (.tuple #[v, .bool b]) := by
  cases R with
  | none => exact ⟨_, _, h.1⟩
  | some l => obtain ⟨v, h1, _⟩ := h; exact ⟨v, _, h1⟩
theorem LksO.from {w w1 w' : World} {R : Option (List Lk)} {e : Ending} (h : LksO w1 R e w') (hb : Below w.heap.size w w1) : LksO w R e w' := by
  cases R with
  | none => exact ⟨h.1, hb.trans (h.2.mono hb.size)⟩
  | some l => obtain ⟨v, h1, h2, h3⟩ := h; exact ⟨v, h1, h2.low hb.size, hb.trans (h3.mono hb.size)⟩

set_option maxHeartbeats 1000000 in
theorem TakeAll_any (lo lo2 : Nat) (A A2 : Option Addr) (n c n2 c2 : Nat) (l list : List Lk) (w : World) (hr : Rd cL 3 w lo A n l) (hc : n ≤ c) (hr2 : Rd cL 3 w lo2 A2 n2 list) (hT : Tb w) :
    Calls Tryd.prog 79 #[.slice A n c, .slice A2 n2 c2] w (LksO w (takeAllF l list)) := by
  by_cases h1 : VTb l
  case neg =>
    rw [takeAllF_no h1]
    have HC := Lib.hid (ValidTable_f lo A n c l w hr hc hT h1)
    clear h1
    go_enter Tryd.func79, Tryd.ntmps79
    go_wp2_with fail
    refine HC.out.mono ?_
    rintro e w1 ⟨rfl, hb1⟩
    go_wp2_with fail
    go_ret2
    exact ⟨rfl, hb1⟩
  rw [takeAllF_yes h1]
  have HC := Lib.hid (ValidTable_t lo A n c l w hr hc hT h1)
  have hn2 := hr2.le
  have HL2 := Lib.hid hr2.len
  have hn48 : n ≤ 48 := by have := h1.1; rw [hr.len] at this; exact this
  generalize hR : takeL l list = R
  have HR := Lib.hid hR
  have HV := Lib.hid h1
  clear hR h1
  go_enter Tryd.func79, Tryd.ntmps79
  go_wp2_with fail
  refine HC.out.mono ?_
  rintro e w1 ⟨rfl, hb1⟩
  go_wp2_with fail
  refine (CloneL_any lo A n c l _ (hr.below hb1) (by omega)).mono ?_
  rintro e w2 ⟨v2, rfl, ho2, hb2⟩
  have hB2 := hb1.trans (hb2.mono hb1.size)
  have ho2' := ho2.low hb1.size
  clear ho2 hb1 hb2
  go_wp2_with fail
  go_loopw [6, 18] (fun v i wr => ∃ (k : Nat) (cur : List Lk), k ≤ n2 ∧ i = .int .i64 k ∧ Below w.heap.size w wr ∧ Own cL 3 67 wr w.heap.size v cur ∧ VTb cur ∧ takeL cur (list.drop k) = R) (fun _ i _ => n2 - (intOf i).toNat)
  case atStart => exact ⟨0, l, Nat.zero_le _, rfl, hB2, ho2', HV.out, by simpa using HR.out⟩
  case round =>
    rename World => W1
    obtain ⟨k, cur, hk, rfl, hbl, ho, hvc, hK⟩ := hrel
    have hs := hbl.size
    have hm48 := hvc.1
    by_cases hlt : k < n2
    case neg =>
      rw [List.drop_eq_nil_of_le (by have := HL2.out; omega), takeL] at hK
      subst hK
      clear HR HV hvc
      go_wp2_with fail
      go_ret2
      exact ⟨_, rfl, ho, hbl⟩
    obtain ⟨B, m, c', rfl, hmc, hcur⟩ := ho.rdn elL.len (by omega)
    obtain ⟨b, o, x, rfl, _, hb, hx, g0, g1, g2⟩ := (hr2.below hbl).atL hlt
    rw [drop_cons hx, takeL] at hK
    obtain ⟨xw, xn, xm⟩ := x
    simp only at hK g0 g1 g2
    have hb' := hbl.alloc hs (.cells #[.int .i64 xw, .int .i64 xn, .int .i64 xm] 67)
    have hT' := (hT.below hbl).alloc (.cells #[.int .i64 xw, .int .i64 xn, .int .i64 xm] 67)
    have hcur' := hcur.alloc (.cells #[.int .i64 xw, .int .i64 xn, .int .i64 xm] 67)
    clear hx
    cases ht : takeF cur xw xn xm with
    | none =>
      rw [ht] at hK
      have HC2 := Lib.hid (TakeLock_f _ B m c' cur xw xn xm _ hcur' hmc hT' ht)
      have HK : Hid (none = R) := hK
      clear hK ht HR HV hvc hcur' hT'
      go_wp2_with fail
      refine HC2.out.mono ?_
      rintro e w5 ⟨rfl, hb5⟩
      go_wp2_with fail
      go_ret2
      rw [← HK.out]
      exact ⟨rfl, hb'.trans (hb5.mono hb'.size)⟩
    | some nxt =>
      rw [ht] at hK
      have HC2 := Lib.hid (TakeLock_t _ B m c' cur nxt xw xn xm _ hcur' hmc hT' ht)
      have HN := Lib.hid (takeF_VTb ht)
      have HK : Hid (takeL nxt (list.drop (k + 1)) = R) := hK
      clear hK ht HR HV hvc hcur' hT'
      go_wp2_with fail
      refine HC2.out.mono ?_
      rintro e w5 ⟨v5, rfl, ho5, hb5⟩
      have HO5 := Lib.hid (ho5.low hb'.size)
      clear ho5
      go_wp2_with fail
      go_roundw
      case rel => exact ⟨k + 1, nxt, by omega, by go_num, hb'.trans (hb5.mono hb'.size), HO5.out, HN.out, HK.out⟩
      case measure => simp [intOf]; omega

end Go.Proofs.YtgpocjehiohimaaDoor
