/- The walks over the reference's steps: validStep, freeOne, tableAfter, validSteps. -/
import Derived.Test.YtcefgabdffipgaaDoorTabS3
import Derived.Test.YtcefgabdffipgaaDoorStepP
namespace Go.Proofs.YtcefgabdffipgaaDoor
open Go.RowKit

def stV (s : St) : Value := .agg #[.int .i64 s.who, .bool s.free, .int .i64 s.node, .int .i64 s.mode]
/-- A valid step. -/
theorem validStep_t (s : St) (w : World) (h : OkSt s) : Calls Tryd.prog 37 #[.agg #[.int .i64 s.who, .bool s.free, .int .i64 s.node, .int .i64 s.mode]] w fun e w' => e = .returned (.bool true) ∧ Below w.heap.size w w' := by
  obtain ⟨sw, sf, sn, sm⟩ := s
  obtain ⟨⟨a1, a2⟩, ⟨b1, b2⟩, h3, h4⟩ := h
  simp only at a1 a2 b1 b2 h3 h4 ⊢
  cases sf with
  | true =>
    obtain rfl := h3 rfl
    clear h3 h4
    go_enter Tryd.func37, Tryd.ntmps37
    go_wp2_with (go_at_call 36; refine (inRange_t _ _ _ _ (by assumption) (by assumption)).mono ?_; rintro e w3 ⟨rfl, rfl⟩)
    go_ret
    exact ⟨rfl, (Below.refl _ _).alloc (Nat.le_refl _) _⟩
  | false =>
    obtain ⟨c1, c2⟩ := h4 rfl
    clear h3 h4
    go_enter Tryd.func37, Tryd.ntmps37
    go_wp2_with (go_at_call 36; refine (inRange_t _ _ _ _ (by assumption) (by assumption)).mono ?_; rintro e w3 ⟨rfl, rfl⟩)
    go_ret
    exact ⟨rfl, (Below.refl _ _).alloc (Nat.le_refl _) _⟩
theorem validStep_f (s : St) (w : World) (h : ¬ OkSt s) : Calls Tryd.prog 37 #[.agg #[.int .i64 s.who, .bool s.free, .int .i64 s.node, .int .i64 s.mode]] w fun e w' => e = .returned (.bool false) ∧ Below w.heap.size w w' := by
  obtain ⟨sw, sf, sn, sm⟩ := s
  have hh : ¬ ((0 ≤ sw ∧ sw ≤ 3) ∧ (0 ≤ sn ∧ sn ≤ 11) ∧ (sf = true → sm = 0) ∧ (sf = false → 1 ≤ sm ∧ sm ≤ 5)) := h
  clear h
  by_cases h1 : 0 ≤ sw ∧ sw ≤ 3
  case neg =>
    have o1 : sw < 0 ∨ 3 < sw := by omega
    clear hh h1
    go_enter Tryd.func37, Tryd.ntmps37
    go_wp2_with (go_at_call 36; refine (inRange_f _ _ _ _ (by assumption)).mono ?_; rintro e w3 ⟨rfl, rfl⟩)
    go_ret
    exact ⟨rfl, (Below.refl _ _).alloc (Nat.le_refl _) _⟩
  by_cases h2 : 0 ≤ sn ∧ sn ≤ 11
  case neg =>
    obtain ⟨a1, a2⟩ := h1
    have o1 : sn < 0 ∨ 11 < sn := by omega
    clear hh h2
    go_enter Tryd.func37, Tryd.ntmps37
    go_wp2_with (go_at_call 36; (first | (refine (inRange_t _ _ _ _ (by assumption) (by assumption)).mono ?_) | (refine (inRange_f _ _ _ _ (by assumption)).mono ?_)); rintro e w3 ⟨rfl, rfl⟩)
    go_ret
    exact ⟨rfl, (Below.refl _ _).alloc (Nat.le_refl _) _⟩
  cases sf with
  | true =>
    have h3 : sm ≠ 0 := fun e => hh ⟨h1, h2, fun _ => e, fun e => by cases e⟩
    have h3' : (sm == 0) = false := by simpa using h3
    obtain ⟨a1, a2⟩ := h1
    obtain ⟨b1, b2⟩ := h2
    clear hh h3
    go_enter Tryd.func37, Tryd.ntmps37
    go_wp2_with (go_at_call 36; refine (inRange_t _ _ _ _ (by assumption) (by assumption)).mono ?_; rintro e w3 ⟨rfl, rfl⟩)
    go_ret
    exact ⟨rfl, (Below.refl _ _).alloc (Nat.le_refl _) _⟩
  | false =>
    have h3 : ¬ (1 ≤ sm ∧ sm ≤ 5) := fun e => hh ⟨h1, h2, fun e => (by cases e), fun _ => e⟩
    have o1 : sm < 1 ∨ 5 < sm := by omega
    obtain ⟨a1, a2⟩ := h1
    obtain ⟨b1, b2⟩ := h2
    clear hh h3
    go_enter Tryd.func37, Tryd.ntmps37
    go_wp2_with (go_at_call 36; (first | (refine (inRange_t _ _ _ _ (by assumption) (by assumption)).mono ?_) | (refine (inRange_f _ _ _ _ (by assumption)).mono ?_)); rintro e w3 ⟨rfl, rfl⟩)
    go_ret
    exact ⟨rfl, (Below.refl _ _).alloc (Nat.le_refl _) _⟩

theorem dropF_step {l : List Lk} {who node : Int} {k : Nat} {x : Lk} (hx : l[k]? = some x) : dropF (l.take (k + 1)) who node = dropF (l.take k) who node ++ (if x.who = who ∧ x.node = node then [] else [x]) := by
  rw [take_snoc hx]
  unfold dropF
  rw [List.filter_append]
  congr 1
  by_cases h : x.who = who ∧ x.node = node
  · simp [h]
  · rw [if_neg h, List.filter_cons, if_pos (decide_eq_true h)]; rfl
set_option maxHeartbeats 1000000 in
theorem freeOne_any (lo : Nat) (A : Option Addr) (n c : Nat) (l : List Lk) (who node : Int) (w : World) (hr : Rd cL 3 w lo A n l) (hn : n ≤ 1000) :
    Calls Tryd.prog 57 #[.slice A n c, .int .i64 who, .int .i64 node] w (LksP w (dropF l who node)) := by
  have HL := Lib.hid hr.len
  go_enter Tryd.func57, Tryd.ntmps57
  go_wp2_with fail
  go_loopw [7, 8] (fun v i wr => ∃ k : Nat, k ≤ n ∧ i = .int .i64 k ∧ Below w.heap.size w wr ∧ Own cL 3 37 wr w.heap.size v (dropF (l.take k) who node)) (fun _ i _ => n - (intOf i).toNat)
  case atStart => exact ⟨0, Nat.zero_le _, rfl, (Below.refl _ _).alloc (Nat.le_refl _) _, Own.empty w elL.len⟩
  case round =>
    rename World => W1
    obtain ⟨k, hk, rfl, hbl, ho⟩ := hrel
    have hs := hbl.size
    by_cases hlt : k < n
    case neg =>
      rw [List.take_of_length_le (by have := HL.out; omega)] at ho
      go_wp2_with fail
      go_ret
      exact ⟨_, rfl, ho, hbl⟩
    obtain ⟨b, o, x, rfl, _, hb, hx, g0, g1, g2⟩ := (hr.below hbl).atL hlt
    have HS := dropF_step (who := who) (node := node) hx
    have hfl : (dropF (l.take k) who node).length ≤ 1000 := by
      unfold dropF
      refine Nat.le_trans (List.length_filter_le _ _) ?_
      rw [List.length_take]; omega
    obtain ⟨xw, xn, xm⟩ := x
    simp only at HS g0 g1 g2
    clear hx
    by_cases e1 : xw = who ∧ xn = node
    · rw [if_pos e1, List.append_nil] at HS
      have HSS := Lib.hid HS
      obtain ⟨rfl, rfl⟩ := e1
      clear HS
      go_wp2_with fail
      go_roundw
      case rel => exact ⟨k + 1, by omega, by go_num, hbl, by rw [HSS.out]; exact ho⟩
      case measure => simp [intOf]; omega
    · rw [if_neg e1] at HS
      have HSS := Lib.hid HS
      clear HS
      by_cases e2 : xw = who
      · subst e2
        have e3 : (xn != node) = true := by simpa using e1
        clear e1
        go_wp2_with (at_builtin; refine wpList_append_rd elL _ rfl (.tmp 32) (.tmp 37) rfl rfl (ho.alloc _) rfl (Rd_one W1 #[.int .i64 xw, .int .i64 xn, .int .i64 xm] 37 ⟨xw, xn, xm⟩ rfl) (by omega) (by simp; omega) ?_; intro v5 w5 ho5 hg5 _)
        have hb5 := below_own (hbl.alloc hs _) (ho.alloc (.cells #[.int .i64 xw, .int .i64 xn, .int .i64 xm] 37)) hg5 (Nat.le_refl _) (by simp; omega)
        go_roundw
        case rel => exact ⟨k + 1, by omega, by go_num, hb5, by rw [HSS.out]; exact ho5⟩
        case measure => simp [intOf]; omega
      · have e3 : (xw != who) = true := by simpa using e2
        clear e1 e2
        go_wp2_with (at_builtin; refine wpList_append_rd elL _ rfl (.tmp 32) (.tmp 37) rfl rfl (ho.alloc _) rfl (Rd_one W1 #[.int .i64 xw, .int .i64 xn, .int .i64 xm] 37 ⟨xw, xn, xm⟩ rfl) (by omega) (by simp; omega) ?_; intro v5 w5 ho5 hg5 _)
        have hb5 := below_own (hbl.alloc hs _) (ho.alloc (.cells #[.int .i64 xw, .int .i64 xn, .int .i64 xm] 37)) hg5 (Nat.le_refl _) (by simp; omega)
        go_roundw
        case rel => exact ⟨k + 1, by omega, by go_num, hb5, by rw [HSS.out]; exact ho5⟩
        case measure => simp [intOf]; omega

set_option maxHeartbeats 1600000 in
/-- The table after steps, each of them valid by itself. -/
theorem tableAfterS_any (lo : Nat) (A : Option Addr) (n c : Nat) (list : List St) (w : World) (hr : Rd cS 4 w lo A n list) (hn : n ≤ 1000) (hok : ∀ s ∈ list, OkSt s) :
    Calls Tryd.prog 38 #[.slice A n c] w (LksO w (stepsF list [])) := by
  have HL := Lib.hid hr.len
  have HOK := Lib.hid hok
  clear hok
  generalize hR : stepsF list [] = R
  have HR := Lib.hid hR
  clear hR
  go_enter Tryd.func38, Tryd.ntmps38
  go_wp2_with fail
  go_loopw [4, 5] (fun v i wr => ∃ (k : Nat) (m : List Lk), k ≤ n ∧ i = .int .i64 k ∧ stepsF (list.take k) [] = some m ∧ VTb m ∧ Below w.heap.size w wr ∧ Own cL 3 37 wr w.heap.size v m) (fun _ i _ => n - (intOf i).toNat)
  case atStart => exact ⟨0, [], Nat.zero_le _, rfl, rfl, VTb_nil, (Below.refl _ _).alloc (Nat.le_refl _) _, Own.empty w elL.len⟩
  case round =>
    rename World => W1
    obtain ⟨k, m, hk, rfl, hst, hvm, hbl, ho⟩ := hrel
    have hs := hbl.size
    by_cases hlt : k < n
    case neg =>
      rw [List.take_of_length_le (by have := HL.out; omega), HR.out] at hst
      subst hst
      go_wp2_with fail
      go_ret2
      exact ⟨_, rfl, ho, hbl⟩
    obtain ⟨b, o, x, rfl, _, hb, hx, g0, g1, g2, g3⟩ := (hr.below hbl).atS hlt
    have hox := HOK.out x (List.mem_of_getElem? hx)
    have HST := Lib.hid (stepsF_snoc hst hx)
    have HSP := Lib.hid (fun hd => stepsF_stop hst hx hd)
    have hm48 := hvm.1
    obtain ⟨A2, m2, c2, rfl, hc2, hr2⟩ := ho.rdn elL.len (by omega)
    have hm2 : m2 ≤ 48 := by have := hr2.len; omega
    have HVM := Lib.hid hvm
    have HW : Hid (∀ l', doF m x = some l' → VTb l') := fun l' h => (doF_ok HVM.out h).1
    obtain ⟨xw, xf, xn, xm⟩ := x
    simp only at g0 g1 g2 g3
    have hrA := hr2.alloc (.cells #[.int .i64 xw, .bool xf, .int .i64 xn, .int .i64 xm] 32)
    have hbA := hbl.alloc hs (.cells #[.int .i64 xw, .bool xf, .int .i64 xn, .int .i64 xm] 32)
    have hsA := hbA.size
    cases xf with
    | true =>
      have hmode := hox.2.2.1 rfl
      simp only at hmode
      subst hmode
      have HD := Lib.hid (doF_free (l := m) (s := ⟨xw, true, xn, 0⟩) rfl rfl)
      have HH := Lib.hid (held_any _ A2 m2 c2 m xw xn _ hrA)
      by_cases h0 : heldF m xw xn = 0
      · have hnone : R = none := by rw [← HR.out]; exact HSP.out (doF_nohold rfl h0)
        subst hnone
        rw [h0] at HH
        clear h0 hst hx hox
        go_wp2_with (go_at_call 56; refine HH.out.mono ?_; rintro e w3 ⟨rfl, rfl⟩)
        go_ret2
        exact ⟨rfl, hbA⟩
      · have h0' : (heldF m xw xn == 0) = false := by simpa using h0
        have hd : doF m ⟨xw, true, xn, 0⟩ = some (dropF m xw xn) := by rw [HD.out]; exact if_pos h0
        rw [hd] at HST
        have HD2 := Lib.hid (HW.out _ hd)
        generalize heldF m xw xn = hh at *
        clear h0 hd hst hx hox
        go_wp2_with (go_at_call 56; refine HH.out.mono ?_; rintro e w3 ⟨rfl, rfl⟩)
        refine (freeOne_any _ A2 m2 c2 m xw xn _ hrA (by omega)).mono ?_
        rintro e w4 ⟨v4, rfl, ho4, hb4⟩
        go_wp2_with fail
        go_roundw
        case rel => exact ⟨k + 1, dropF m xw xn, by omega, by go_num, HST.out, HD2.out, hbA.trans (hb4.mono hsA), ho4.low hsA⟩
        case measure => simp [intOf]; omega
    | false =>
      have hd := doF_take (l := m) (s := ⟨xw, false, xn, xm⟩) rfl
      simp only at hd
      rw [hd] at HST
      have HSP2 : Hid (takeF m xw xn xm = none → stepsF list [] = none) := fun h => HSP.out (hd.trans h)
      have HW2 : Hid (∀ l', takeF m xw xn xm = some l' → VTb l') := fun l' h => HW.out l' (hd.trans h)
      clear hd HSP HW hst hx hox
      cases htk : takeF m xw xn xm with
      | none =>
        have hnone : R = none := by rw [← HR.out]; exact HSP2.out htk
        subst hnone
        have HT := Lib.hid (TakeLockS_f _ A2 m2 c2 m xw xn xm _ hrA htk)
        clear htk
        go_wp2_with fail
        refine HT.out.mono ?_
        rintro e w3 ⟨rfl, hb3⟩
        go_wp2_with fail
        go_ret2
        exact ⟨rfl, hbA.trans (hb3.mono hsA)⟩
      | some l' =>
        rw [htk] at HST
        have HT := Lib.hid (TakeLockS_t _ A2 m2 c2 m l' xw xn xm _ hrA htk)
        have HD2 := Lib.hid (HW2.out _ htk)
        clear htk
        go_wp2_with fail
        refine HT.out.mono ?_
        rintro e w3 ⟨v3, rfl, ho3, hb3⟩
        go_wp2_with fail
        go_roundw
        case rel => exact ⟨k + 1, l', by omega, by go_num, HST.out, HD2.out, hbA.trans (hb3.mono hsA), ho3.low hsA⟩
        case measure => simp [intOf]; omega

open Classical in
noncomputable def vsB (list : List St) : Bool := decide (VS list)
open Classical in
theorem vsB_t {list : List St} (h : VS list) : vsB list = true := by unfold vsB; exact decide_eq_true h
open Classical in
theorem vsB_f {list : List St} (h : ¬ VS list) : vsB list = false := by unfold vsB; exact decide_eq_false h
set_option maxHeartbeats 1000000 in
theorem validSteps_any (lo : Nat) (A : Option Addr) (n c : Nat) (list : List St) (w : World) (hr : Rd cS 4 w lo A n list) (hn : n ≤ 1000000) :
    Calls Tryd.prog 16 #[.slice A n c] w fun e w' => e = .returned (.bool (vsB list)) ∧ Below w.heap.size w w' := by
  have HL := Lib.hid hr.len
  generalize hR : vsB list = R
  have HR := Lib.hid hR
  clear hR
  by_cases hn16 : n ≤ 16
  case neg =>
    have hnv : ¬ VS list := fun h => by have := h.len; have := HL.out; omega
    obtain rfl : R = false := HR.out.symm.trans (vsB_f hnv)
    have h16 : (16 : Int) < (n : Int) := by omega
    clear hnv
    go_enter Tryd.func16, Tryd.ntmps16
    go_wp2_with fail
    go_ret
    exact ⟨rfl, Below.refl _ _⟩
  have h16 : ¬ (16 : Int) < (n : Int) := by omega
  go_enter Tryd.func16, Tryd.ntmps16
  go_wp2_with fail
  go_loopw [3] (fun i wr => ∃ k : Nat, k ≤ n ∧ i = .int .i64 k ∧ Below w.heap.size w wr ∧ ∀ (j : Nat) (s : St), j < k → list[j]? = some s → OkSt s) (fun i _ => n - (intOf i).toNat)
  case atStart => exact ⟨0, Nat.zero_le _, rfl, Below.refl _ _, fun j s h => by omega⟩
  case round =>
    rename World => W1
    obtain ⟨k, hk, rfl, hbl, hall⟩ := hrel
    have HALL := Lib.hid hall
    clear hall
    by_cases hlt : k < n
    case neg =>
      have hok : ∀ s ∈ list, OkSt s := fun s hs => by
        obtain ⟨i, hi⟩ := List.mem_iff_getElem?.1 hs
        have := (List.getElem?_eq_some_iff.1 hi).1
        have := HL.out
        exact HALL.out i s (by omega) hi
      have HT := Lib.hid (tableAfterS_any lo A n c list _ (hr.below hbl) (by omega) hok)
      have hty : tabF list = stepsF list [] := tabF_yes (by have := HL.out; omega)
      clear hok
      cases htb : stepsF list [] with
      | none =>
        have hnv : ¬ VS list := fun h => h (hty.trans htb)
        obtain rfl : R = false := HR.out.symm.trans (vsB_f hnv)
        rw [htb] at HT
        clear hnv hty htb
        go_wp2_with fail
        refine HT.out.mono ?_
        rintro e w3 ⟨rfl, hb3⟩
        go_wp2_with fail
        go_ret
        exact ⟨rfl, hbl.trans (hb3.mono hbl.size)⟩
      | some l =>
        obtain rfl : R = true := HR.out.symm.trans (vsB_t (VS_of (hty.trans htb)))
        rw [htb] at HT
        clear hty htb
        go_wp2_with fail
        refine HT.out.mono ?_
        rintro e w3 ⟨v3, rfl, ho3, hb3⟩
        go_wp2_with fail
        go_ret
        exact ⟨rfl, hbl.trans (hb3.mono hbl.size)⟩
    obtain ⟨b, o, x, rfl, _, hb, hx, g0, g1, g2, g3⟩ := (hr.below hbl).atS hlt
    by_cases hox : OkSt x
    · have HC := Lib.hid (validStep_t x W1 hox)
      have HN : Hid (∀ (j : Nat) (s : St), j < k + 1 → list[j]? = some s → OkSt s) := fun j s hj hs => by
        by_cases e : j = k
        · subst e; rw [hx] at hs; injection hs with hs; subst hs; exact hox
        · exact HALL.out j s (by omega) hs
      clear hox hx
      go_wp2_with fail
      refine HC.out.mono ?_
      rintro e w3 ⟨rfl, hb3⟩
      go_wp2_with fail
      go_roundw
      case rel => exact ⟨k + 1, by omega, by go_num, hbl.trans (hb3.mono hbl.size), HN.out⟩
      case measure => simp [intOf]; omega
    · have HC := Lib.hid (validStep_f x W1 hox)
      have hnv : ¬ VS list := not_VS_bad hx hox
      obtain rfl : R = false := HR.out.symm.trans (vsB_f hnv)
      clear hox hx hnv
      go_wp2_with fail
      refine HC.out.mono ?_
      rintro e w3 ⟨rfl, hb3⟩
      go_wp2_with fail
      go_ret
      exact ⟨rfl, hbl.trans (hb3.mono hbl.size)⟩
end Go.Proofs.YtcefgabdffipgaaDoor
