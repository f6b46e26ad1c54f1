/- The walks over grains, the reference's: locksFor, LocksFor, mayRead, mayWrite, MayRead, MayWrite, GrainFault. -/
import Derived.Test.YtkolhdlmpjehfaaDoorGrainW
import Derived.Test.YtkolhdlmpjehfaaDoorTabS
import Derived.Deep.RegionHeld3
namespace Go.Proofs.YtkolhdlmpjehfaaDoor
open Go.RowKit

theorem take_snocI' {l : List Int} {k : Nat} {x : Int} (h : l[k]? = some x) (f : Int → Lk) : (l.take (k + 1)).map f = (l.take k).map f ++ [f x] := by
  rw [take_snoc h, List.map_append]; rfl

set_option maxHeartbeats 1000000 in
theorem locksForS_t (lo : Nat) (A : Option Addr) (n c : Nat) (t : List Nd) (who node mode : Int) (w : World) (hr : Rd cN 3 w lo A n t) (h1 : IsNd t node) (hm : IsM mode) :
    Calls Tryd.prog 62 #[.slice A n c, .int .i64 who, .int .i64 node, .int .i64 mode] w (LksP w (lkF t who node mode)) := by
  have HN := Lib.hid h1
  have HM := Lib.hid hm
  have HPL := Lib.hid h1.path_len
  have hW := (Below.refl w.heap.size w).alloc (Nat.le_refl _) (.cells #[] 31)
  clear h1 hm
  go_enter Tryd.func62, Tryd.ntmps62
  go_wp2_with fail
  refine (pathTo_any lo A n c t node _ (hr.alloc _) HN.out).mono ?_
  rintro e w2 ⟨v2, rfl, ho2, hb2⟩
  have hB2 := hW.trans (hb2.mono hW.size)
  have hs2 := hB2.size
  obtain ⟨g, m, cap, rfl, hgb, hgl, hmc, hm⟩ := ho2.form HPL.out.2
  have hm5 : m ≤ 5 := by rw [hm]; exact HPL.out.1
  obtain ⟨q, rfl⟩ : ∃ q, m = q + 1 := ⟨m - 1, by have := HPL.out.2; omega⟩
  obtain ⟨_, hrd⟩ := ho2.rds elI.len (by have := HPL.out.1; omega)
  have hrt := hrd.take (k := q) (by omega)
  have HE : Hid ((pathL t node).take ((pathL t node).length - 1) = (pathL t node).take q) := by show _ = _; rw [← hm]; rfl
  generalize hP : (pathL t node).take q = P at *
  have hPl := hrt.len
  have hgs : w.heap.size < g := by have := hW.size; simp at hgb; omega
  have HPL2 := Lib.hid hPl
  have hol := ((Own.empty (cs := cL) (e := 31) w elL.len).below hb2)
  clear hb2 ho2 hrd hP hm hPl hW hgb
  go_wp2_with fail
  go_loopw [9, 11] (fun v i wr => ∃ k : Nat, k ≤ q ∧ i = .int .i64 k ∧ Below w.heap.size w wr ∧ Rd cI 1 wr g (some ⟨g, 0, none⟩) q P ∧ Own cL 3 31 wr w.heap.size v ((P.take k).map fun a => (⟨who, a, needF mode⟩ : Lk)) ∧ v.ownBlock ≠ some g) (fun _ i _ => q - (intOf i).toNat)
  case atStart => exact ⟨0, Nat.zero_le _, rfl, hB2, ⟨hrt.1, hrt.2.1, fun h => by obtain ⟨b, o, e, _, r⟩ := hrt.2.2 h; simp only [Option.some.injEq, Addr.mk.injEq, and_true] at e; obtain ⟨rfl, rfl⟩ := e; exact ⟨g, 0, rfl, Nat.le_refl _, r⟩⟩, by simpa using hol, by simp [Value.ownBlock]; omega⟩
  case round =>
    rename World => W1
    obtain ⟨k, hk, rfl, hbl, hrp, ho, hob⟩ := hrel
    have hs := hbl.size
    have hlen : ((P.take k).map fun a => (⟨who, a, needF mode⟩ : Lk)).length ≤ 5 := by rw [List.length_map, List.length_take]; omega
    have hqk : (q : Int) + 1 = (q : Int) + 1 := rfl
    by_cases hlt : k < q
    case neg =>
      have e : k = q := by omega
      subst e
      have HT : Hid (P.take k = P) := List.take_of_length_le (by have := HPL2.out; omega)
      rw [HT.out] at ho hlen
      clear hqk
      go_wp2_with (at_builtin; refine wpList_append_rd elL _ rfl (.tmp 34) (.tmp 39) rfl rfl (ho.alloc _) rfl (Rd_one _ #[.int .i64 who, .int .i64 node, .int .i64 mode] 31 ⟨who, node, mode⟩ rfl) (by omega) (by simp; omega) ?_; intro v5 w5 ho5 hg5 _)
      have hb5 := below_own (hbl.alloc hs _) (ho.alloc (.cells #[.int .i64 who, .int .i64 node, .int .i64 mode] 31)) hg5 (Nat.le_refl _) (by simp; omega)
      go_ret
      exact ⟨_, rfl, by unfold lkF; rw [HE.out]; exact ho5, hb5⟩
    obtain ⟨b, o, x, hA, _, hb, hx, g0⟩ := hrp.atI (k := k) hlt
    simp only [Option.some.injEq, Addr.mk.injEq, and_true] at hA
    obtain ⟨rfl, rfl⟩ := hA
    simp only [Nat.zero_add] at g0
    have HS := Lib.hid (take_snocI' hx fun a => (⟨who, a, needF mode⟩ : Lk))
    have HNA := Lib.hid (needAbove_t mode)
    have hki : (k : Int) + 1 < (q : Int) + 1 := by omega
    have hkl : (k : Int) < (q : Int) + 1 := by omega
    have HGB : Hid (g < W1.heap.size) := hb
    clear hx hqk
    generalize needF mode = nm at *
    go_wp2_with fail
    go_region_held3 (fun w' => w'.cell? ⟨g, k, none⟩ = some (.int .i64 x)) (first | go_keep | exact (World.cell?_of_block (hg5.block g (by simp; have := HGB.out; omega) (by intro e; exact hob e.symm))).trans ((World.cell?_alloc_lt W1 _ _ HGB.out).trans g0))
      ((first
        | (refine step_append_rd elL _ rfl (.tmp 23) (.tmp 32) rfl rfl (ho.alloc (.cells #[.int .i64 who, .int .i64 x, .int .i64 nm] 31)).drew rfl (Rd_one W1 #[.int .i64 who, .int .i64 x, .int .i64 nm] 31 ⟨who, x, nm⟩ rfl).drew (by omega) (by simp; omega) ?_; intro v5 w5 ho5 hg5 hx5; have hb5 := below_own ((hbl.alloc hs (.cells #[.int .i64 who, .int .i64 x, .int .i64 nm] 31)).drew) (ho.alloc (.cells #[.int .i64 who, .int .i64 x, .int .i64 nm] 31)).drew hg5 (Nat.le_refl _) (by simp; omega))
        | (go_simp; go_at_call 65; refine (HNA.out _ HM.out).mono ?_; rintro e w5 ⟨rfl, rfl⟩)))
    have hrp5 := Rd.ne ((hrp.alloc (.cells #[.int .i64 who, .int .i64 x, .int .i64 nm] 31)).drew) hg5 (fun e => hob e.symm)
    have hob5 : v5.ownBlock ≠ some g := by
      rcases hx5 with h | h
      · rw [h]; exact hob
      · rw [h]
        intro e
        injection e with e
        have e' : (W1.alloc (.cells #[.int .i64 who, .int .i64 x, .int .i64 nm] 31)).heap.size = g := e
        rw [World.size_alloc] at e'
        omega
    clear hg5 hx5 hrp
    go_wp2_with fail
    go_roundw
    case rel => exact ⟨k + 1, by omega, by go_num, hb5, hrp5, by rw [HS.out]; exact ho5, hob5⟩
    case measure => simp [intOf]; omega

theorem LocksForS_own (lo : Nat) (A : Option Addr) (n c : Nat) (t : List Nd) (who node mode : Int) (w : World) (hr : Rd cN 3 w lo A n t) (hc : n ≤ c) (hz : NmB t) :
    Calls Tryd.prog 26 #[.slice A n c, .int .i64 who, .int .i64 node, .int .i64 mode] w (LksP w (lksF t who node mode)) := by
  have hn := hr.le
  by_cases h1 : VT t
  case neg =>
    rw [lksF_no (fun h => h1 h.1.1)]
    have HC := Lib.hid (validTree_f lo A n c t w hr hc hz h1)
    clear h1
    go_enter Tryd.func26, Tryd.ntmps26
    go_wp2_with fail
    refine HC.out.mono ?_
    rintro e w1 ⟨rfl, hb1⟩
    go_wp2_with fail
    go_ret
    exact ⟨_, rfl, Own.nil _ _, hb1⟩
  have HC := Lib.hid (validTree_t lo A n c t w hr hc hz h1)
  by_cases q1 : 0 ≤ who ∧ who ≤ 3
  case neg =>
    rw [lksF_no (fun h => q1 h.2.1)]
    have q1' : who < 0 ∨ 3 < who := by omega
    clear q1 h1
    go_enter Tryd.func26, Tryd.ntmps26
    go_wp2_with fail
    refine HC.out.mono ?_
    rintro e w1 ⟨rfl, hb1⟩
    go_wp2_with (go_at_call 61; refine (inRange_f _ _ _ _ (by omega)).mono ?_; rintro e w3 ⟨rfl, rfl⟩)
    go_ret
    exact ⟨_, rfl, Own.nil _ _, hb1⟩
  by_cases q2 : 0 ≤ node ∧ node < n
  case neg =>
    rw [lksF_no (fun h => q2 ⟨h.1.2.1, by have := h.1.2.2; rw [hr.len] at this; exact this⟩)]
    have q2' : node < 0 ∨ (n : Int) - 1 < node := by omega
    clear q2 h1
    go_enter Tryd.func26, Tryd.ntmps26
    go_wp2_with fail
    refine HC.out.mono ?_
    rintro e w1 ⟨rfl, hb1⟩
    go_wp2_with (go_at_call 61; first | (refine (inRange_t _ _ _ _ (by omega) (by omega)).mono ?_; rintro e w3 ⟨rfl, rfl⟩) | (refine (inRange_f _ _ _ _ (by omega)).mono ?_; rintro e w3 ⟨rfl, rfl⟩))
    go_ret
    exact ⟨_, rfl, Own.nil _ _, hb1⟩
  by_cases q3 : 1 ≤ mode ∧ mode ≤ 5
  case neg =>
    rw [lksF_no (fun h => q3 h.2.2.2)]
    have q3' : mode < 1 ∨ 5 < mode := by omega
    clear q3 h1
    go_enter Tryd.func26, Tryd.ntmps26
    go_wp2_with fail
    refine HC.out.mono ?_
    rintro e w1 ⟨rfl, hb1⟩
    go_wp2_with (go_at_call 61; first | (refine (inRange_t _ _ _ _ (by omega) (by omega)).mono ?_; rintro e w3 ⟨rfl, rfl⟩) | (refine (inRange_f _ _ _ _ (by omega)).mono ?_; rintro e w3 ⟨rfl, rfl⟩))
    go_ret
    exact ⟨_, rfl, Own.nil _ _, hb1⟩
  have hnd : IsNd t node := ⟨h1, q2.1, by rw [hr.len]; exact q2.2⟩
  have hn12 : n ≤ 12 := by have := h1.2.1; rw [hr.len] at this; exact this
  rw [lksF_yes hnd ⟨q1, ⟨q2.1, by omega⟩, q3⟩]
  have hmm : IsM mode := ⟨by omega, q3.2⟩
  have HN := Lib.hid hnd
  have HM := Lib.hid hmm
  clear h1 hnd hmm
  go_enter Tryd.func26, Tryd.ntmps26
  go_wp2_with fail
  refine HC.out.mono ?_
  rintro e w1 ⟨rfl, hb1⟩
  go_wp2_with (go_at_call 61; refine (inRange_t _ _ _ _ (by omega) (by omega)).mono ?_; rintro e w3 ⟨rfl, rfl⟩)
  refine (locksForS_t lo A n c t who node mode _ (hr.below hb1) HN.out HM.out).mono ?_
  rintro e w2 ⟨v2, rfl, ho2, hb2⟩
  have HO := Lib.hid (ho2.low hb1.size)
  clear ho2
  go_wp2_with fail
  go_ret
  exact ⟨_, rfl, HO.out, hb1.trans (hb2.mono hb1.size)⟩
theorem LocksForS_any (lo : Nat) (A : Option Addr) (n c : Nat) (t : List Nd) (who node mode : Int) (w : World) (hr : Rd cN 3 w lo A n t) (hc : n ≤ c) (hz : NmB t) :
    Calls Tryd.prog 26 #[.slice A n c, .int .i64 who, .int .i64 node, .int .i64 mode] w (LksR w (lksF t who node mode)) := by
  refine (LocksForS_own lo A n c t who node mode w hr hc hz).mono ?_
  rintro e w1 ⟨v, rfl, ho, hb⟩
  obtain ⟨A', m, c', rfl, hmc, hrd⟩ := ho.rdn elL.len (by have := lksF_len t who node mode; omega)
  exact ⟨A', m, c', rfl, hmc, hrd, hb⟩

theorem any_rev {α : Type} (l : List α) (f : α → Bool) : l.reverse.any f = l.any f := by simp
theorem onP_rev (t : List Nd) (l : List Lk) (who mode node : Int) : onP t l who mode node = (pathL t node).any fun a => strF (heldF l who a) mode := by
  unfold onP pathL
  rw [any_rev]

set_option maxHeartbeats 1000000 in
theorem mayReadS_t (lo lo2 : Nat) (A A2 : Option Addr) (n c n2 c2 : Nat) (t : List Nd) (l : List Lk) (who node : Int) (w : World) (hr : Rd cN 3 w lo A n t) (hr2 : Rd cL 3 w lo2 A2 n2 l) (h1 : IsNd t node) (h2 : VTb l) :
    Calls Tryd.prog 70 #[.slice A n c, .slice A2 n2 c2, .int .i64 who, .int .i64 node] w fun e w' => e = .returned (.bool (onP t l who 3 node)) ∧ Below w.heap.size w w' := by
  generalize hR : onP t l who 3 node = R
  rw [onP_rev] at hR
  have HR := Lib.hid hR
  have HN := Lib.hid h1
  have HPL := Lib.hid h1.path_len
  have HH := Lib.hid (heldF_isM h2)
  clear hR h1 h2
  go_enter Tryd.func70, Tryd.ntmps70
  go_wp2_with fail
  refine (pathTo_any lo A n c t node _ hr HN.out).mono ?_
  rintro e w2 ⟨v2, rfl, ho2, hb2⟩
  obtain ⟨B, m, c', rfl, hmc, hrd⟩ := ho2.rdn elI.len (by have := HPL.out.1; omega)
  have hm5 : m ≤ 5 := by rw [← hrd.len]; exact HPL.out.1
  have HL := Lib.hid hrd.len
  have hr2' := hr2.below hb2
  clear ho2
  generalize pathL t node = P at *
  go_wp2_with fail
  go_loopw [10] (fun i wr => ∃ k : Nat, k ≤ m ∧ i = .int .i64 k ∧ wr = w2 ∧ ((P.drop k).any fun a => strF (heldF l who a) 3) = R) (fun i _ => m - (intOf i).toNat)
  case atStart => exact ⟨0, Nat.zero_le _, rfl, rfl, by simpa using HR.out⟩
  case round =>
    obtain ⟨k, hk, rfl, rfl, hK⟩ := hrel
    by_cases hlt : k < m
    case neg =>
      rw [List.drop_eq_nil_of_le (by have := HL.out; omega), List.any_nil] at hK
      have HK := Lib.hid hK
      clear hK
      go_wp2_with fail
      go_ret
      exact ⟨ret_bool HK.out, hb2⟩
    obtain ⟨b, o, x, rfl, _, hb, hx, g0⟩ := hrd.atI (k := k) hlt
    rw [drop_cons hx, List.any_cons, str3 (HH.out who x)] at hK
    have HC := Lib.hid (held_any lo2 A2 n2 c2 l who x _ hr2')
    clear hx
    by_cases h3 : 3 ≤ heldF l who x
    · rw [decide_eq_true h3, Bool.true_or] at hK
      have HK := Lib.hid hK
      clear hK
      go_wp2_with fail
      refine HC.out.mono ?_
      rintro e w3 ⟨rfl, rfl⟩
      go_wp2_with fail
      go_ret
      exact ⟨ret_bool HK.out, hb2⟩
    · rw [decide_eq_false h3, Bool.false_or] at hK
      have HK := Lib.hid hK
      have h3' : heldF l who x < 3 := by omega
      clear hK h3
      go_wp2_with fail
      refine HC.out.mono ?_
      rintro e w3 ⟨rfl, rfl⟩
      go_wp2_with fail
      go_roundw
      case rel => exact ⟨k + 1, by omega, by go_num, by first | trivial | rfl, HK.out⟩
      case measure => simp [intOf]; omega

theorem MayReadS_any (lo lo2 : Nat) (A A2 : Option Addr) (n c n2 c2 : Nat) (t : List Nd) (l : List Lk) (who node : Int) (w : World) (hr : Rd cN 3 w lo A n t) (hc : n ≤ c) (hz : NmB t) (hr2 : Rd cL 3 w lo2 A2 n2 l) :
    Calls Tryd.prog 34 #[.slice A n c, .slice A2 n2 c2, .int .i64 who, .int .i64 node] w fun e w' => e = .returned (.bool (mayF 3 t l who node)) ∧ Below w.heap.size w w' := by
  have hn := hr.le
  by_cases h1 : VT t
  case neg =>
    rw [mayF_no (fun h => h1 h.1.1)]
    have HC := Lib.hid (validTree_f lo A n c t w hr hc hz h1)
    clear h1
    go_enter Tryd.func34, Tryd.ntmps34
    go_wp2_with fail
    refine HC.out.mono ?_
    rintro e w1 ⟨rfl, hb1⟩
    go_wp2_with fail
    go_ret
    exact ⟨rfl, hb1⟩
  have HC := Lib.hid (validTree_t lo A n c t w hr hc hz h1)
  by_cases h2 : VTb l
  case neg =>
    rw [mayF_no (fun h => h2 h.2)]
    have H2 := Lib.hid h2
    clear h1 h2
    go_enter Tryd.func34, Tryd.ntmps34
    go_wp2_with fail
    refine HC.out.mono ?_
    rintro e w1 ⟨rfl, hb1⟩
    go_wp2_with fail
    refine (validTable_f lo2 A2 n2 c2 l _ (hr2.below hb1) H2.out).mono ?_
    rintro e w2 ⟨rfl, hb2⟩
    go_wp2_with fail
    go_ret
    exact ⟨rfl, hb1.trans (hb2.mono hb1.size)⟩
  have H2 := Lib.hid h2
  by_cases h3 : 0 ≤ node ∧ node < n
  case neg =>
    rw [mayF_no (fun h => h3 ⟨h.1.2.1, by have := h.1.2.2; rw [hr.len] at this; exact this⟩)]
    have h3' : node < 0 ∨ (n : Int) - 1 < node := by omega
    clear h1 h2 h3
    go_enter Tryd.func34, Tryd.ntmps34
    go_wp2_with fail
    refine HC.out.mono ?_
    rintro e w1 ⟨rfl, hb1⟩
    go_wp2_with fail
    refine (validTable_t lo2 A2 n2 c2 l _ (hr2.below hb1) H2.out).mono ?_
    rintro e w2 ⟨rfl, hb2⟩
    go_wp2_with (go_at_call 61; refine (inRange_f _ _ _ _ (by omega)).mono ?_; rintro e w3 ⟨rfl, rfl⟩)
    go_ret
    exact ⟨rfl, hb1.trans (hb2.mono hb1.size)⟩
  have hnd : IsNd t node := ⟨h1, h3.1, by rw [hr.len]; exact h3.2⟩
  rw [mayF_yes hnd h2]
  have HN := Lib.hid hnd
  clear h1 h2 hnd
  go_enter Tryd.func34, Tryd.ntmps34
  go_wp2_with fail
  refine HC.out.mono ?_
  rintro e w1 ⟨rfl, hb1⟩
  go_wp2_with fail
  refine (validTable_t lo2 A2 n2 c2 l _ (hr2.below hb1) H2.out).mono ?_
  rintro e w2 ⟨rfl, hb2⟩
  have hB2 := hb1.trans (hb2.mono hb1.size)
  go_wp2_with (go_at_call 61; refine (inRange_t _ _ _ _ (by omega) (by omega)).mono ?_; rintro e w3 ⟨rfl, rfl⟩)
  refine (mayReadS_t lo lo2 A A2 n c n2 c2 t l who node _ (hr.below hB2) (hr2.below hB2) HN.out H2.out).mono ?_
  rintro e w4 ⟨rfl, hb4⟩
  go_wp2_with fail
  go_ret
  exact ⟨rfl, hB2.trans (hb4.mono hB2.size)⟩
set_option maxHeartbeats 1000000 in
theorem mayWriteS_t (lo lo2 : Nat) (A A2 : Option Addr) (n c n2 c2 : Nat) (t : List Nd) (l : List Lk) (who node : Int) (w : World) (hr : Rd cN 3 w lo A n t) (hr2 : Rd cL 3 w lo2 A2 n2 l) (h1 : IsNd t node) (h2 : VTb l) :
    Calls Tryd.prog 72 #[.slice A n c, .slice A2 n2 c2, .int .i64 who, .int .i64 node] w fun e w' => e = .returned (.bool (onP t l who 5 node)) ∧ Below w.heap.size w w' := by
  generalize hR : onP t l who 5 node = R
  rw [onP_rev] at hR
  have HR := Lib.hid hR
  have HN := Lib.hid h1
  have HPL := Lib.hid h1.path_len
  have HH := Lib.hid (heldF_isM h2)
  clear hR h1 h2
  go_enter Tryd.func72, Tryd.ntmps72
  go_wp2_with fail
  refine (pathTo_any lo A n c t node _ hr HN.out).mono ?_
  rintro e w2 ⟨v2, rfl, ho2, hb2⟩
  obtain ⟨B, m, c', rfl, hmc, hrd⟩ := ho2.rdn elI.len (by have := HPL.out.1; omega)
  have hm5 : m ≤ 5 := by rw [← hrd.len]; exact HPL.out.1
  have HL := Lib.hid hrd.len
  have hr2' := hr2.below hb2
  clear ho2
  generalize pathL t node = P at *
  go_wp2_with fail
  go_loopw [10] (fun i wr => ∃ k : Nat, k ≤ m ∧ i = .int .i64 k ∧ wr = w2 ∧ ((P.drop k).any fun a => strF (heldF l who a) 5) = R) (fun i _ => m - (intOf i).toNat)
  case atStart => exact ⟨0, Nat.zero_le _, rfl, rfl, by simpa using HR.out⟩
  case round =>
    obtain ⟨k, hk, rfl, rfl, hK⟩ := hrel
    by_cases hlt : k < m
    case neg =>
      rw [List.drop_eq_nil_of_le (by have := HL.out; omega), List.any_nil] at hK
      have HK := Lib.hid hK
      clear hK
      go_wp2_with fail
      go_ret
      exact ⟨ret_bool HK.out, hb2⟩
    obtain ⟨b, o, x, rfl, _, hb, hx, g0⟩ := hrd.atI (k := k) hlt
    rw [drop_cons hx, List.any_cons, str5 (HH.out who x)] at hK
    have HC := Lib.hid (held_any lo2 A2 n2 c2 l who x _ hr2')
    clear hx
    by_cases h3 : heldF l who x = 5
    · rw [decide_eq_true h3, Bool.true_or] at hK
      have HK := Lib.hid hK
      clear hK
      go_wp2_with fail
      refine HC.out.mono ?_
      rintro e w3 ⟨rfl, rfl⟩
      go_wp2_with fail
      go_ret
      exact ⟨ret_bool HK.out, hb2⟩
    · rw [decide_eq_false h3, Bool.false_or] at hK
      have HK := Lib.hid hK
      have h3' : (heldF l who x == 5) = false := by simpa using h3
      clear hK h3
      go_wp2_with fail
      refine HC.out.mono ?_
      rintro e w3 ⟨rfl, rfl⟩
      go_wp2_with fail
      go_roundw
      case rel => exact ⟨k + 1, by omega, by go_num, by first | trivial | rfl, HK.out⟩
      case measure => simp [intOf]; omega

theorem MayWriteS_any (lo lo2 : Nat) (A A2 : Option Addr) (n c n2 c2 : Nat) (t : List Nd) (l : List Lk) (who node : Int) (w : World) (hr : Rd cN 3 w lo A n t) (hc : n ≤ c) (hz : NmB t) (hr2 : Rd cL 3 w lo2 A2 n2 l) :
    Calls Tryd.prog 39 #[.slice A n c, .slice A2 n2 c2, .int .i64 who, .int .i64 node] w fun e w' => e = .returned (.bool (mayF 5 t l who node)) ∧ Below w.heap.size w w' := by
  have hn := hr.le
  by_cases h1 : VT t
  case neg =>
    rw [mayF_no (fun h => h1 h.1.1)]
    have HC := Lib.hid (validTree_f lo A n c t w hr hc hz h1)
    clear h1
    go_enter Tryd.func39, Tryd.ntmps39
    go_wp2_with fail
    refine HC.out.mono ?_
    rintro e w1 ⟨rfl, hb1⟩
    go_wp2_with fail
    go_ret
    exact ⟨rfl, hb1⟩
  have HC := Lib.hid (validTree_t lo A n c t w hr hc hz h1)
  by_cases h2 : VTb l
  case neg =>
    rw [mayF_no (fun h => h2 h.2)]
    have H2 := Lib.hid h2
    clear h1 h2
    go_enter Tryd.func39, Tryd.ntmps39
    go_wp2_with fail
    refine HC.out.mono ?_
    rintro e w1 ⟨rfl, hb1⟩
    go_wp2_with fail
    refine (validTable_f lo2 A2 n2 c2 l _ (hr2.below hb1) H2.out).mono ?_
    rintro e w2 ⟨rfl, hb2⟩
    go_wp2_with fail
    go_ret
    exact ⟨rfl, hb1.trans (hb2.mono hb1.size)⟩
  have H2 := Lib.hid h2
  by_cases h3 : 0 ≤ node ∧ node < n
  case neg =>
    rw [mayF_no (fun h => h3 ⟨h.1.2.1, by have := h.1.2.2; rw [hr.len] at this; exact this⟩)]
    have h3' : node < 0 ∨ (n : Int) - 1 < node := by omega
    clear h1 h2 h3
    go_enter Tryd.func39, Tryd.ntmps39
    go_wp2_with fail
    refine HC.out.mono ?_
    rintro e w1 ⟨rfl, hb1⟩
    go_wp2_with fail
    refine (validTable_t lo2 A2 n2 c2 l _ (hr2.below hb1) H2.out).mono ?_
    rintro e w2 ⟨rfl, hb2⟩
    go_wp2_with (go_at_call 61; refine (inRange_f _ _ _ _ (by omega)).mono ?_; rintro e w3 ⟨rfl, rfl⟩)
    go_ret
    exact ⟨rfl, hb1.trans (hb2.mono hb1.size)⟩
  have hnd : IsNd t node := ⟨h1, h3.1, by rw [hr.len]; exact h3.2⟩
  rw [mayF_yes hnd h2]
  have HN := Lib.hid hnd
  clear h1 h2 hnd
  go_enter Tryd.func39, Tryd.ntmps39
  go_wp2_with fail
  refine HC.out.mono ?_
  rintro e w1 ⟨rfl, hb1⟩
  go_wp2_with fail
  refine (validTable_t lo2 A2 n2 c2 l _ (hr2.below hb1) H2.out).mono ?_
  rintro e w2 ⟨rfl, hb2⟩
  have hB2 := hb1.trans (hb2.mono hb1.size)
  go_wp2_with (go_at_call 61; refine (inRange_t _ _ _ _ (by omega) (by omega)).mono ?_; rintro e w3 ⟨rfl, rfl⟩)
  refine (mayWriteS_t lo lo2 A A2 n c n2 c2 t l who node _ (hr.below hB2) (hr2.below hB2) HN.out H2.out).mono ?_
  rintro e w4 ⟨rfl, hb4⟩
  go_wp2_with fail
  go_ret
  exact ⟨rfl, hB2.trans (hb4.mono hB2.size)⟩
set_option maxHeartbeats 1000000 in
theorem GrainFaultS_any (lo lo2 : Nat) (A A2 : Option Addr) (n c n2 c2 : Nat) (t : List Nd) (l : List Lk) (who : Int) (w : World) (hr : Rd cN 3 w lo A n t) (hc : n ≤ c) (hz : NmB t) (hr2 : Rd cL 3 w lo2 A2 n2 l) :
    Calls Tryd.prog 29 #[.slice A n c, .slice A2 n2 c2, .int .i64 who] w fun e w' => e = .returned (.int .i64 (gfF t l who)) ∧ Below w.heap.size w w' := by
  by_cases h1 : VT t
  case neg =>
    rw [gfF_no (fun h => h1 h.1)]
    have HC := Lib.hid (validTree_f lo A n c t w hr hc hz h1)
    clear h1
    go_enter Tryd.func29, Tryd.ntmps29
    go_wp2_with fail
    refine HC.out.mono ?_
    rintro e w1 ⟨rfl, hb1⟩
    go_wp2_with fail
    go_ret
    exact ⟨rfl, hb1⟩
  have HC := Lib.hid (validTree_t lo A n c t w hr hc hz h1)
  by_cases h2 : VTb l
  case neg =>
    rw [gfF_no (fun h => h2 h.2)]
    have H2 := Lib.hid h2
    clear h1 h2
    go_enter Tryd.func29, Tryd.ntmps29
    go_wp2_with fail
    refine HC.out.mono ?_
    rintro e w1 ⟨rfl, hb1⟩
    go_wp2_with fail
    refine (validTable_f lo2 A2 n2 c2 l _ (hr2.below hb1) H2.out).mono ?_
    rintro e w2 ⟨rfl, hb2⟩
    go_wp2_with fail
    go_ret
    exact ⟨rfl, hb1.trans (hb2.mono hb1.size)⟩
  rw [gfF_yes h1 h2]
  generalize hR : gfL l who (t.drop 1) 1 = R
  have HR := Lib.hid hR
  have H2 := Lib.hid h2
  have HL := Lib.hid hr.len
  have hn1 : 1 ≤ n := by have := h1.1; rw [hr.len] at this; exact this
  have hle := hr.le
  clear h1 h2 hR
  go_enter Tryd.func29, Tryd.ntmps29
  go_wp2_with fail
  refine HC.out.mono ?_
  rintro e w1 ⟨rfl, hb1⟩
  go_wp2_with fail
  refine (validTable_t lo2 A2 n2 c2 l _ (hr2.below hb1) H2.out).mono ?_
  rintro e w2 ⟨rfl, hb2⟩
  have hB2 := hb1.trans (hb2.mono hb1.size)
  clear HC hb1 hb2
  go_wp2_with fail
  go_loopw [7] (fun i wr => ∃ k : Nat, 1 ≤ k ∧ k ≤ n ∧ i = .int .i64 k ∧ Below w.heap.size w wr ∧ gfL l who (t.drop k) k = R) (fun i _ => n - (intOf i).toNat)
  case atStart => exact ⟨1, Nat.le_refl _, hn1, rfl, hB2, HR.out⟩
  case round =>
    rename World => W1
    obtain ⟨k, hk1, hk, rfl, hbl, hK⟩ := hrel
    have hs := hbl.size
    by_cases hlt : k < n
    case neg =>
      rw [List.drop_eq_nil_of_le (by have := HL.out; omega), gfL] at hK
      have HK := Lib.hid hK
      clear hK
      go_wp2_with fail
      go_ret
      exact ⟨ret_int HK.out, hbl⟩
    obtain ⟨b, o, x, rfl, _, hb, hx, g0, g1, g2⟩ := (hr.below hbl).atN (k := k) hlt
    rw [drop_cons hx, gfL] at hK
    have hm := heldF_isM H2.out
    have HH := Lib.hid (held_any lo2 A2 n2 c2 l who k _ (hr2.below hbl))
    have a0 := aft g0
    have HP := Lib.hid (fun w' (hb' : Below W1.heap.size W1 w') => held_any lo2 A2 n2 c2 l who x.par w' ((hr2.below hbl).below hb'))
    have HN := Lib.hid (fun w' => needAbove_t (heldF l who k) w' (hm _ _))
    have HJ := Lib.hid (fun w' => joined_t (heldF l who x.par) (needF (heldF l who k)) w' (hm _ _) (needF_isM _))
    have hst : strF (heldF l who x.par) (needF (heldF l who k)) = decide (joinF (heldF l who x.par) (needF (heldF l who k)) = heldF l who x.par) := rfl
    rw [hst] at hK
    clear hx g0 g1 g2 hb hm hst
    generalize joinF (heldF l who x.par) (needF (heldF l who k)) = J at *
    generalize needF (heldF l who k) = nm at *
    generalize heldF l who x.par = hp at *
    generalize heldF l who k = hk' at *
    by_cases hj : J = hp
    · subst hj
      rw [if_neg (by simp)] at hK
      have HK := Lib.hid hK
      clear hK
      go_wp2_with fail
      refine HH.out.mono ?_
      rintro e w3 ⟨rfl, rfl⟩
      go_wp2_with fail
      refine wp_region_after (by kernel_rfl) (by kernel_rfl) ?_
      repeat (go_big_quiet_step ((first
        | (go_at_call 63; exact aft_same (HP.out _ (After.below _)))
        | (go_at_call 65; exact aft_same (HN.out _))
        | (go_at_call 64; exact aft_same (HJ.out _)))))
      refine wpQuiet_nil ?_
      intro w7 hb7
      go_wp2_with fail
      go_roundw
      case rel => exact ⟨k + 1, by omega, by omega, by go_num, hbl.trans (hb7.mono hs), HK.out⟩
      case measure => simp [intOf]; omega
    · rw [decide_eq_false hj, if_pos rfl] at hK
      have HK := Lib.hid hK
      have hj' : (J != hp) = true := by simpa using hj
      clear hK hj
      go_wp2_with fail
      refine HH.out.mono ?_
      rintro e w3 ⟨rfl, rfl⟩
      go_wp2_with fail
      refine wp_region_after (by kernel_rfl) (by kernel_rfl) ?_
      repeat (go_big_quiet_step ((first
        | (go_at_call 63; exact aft_same (HP.out _ (After.below _)))
        | (go_at_call 65; exact aft_same (HN.out _))
        | (go_at_call 64; exact aft_same (HJ.out _)))))
      refine wpQuiet_nil ?_
      intro w7 hb7
      go_wp2_with fail
      go_ret
      exact ⟨ret_int HK.out, hbl.trans (hb7.mono hs)⟩
end Go.Proofs.YtkolhdlmpjehfaaDoor
