/- The walks over AlongFault, GoesAlong, NextAlong of the reference. -/
import Derived.Test.YtcefgabdffipgaaDoorAlongS
import Derived.Test.YtcefgabdffipgaaDoorDrawStep
namespace Go.Proofs.YtcefgabdffipgaaDoor
open Go.RowKit

set_option maxHeartbeats 1000000 in
theorem GoesAlongS_any (lo lo2 : Nat) (A A2 : Option Addr) (n c m c2 : Nat) (t : List Nd) (list : List St) (w : World) (hr : Rd cN 3 w lo A n t) (hc : n ≤ c) (hz : NmB t) (hr2 : Rd cS 4 w lo2 A2 m list) (hm : m ≤ 1000000) :
    Calls Tryd.prog 6 #[.slice A n c, .slice A2 m c2] w fun e w' => e = .returned (.bool (gaB t list)) ∧ Below w.heap.size w w' := by
  have HL2 := Lib.hid hr2.len
  have HC := Lib.hid (validTree_any lo A n c t w hr hc hz)
  by_cases h1 : VT t
  case neg =>
    rw [gaB_f fun h => h1 h.1]
    rw [vt_false h1] at HC
    clear h1
    go_enter Tryd.func6, Tryd.ntmps6
    go_wp2_with fail
    refine HC.out.mono ?_
    rintro e w3 ⟨rfl, hb3⟩
    go_wp2_with fail
    go_ret
    exact ⟨rfl, hb3⟩
  rw [vt_true h1] at HC
  by_cases h2 : VS list
  case neg =>
    rw [gaB_f fun h => h2 h.2.1]
    have HV : Hid (∀ w', Below w.heap.size w w' → Calls Tryd.prog 16 #[.slice A2 m c2] w' fun e w'' => e = .returned (.bool false) ∧ Below w'.heap.size w' w'') := fun w' hb' => by
      have := validSteps_any lo2 A2 m c2 list w' (hr2.below hb') hm
      rw [vsB_f h2] at this
      exact this
    clear h1 h2
    go_enter Tryd.func6, Tryd.ntmps6
    go_wp2_with fail
    refine HC.out.mono ?_
    rintro e w3 ⟨rfl, hb3⟩
    have HV2 := Lib.hid (HV.out _ hb3)
    go_wp2_with fail
    refine HV2.out.mono ?_
    rintro e w4 ⟨rfl, hb4⟩
    go_wp2_with fail
    go_ret
    exact ⟨rfl, hb3.trans (hb4.mono hb3.size)⟩
  have HV : Hid (∀ w', Below w.heap.size w w' → Calls Tryd.prog 16 #[.slice A2 m c2] w' fun e w'' => e = .returned (.bool true) ∧ Below w'.heap.size w' w'') := fun w' hb' => by
    have := validSteps_any lo2 A2 m c2 list w' (hr2.below hb') hm
    rw [vsB_t h2] at this
    exact this
  have HAF : Hid (∀ (who : Int) w', Below w.heap.size w w' → Calls Tryd.prog 17 #[.slice A n c, .slice A2 m c2, .int .i64 who] w' fun e w'' => e = .returned (.int .i64 (alF t list who)) ∧ Below w'.heap.size w' w'') := fun who w' hb' =>
    alongFault_any lo lo2 A A2 n c m c2 t list who w' (hr.below hb') (hr2.below hb') (by have := h2.len; have := HL2.out; omega) (fun s hs => (h2.ok s hs).2.1.1) (fun i _ => let ⟨mm, h, _⟩ := h2.tab i; ⟨mm, h⟩)
  generalize hR : gaB t list = R
  have HR := Lib.hid hR
  have HVT := Lib.hid h1
  have HVS := Lib.hid h2
  clear hR h1 h2
  go_enter Tryd.func6, Tryd.ntmps6
  go_wp2_with fail
  refine HC.out.mono ?_
  rintro e w3 ⟨rfl, hb3⟩
  have HV2 := Lib.hid (HV.out _ hb3)
  go_wp2_with fail
  refine HV2.out.mono ?_
  rintro e w4 ⟨rfl, hb4⟩
  have hB4 := hb3.trans (hb4.mono hb3.size)
  clear HC HV HV2 hb3 hb4
  go_wp2_with fail
  go_loopw [5] (fun i wr => ∃ k : Nat, k ≤ 4 ∧ i = .int .i64 k ∧ Below w.heap.size w wr ∧ ∀ j : Nat, j < k → alF t list j = -1) (fun i _ => 4 - (intOf i).toNat)
  case atStart => exact ⟨0, Nat.zero_le _, rfl, hB4, fun j h => by omega⟩
  case round =>
    rename World => W1
    obtain ⟨k, hk, rfl, hbl, hall⟩ := hrel
    have hs := hbl.size
    have HALL := Lib.hid hall
    clear hall
    by_cases hlt : k < 4
    case neg =>
      have : R = true := by
        rw [← HR.out]
        refine gaB_t ⟨HVT.out, HVS.out, fun who h0 h3 => ?_⟩
        have := HALL.out who.toNat (by omega)
        rw [show ((who.toNat : Nat) : Int) = who by omega] at this
        exact this
      subst this
      go_wp2_with fail
      go_ret
      exact ⟨rfl, hbl⟩
    have hlt' : (k : Int) < 4 := by omega
    have HA := Lib.hid (HAF.out (k : Int) W1 hbl)
    have hge := (alF_lt (t := t) (list := list) (who := (k : Int))).1
    by_cases hz1 : alF t list (k : Int) = -1
    · have HN : Hid (∀ j : Nat, j < k + 1 → alF t list j = -1) := fun j hj => by
        by_cases e : j = k
        · rw [e]; exact hz1
        · exact HALL.out j (by omega)
      rw [hz1] at HA
      clear hz1 hge
      go_wp2_with fail
      refine HA.out.mono ?_
      rintro e w5 ⟨rfl, hb5⟩
      go_wp2_with fail
      go_roundw
      case rel => exact ⟨k + 1, by omega, by go_num, hbl.trans (hb5.mono hs), HN.out⟩
      case measure => simp [intOf]; omega
    · have : R = false := by
        rw [← HR.out]
        exact gaB_f fun h => hz1 (h.2.2 k (by omega) (by omega))
      subst this
      generalize alF t list (k : Int) = q at *
      have hq : 0 ≤ q := by omega
      clear hz1 hge
      go_wp2_with fail
      refine HA.out.mono ?_
      rintro e w5 ⟨rfl, hb5⟩
      go_wp2_with fail
      go_ret
      exact ⟨rfl, hbl.trans (hb5.mono hs)⟩
open Classical in
/-- The nodes that can be locked next; none where that is not asked rightly. -/
noncomputable def naI (t : List Nd) (list : List St) (who : Int) : List Int := if NA t list who then naF t ((tabF list).getD []) (hadF list who) who else []
theorem naI_yes {t : List Nd} {list : List St} {who : Int} {m : List Lk} (h : NA t list who) (hm : tabF list = some m) : naI t list who = naF t m (hadF list who) who := by unfold naI; rw [if_pos h, hm]; rfl
theorem naI_no {t : List Nd} {list : List St} {who : Int} (h : ¬ NA t list who) : naI t list who = [] := by unfold naI; rw [if_neg h]
theorem naI_len (t : List Nd) (list : List St) (who : Int) : (naI t list who).length ≤ 12 := by
  unfold naI
  split
  · rename_i h
    exact Nat.le_trans (naF_len _ _ _ _) h.1.2.1
  · simp
/-- A further step along the tree. -/
theorem alF_more {t : List Nd} {list : List St} {who n : Int} {m : List Lk} (h : NA t list who) (hm : tabF list = some m) :
    (Goes t m (hadF list who) who n → alF t (list ++ [⟨who, false, n, 5⟩]) who = -1) ∧ (¬ Goes t m (hadF list who) who n → alF t (list ++ [⟨who, false, n, 5⟩]) who = list.length) := by
  obtain ⟨_, hm'⟩ := tabF_some hm
  have h1 : ∀ j, j < list.length → fltB t (list ++ [⟨who, false, n, 5⟩]) who j = false := fun j hj => by rw [fltB_pre hj]; exact alF_clean h.2.2.2 j hj
  have hs : (list ++ [(⟨who, false, n, 5⟩ : St)])[list.length]? = some ⟨who, false, n, 5⟩ := by simp
  have hst : stepsF ((list ++ [(⟨who, false, n, 5⟩ : St)]).take list.length) [] = some m := by rw [List.take_left]; exact hm'
  have hh : hadF ((list ++ [(⟨who, false, n, 5⟩ : St)]).take list.length) who = hadF list who := by rw [List.take_left]
  constructor
  · intro hg
    refine alF_none fun j hj => ?_
    by_cases e : j < list.length
    · exact h1 j e
    · have ej : j = list.length := by simp at hj; omega
      subst ej
      exact fltB_f hs hst fun hf => hf.2 ⟨rfl, by rw [hh]; exact hg⟩
  · intro hg
    exact alF_hit (by simp) (fltB_t hs hst ⟨⟨rfl, rfl⟩, fun hf => hg (by rw [← hh]; exact hf.2)⟩) h1
set_option maxRecDepth 100000 in
set_option maxHeartbeats 3200000 in
theorem NextAlongS_any (lo lo2 : Nat) (A A2 : Option Addr) (n c m c2 : Nat) (t : List Nd) (list : List St) (who : Int) (w : World) (hr : Rd cN 3 w lo A n t) (hc : n ≤ c) (hz : NmB t) (hr2 : Rd cS 4 w lo2 A2 m list) (hm : m ≤ 1000000) :
    Calls Tryd.prog 52 #[.slice A n c, .slice A2 m c2, .int .i64 who] w (IntsP w (naI t list who)) := by
  have HL := Lib.hid hr.len
  have HL2 := Lib.hid hr2.len
  have hW0 := (Below.refl w.heap.size w).alloc (Nat.le_refl _) (.cells #[] 3)
  have HC := Lib.hid (validTree_any lo A n c t _ (hr.below hW0) hc hz)
  by_cases h1 : VT t
  case neg =>
    rw [naI_no fun h => h1 h.1]
    rw [vt_false h1] at HC
    clear h1
    go_enter Tryd.func52, Tryd.ntmps52
    go_wp2_with fail
    refine HC.out.mono ?_
    rintro e w3 ⟨rfl, hb3⟩
    go_wp2_with fail
    go_ret
    exact ⟨_, rfl, Own.nil _ _, hW0.trans (hb3.mono hW0.size)⟩
  rw [vt_true h1] at HC
  have HV : Hid (∀ w', Below w.heap.size w w' → Calls Tryd.prog 16 #[.slice A2 m c2] w' fun e w'' => e = .returned (.bool (vsB list)) ∧ Below w'.heap.size w' w'') := fun w' hb' => validSteps_any lo2 A2 m c2 list w' (hr2.below hb') hm
  by_cases h2 : VS list
  case neg =>
    rw [naI_no fun h => h2 h.2.1]
    rw [vsB_f h2] at HV
    clear h1 h2
    go_enter Tryd.func52, Tryd.ntmps52
    go_wp2_with fail
    refine HC.out.mono ?_
    rintro e w3 ⟨rfl, hb3⟩
    have hB3 := hW0.trans (hb3.mono hW0.size)
    have HV2 := Lib.hid (HV.out _ hB3)
    go_wp2_with fail
    refine HV2.out.mono ?_
    rintro e w4 ⟨rfl, hb4⟩
    go_wp2_with fail
    go_ret
    exact ⟨_, rfl, Own.nil _ _, hB3.trans (hb4.mono hB3.size)⟩
  rw [vsB_t h2] at HV
  by_cases h3 : 0 ≤ who ∧ who ≤ 3
  case neg =>
    rw [naI_no fun h => h3 h.2.2.1]
    have HI : Hid (∀ w', Calls Tryd.prog 36 #[.int .i64 who, .int .i64 0, .int .i64 3] w' fun e w'' => e = .returned (.bool false) ∧ w' = w'') := fun w' => inRange_f who 0 3 w' (by omega)
    clear h1 h2 h3
    go_enter Tryd.func52, Tryd.ntmps52
    go_wp2_with fail
    refine HC.out.mono ?_
    rintro e w3 ⟨rfl, hb3⟩
    have hB3 := hW0.trans (hb3.mono hW0.size)
    have HV2 := Lib.hid (HV.out _ hB3)
    go_wp2_with fail
    refine HV2.out.mono ?_
    rintro e w4 ⟨rfl, hb4⟩
    go_wp2_with fail
    refine (HI.out _).mono ?_
    rintro e w5 ⟨rfl, rfl⟩
    go_wp2_with fail
    go_ret
    exact ⟨_, rfl, Own.nil _ _, hB3.trans (hb4.mono hB3.size)⟩
  have HI : Hid (∀ w', Calls Tryd.prog 36 #[.int .i64 who, .int .i64 0, .int .i64 3] w' fun e w'' => e = .returned (.bool true) ∧ w' = w'') := fun w' => inRange_t who 0 3 w' h3.1 h3.2
  have hm16 : m ≤ 16 := by have := h2.len; have := HL2.out; omega
  have HA : Hid (∀ w', Below w.heap.size w w' → Calls Tryd.prog 17 #[.slice A n c, .slice A2 m c2, .int .i64 who] w' fun e w'' => e = .returned (.int .i64 (alF t list who)) ∧ Below w'.heap.size w' w'') := fun w' hb' =>
    alongFault_any lo lo2 A A2 n c m c2 t list who w' (hr.below hb') (hr2.below hb') (by omega) (fun s hs => (h2.ok s hs).2.1.1) (fun i _ => let ⟨mm, h, _⟩ := h2.tab i; ⟨mm, h⟩)
  have hge := (alF_lt (t := t) (list := list) (who := who)).1
  by_cases h4 : alF t list who = -1
  case neg =>
    rw [naI_no fun h => h4 h.2.2.2]
    generalize alF t list who = q at *
    have hq : ¬ q < 0 := by omega
    have hq' : 0 ≤ q := by omega
    clear h1 h2 h3 h4 hge
    go_enter Tryd.func52, Tryd.ntmps52
    go_wp2_with fail
    refine HC.out.mono ?_
    rintro e w3 ⟨rfl, hb3⟩
    have hB3 := hW0.trans (hb3.mono hW0.size)
    have HV2 := Lib.hid (HV.out _ hB3)
    go_wp2_with fail
    refine HV2.out.mono ?_
    rintro e w4 ⟨rfl, hb4⟩
    have hB4 := hB3.trans (hb4.mono hB3.size)
    have HA2 := Lib.hid (HA.out _ hB4)
    go_wp2_with fail
    refine (HI.out _).mono ?_
    rintro e w5 ⟨rfl, rfl⟩
    go_wp2_with fail
    refine HA2.out.mono ?_
    rintro e w6 ⟨rfl, hb6⟩
    go_wp2_with fail
    go_ret
    exact ⟨_, rfl, Own.nil _ _, hB4.trans (hb6.mono hB4.size)⟩
  have hNA : NA t list who := ⟨h1, h2, h3, h4⟩
  obtain ⟨mm, hmm⟩ := h2.ex
  have hvm := tabF_VTb hmm
  rw [naI_yes hNA hmm]
  rw [h4] at HA
  have HTA : Hid (∀ w', Below w.heap.size w w' → Calls Tryd.prog 38 #[.slice A2 m c2] w' (LksT w' mm)) := fun w' hb' => by
    have := tableAfterS_any lo2 A2 m c2 list w' (hr2.below hb') (by omega) h2.ok
    rw [(tabF_some hmm).2] at this
    exact this
  have HMORE : Hid (∀ (k : Nat) (w' : World) (lo' : Nat) (A' : Option Addr) (c' : Nat), k < n → Below w.heap.size w w' → Rd cS 4 w' lo' A' (m + 1) (list ++ [⟨who, false, (k : Int), 5⟩]) → Calls Tryd.prog 17 #[.slice A n c, .slice A' (m + 1) c', .int .i64 who] w' fun e w'' => e = .returned (.int .i64 (alF t (list ++ [⟨who, false, (k : Int), 5⟩]) who)) ∧ Below w'.heap.size w' w'') := fun k w' lo' A' c' hk hb' hr' =>
    alongFault_any lo lo' A A' n c (m + 1) c' t _ who w' (hr.below hb') hr' (by omega) (fun s hs => by
      rcases List.mem_append.1 hs with hs | hs
      · exact (h2.ok s hs).2.1.1
      · simp at hs; rw [hs]; exact Int.natCast_nonneg k) (fun i hi => by
      have hi2 : i ≤ list.length := by simp at hi; omega
      rw [List.take_append_of_le_length hi2]
      obtain ⟨mk, h, _⟩ := h2.tab i
      exact ⟨mk, h⟩)
  have HAM : Hid (∀ k : Nat, (Goes t mm (hadF list who) who k → alF t (list ++ [⟨who, false, (k : Int), 5⟩]) who = -1) ∧ (¬ Goes t mm (hadF list who) who k → alF t (list ++ [⟨who, false, (k : Int), 5⟩]) who = list.length)) := fun k => alF_more hNA hmm
  have HVM := Lib.hid hvm
  have hn12 : n ≤ 12 := by have := h1.2.1; have := HL.out; omega
  generalize hR : naF t mm (hadF list who) who = R
  have HR := Lib.hid hR
  clear h1 h2 h3 h4 hge hNA hmm hvm hR
  go_enter Tryd.func52, Tryd.ntmps52
  go_wp2_with fail
  refine HC.out.mono ?_
  rintro e w3 ⟨rfl, hb3⟩
  have hB3 := hW0.trans (hb3.mono hW0.size)
  have HV2 := Lib.hid (HV.out _ hB3)
  go_wp2_with fail
  refine HV2.out.mono ?_
  rintro e w4 ⟨rfl, hb4⟩
  have hB4 := hB3.trans (hb4.mono hB3.size)
  have HA2 := Lib.hid (HA.out _ hB4)
  go_wp2_with fail
  refine (HI.out _).mono ?_
  rintro e w5 ⟨rfl, rfl⟩
  go_wp2_with fail
  refine HA2.out.mono ?_
  rintro e w6 ⟨rfl, hb6⟩
  have hB6 := hB4.trans (hb6.mono hB4.size)
  have HTA2 := Lib.hid (HTA.out _ hB6)
  have ho6 := (((Own.empty (cs := cI) (sz := 1) (e := 3) w elI.len).below hb3).below hb4).below hb6
  clear HC HV HV2 HA HA2 HTA hb3 hb4 hB3 hb6
  go_wp2_with fail
  refine HTA2.out.mono ?_
  rintro e w7 ⟨v7, rfl, ho7, hb7⟩
  have hB7 := hB6.trans (hb7.mono hB6.size)
  have ho67 := ho6.below hb7
  obtain ⟨A7, n7, c7, rfl, hc7, hr7⟩ := ho7.rdn elL.len (by have := HVM.out.1; omega)
  have ho7' := ho7.low hB6.size
  clear HTA2 ho6 ho7 hb7 hr7
  go_wp2_with fail
  go_loopw [7, 10] (fun v i wr => ∃ k : Nat, k ≤ n ∧ i = .int .i64 k ∧ Below w.heap.size w wr ∧ Own cI 1 3 wr w.heap.size v (naT t mm (hadF list who) who k) ∧ Own cL 3 37 wr w.heap.size (.slice A7 n7 c7) mm) (fun _ i _ => n - (intOf i).toNat)
  case atStart => exact ⟨0, Nat.zero_le _, rfl, hB7, ho67, ho7'⟩
  case round =>
    rename World => W1
    obtain ⟨k, hk, rfl, hbl, ho, hot⟩ := hrel
    have hs := hbl.size
    by_cases hlt : k < n
    case neg =>
      have hkn : k = n := by omega
      have hq : naT t mm (hadF list who) who k = R := by rw [hkn, ← HL.out, naT_all, HR.out]
      rw [hq] at ho
      clear hkn hq
      go_wp2_with fail
      go_ret
      exact ⟨_, rfl, ho, hbl⟩
    have hPl := naT_len t mm (hadF list who) who k
    have HT1 := Lib.hid (naT_t (t := t) (m := mm) (had := hadF list who) (who := who) (k := k))
    have HF1 := Lib.hid (naT_f (t := t) (m := mm) (had := hadF list who) (who := who) (k := k))
    generalize naT t mm (hadF list who) who k = P at *
    have hrl := hr2.below hbl
    have hE : Own cS 4 32 (W1.alloc (.cells #[] 32)) W1.heap.size (.slice (some ⟨W1.heap.size, 0, none⟩) 0 0) ([] : List St) := Own.empty W1 elS.len
    have hbE := (Below.refl W1.heap.size W1).alloc (Nat.le_refl _) (.cells #[] 32)
    go_wp2_with (first
      | (at_builtin; refine wpList_append_rd elS _ rfl (.tmp 44) (.tmp 45) rfl rfl hE rfl (hrl.alloc _) (by simp; omega) (by simp) ?_; intro v8 w8 ho8 hg8 _; have hb8 := below_own hbE hE hg8 (Nat.le_refl _) (by simp); have hs8 := hb8.size)
      | (at_builtin; refine wpList_append_rd elS _ rfl (.tmp 46) (.tmp 50) rfl rfl (ho8.alloc _) rfl (Rd_one w8 #[.int .i64 who, .bool false, .int .i64 k, .int .i64 5] 32 (⟨who, false, (k : Int), 5⟩ : St) rfl) (by simp; have := HL2.out; omega) (by simp; omega) ?_; intro v9 w9 ho9 hg9 _))
    have hb9 := below_own (hb8.alloc hs8 (.cells #[.int .i64 who, .bool false, .int .i64 k, .int .i64 5] 32)) (ho8.alloc _) hg9 (Nat.le_refl _) (by simp; omega)
    simp only [List.nil_append] at ho9
    obtain ⟨A9, n9, c9, rfl, hc9, hr9⟩ := ho9.rdn elS.len (by simp; have := HL2.out; omega)
    obtain rfl : n9 = m + 1 := by have h1 := hr9.len; rw [List.length_append, HL2.out] at h1; exact h1.symm
    have hB9 := hbl.trans (hb9.mono hs)
    have hs9 := hB9.size
    have HMR := Lib.hid (HMORE.out k _ _ A9 c9 hlt hB9 hr9)
    have ho9' := ho.below hb9
    have hot9 := hot.below hb9
    have hAM := HAM.out k
    clear ho8 ho9 hg8 hg9 hr9 hb8 hbE hE ho hot hrl hb9
    by_cases hg : Goes t mm (hadF list who) who k
    case neg =>
      rw [hAM.2 hg, HL2.out] at HMR
      have HF2 := Lib.hid (HF1.out fun h => hg h.1)
      have hm0 : ¬ ((m : Int) < 0) := by omega
      clear hg hAM HT1 HF1
      go_wp2_with fail
      refine HMR.out.mono ?_
      rintro e w10 ⟨rfl, hb10⟩
      go_wp2_with fail
      go_roundw
      case rel => exact ⟨k + 1, by omega, by go_num, hB9.trans (hb10.mono hs9), by rw [HF2.out]; exact ho9'.below hb10, hot9.below hb10⟩
      case measure => simp [intOf]; omega
    rw [hAM.1 hg] at HMR
    have HG := Lib.hid hg
    clear hg hAM
    go_wp2_with fail
    refine HMR.out.mono ?_
    rintro e w10 ⟨rfl, hb10⟩
    have hB10 := hB9.trans (hb10.mono hs9)
    have hs10 := hB10.size
    have ho10 := ho9'.below hb10
    have hot10 := hot9.below hb10
    have HBK := Lib.hid (blockers_any _ A7 n7 c7 mm who (k : Int) 5 w10 (hot10.rds elL.len (by have := HVM.out.1; omega)).2 HVM.out (by decide))
    have hbl4 := blkF_len mm who (k : Int) 5
    go_wp2_with fail
    refine HBK.out.mono ?_
    rintro e w11 ⟨v11, rfl, ho11, hb11⟩
    obtain ⟨A11, n11, c11, rfl, hc11, hr11⟩ := ho11.rdn elI.len (by omega)
    have HL11 := Lib.hid hr11.len
    have hB11 := hB10.trans (hb11.mono hs10)
    have hs11 := hB11.size
    have ho11' := ho10.below hb11
    have hot11 := hot10.below hb11
    clear ho11 hr11 hbl4 ho10 hot10 ho9' hot9 hb10 hb11
    by_cases hbk : n11 = 0
    · subst hbk
      have HT2 := Lib.hid (HT1.out ⟨HG.out, List.eq_nil_of_length_eq_zero HL11.out⟩)
      clear HT1 HF1
      go_wp2_with (at_builtin; refine wpList_append_rd elI _ rfl (.tmp 65) (.tmp 67) rfl rfl (ho11'.alloc _) rfl (Rd_one w11 #[.int .i64 k] 3 (k : Int) rfl) (by omega) (by simp; omega) ?_; intro v12 w12 ho12 hg12 _)
      have hb12 := below_own (hB11.alloc hs11 _) (ho11'.alloc (.cells #[.int .i64 k] 3)) hg12 (Nat.le_refl _) (by simp; omega)
      have hot12 := (hot11.alloc (.cells #[.int .i64 k] 3)).grown' hg12 (Own.apart (hot11.alloc (.cells #[.int .i64 k] 3)) (ho11'.alloc (.cells #[.int .i64 k] 3)) (by decide))
      go_roundw
      case rel => exact ⟨k + 1, by omega, by go_num, hb12, by rw [HT2.out]; exact ho12, hot12⟩
      case measure => simp [intOf]; omega
    · have HF2 := Lib.hid (HF1.out fun h => hbk (by have h1 := HL11.out; rw [h.2] at h1; exact h1.symm))
      have hbk' : ((n11 : Int) == 0) = false := by simp; omega
      clear HT1 HF1
      go_wp2_with fail
      go_roundw
      case rel => exact ⟨k + 1, by omega, by go_num, hB11, by rw [HF2.out]; exact ho11', hot11⟩
      case measure => simp [intOf]; omega
end Go.Proofs.YtcefgabdffipgaaDoor
