/- The walks over the tables of locks, the program's: lockAt, heldIn, HeldMode, ValidTable. -/
import Derived.Test.YtgpocjehiohimaaDoorModeW
import Derived.Test.YtgpocjehiohimaaDoorElems
import Derived.Test.YtgpocjehiohimaaDoorInts
namespace Go.Proofs.YtgpocjehiohimaaDoor
open Go.RowKit

theorem lockAtC_any (x : Lk) (who node : Int) (p q : Nat) (w : World) (hp : w.cell? ⟨p, 0, none⟩ = some (.int .i64 who)) (hq : w.cell? ⟨q, 0, none⟩ = some (.int .i64 node)) :
    Calls Tryd.prog 97 #[.agg #[.int .i64 x.who, .int .i64 x.node, .int .i64 x.mode], .pointer (some ⟨p, 0, none⟩), .pointer (some ⟨q, 0, none⟩)] w fun e w' => e = .returned (.bool (decide (x.who = who ∧ x.node = node))) ∧ Below w.heap.size w w' := by
  obtain ⟨xw, xn, xm⟩ := x
  simp only
  have hp1 := (World.cell?_alloc_lt w (.cells #[.int .i64 xw, .int .i64 xn, .int .i64 xm] 67) _ (World.block_lt_of_cell? _ _ hp)).trans hp
  have hq1 := (World.cell?_alloc_lt w (.cells #[.int .i64 xw, .int .i64 xn, .int .i64 xm] 67) _ (World.block_lt_of_cell? _ _ hq)).trans hq
  clear hp hq
  by_cases e1 : xw = who
  case neg =>
    have e1' : (xw == who) = false := by simpa using e1
    rw [decide_eq_false (show ¬ (xw = who ∧ xn = node) from fun h => e1 h.1)]
    clear e1
    go_enter Tryd.func97, Tryd.ntmps97
    go_wp2_with fail
    go_ret
    exact ⟨rfl, (Below.refl _ _).alloc (Nat.le_refl _) _⟩
  subst e1
  by_cases e2 : xn = node
  · subst e2
    rw [decide_eq_true ⟨rfl, rfl⟩]
    go_enter Tryd.func97, Tryd.ntmps97
    go_wp2_with fail
    go_ret
    exact ⟨rfl, (Below.refl _ _).alloc (Nat.le_refl _) _⟩
  · have e2' : (xn == node) = false := by simpa using e2
    rw [decide_eq_false (show ¬ (xw = xw ∧ xn = node) from fun h => e2 h.2)]
    clear e2
    go_enter Tryd.func97, Tryd.ntmps97
    go_wp2_with fail
    go_ret
    exact ⟨rfl, (Below.refl _ _).alloc (Nat.le_refl _) _⟩

theorem IndexFunc_any (lo : Nat) (A : Option Addr) (n c : Nat) (l : List Lk) (who node : Int) (p q : Nat) (w : World) (hr : Rd cL 3 w lo A n l) (hp : w.cell? ⟨p, 0, none⟩ = some (.int .i64 who)) (hq : w.cell? ⟨q, 0, none⟩ = some (.int .i64 node)) :
    Calls Tryd.prog 96 #[.slice A n c, .func (.func 97) #[] #[.pointer (some ⟨p, 0, none⟩), .pointer (some ⟨q, 0, none⟩)]] w fun e w' => e = .returned (.int .i64 (atF l who node 0)) ∧ Below w.heap.size w w' := by
  have hn := hr.le
  have HL := Lib.hid hr.len
  have HP := Lib.hid hp
  have HQ := Lib.hid hq
  have hpl := World.block_lt_of_cell? _ _ hp
  have hql := World.block_lt_of_cell? _ _ hq
  generalize hv : atF l who node 0 = v
  have HV := Lib.hid hv
  clear hp hq hv
  go_enter Tryd.func96, Tryd.ntmps96
  go_wp2_with fail
  go_loopw [8] (fun i wr => ∃ k : Nat, k ≤ n ∧ i = .int .i64 k ∧ Below w.heap.size w wr ∧ atF (l.drop k) who node k = v) (fun i _ => n - (intOf i).toNat)
  case atStart => exact ⟨0, Nat.zero_le _, rfl, Below.refl _ _, by simpa using HV.out⟩
  case round =>
    obtain ⟨k, hk, rfl, hbl, hK⟩ := hrel
    have hs := hbl.size
    by_cases hlt : k < n
    case neg =>
      rw [List.drop_eq_nil_of_le (by have := HL.out; omega), atF] at hK
      subst hK
      go_wp2_with fail
      go_ret
      exact ⟨rfl, hbl⟩
    obtain ⟨b, o, x, rfl, _, hb, hx, g0, g1, g2⟩ := (hr.below hbl).atL hlt
    rw [drop_cons hx, atF] at hK
    have hc1 := (hbl.cell (p := ⟨p, 0, none⟩) hpl).trans HP.out
    have hc2 := (hbl.cell (p := ⟨q, 0, none⟩) hql).trans HQ.out
    have hcl := lockAtC_any x who node p q wr hc1 hc2
    have HCL := Lib.hid hcl
    clear hx hr hcl hc1 hc2
    by_cases h : x.who = who ∧ x.node = node
    · rw [if_pos h] at hK
      subst hK
      rw [decide_eq_true h] at HCL
      clear h
      go_wp2_with (go_at_call 97; refine HCL.out.mono ?_; rintro e w3 ⟨rfl, hb3⟩)
      go_ret
      exact ⟨rfl, hbl.trans (hb3.mono hs)⟩
    · rw [if_neg h] at hK
      rw [decide_eq_false h] at HCL
      have HK := Lib.hid hK
      clear h hK
      go_wp2_with (go_at_call 97; refine HCL.out.mono ?_; rintro e w3 ⟨rfl, hb3⟩)
      go_roundw
      case rel => exact ⟨k + 1, by omega, by go_num, hbl.trans (hb3.mono hs), HK.out⟩
      case measure => simp [intOf]; omega

theorem lockAt_any (lo : Nat) (A : Option Addr) (n c : Nat) (l : List Lk) (who node : Int) (w : World) (hr : Rd cL 3 w lo A n l) :
    Calls Tryd.prog 85 #[.slice A n c, .int .i64 who, .int .i64 node] w fun e w' => e = .returned (.int .i64 (atF l who node 0)) ∧ Below w.heap.size w w' := by
  have hmf : ∀ (fn : Fn) (first cap : Array Value) (w : World), (Instr.makeFunc fn first cap).run Tryd.prog w = .ok (.func fn first cap) w := fun _ _ _ _ => rfl
  have c1 : ((w.alloc (.cells #[.int .i64 who] 3)).alloc (.cells #[.int .i64 node] 3)).cell? ⟨w.heap.size, 0, none⟩ = some (.int .i64 who) := by simp [World.cell?_alloc_past, World.cell?_alloc_new]
  have c2 : ((w.alloc (.cells #[.int .i64 who] 3)).alloc (.cells #[.int .i64 node] 3)).cell? ⟨w.heap.size + 1, 0, none⟩ = some (.int .i64 node) := cell_newg (w.alloc (.cells #[.int .i64 who] 3)) #[.int .i64 node] 3 (w.heap.size + 1) (by simp) 0 _ rfl
  have hW := ((Below.refl w.heap.size w).alloc (Nat.le_refl _) (.cells #[.int .i64 who] 3)).alloc (by simp) (.cells #[.int .i64 node] 3)
  have hrW := (hr.alloc (.cells #[.int .i64 who] 3)).alloc (.cells #[.int .i64 node] 3)
  have HC := Lib.hid (IndexFunc_any lo A n c l who node w.heap.size (w.heap.size + 1) _ hrW c1 c2)
  clear c1 c2 hr hrW
  go_enter Tryd.func85, Tryd.ntmps85
  go_wp2_with (go_at_call 96; refine HC.out.mono ?_; rintro e w3 ⟨rfl, hb3⟩)
  go_ret
  exact ⟨rfl, hW.trans (hb3.mono hW.size)⟩

theorem heldIn_any (lo : Nat) (A : Option Addr) (n c : Nat) (l : List Lk) (who node : Int) (w : World) (hr : Rd cL 3 w lo A n l) :
    Calls Tryd.prog 71 #[.slice A n c, .int .i64 who, .int .i64 node] w fun e w' => e = .returned (.int .i64 (heldF l who node)) ∧ Below w.heap.size w w' := by
  have hn := hr.le
  rcases atF_spec l who node 0 with ⟨h1, h2, _⟩ | ⟨j, x, h1, hx, _, _, h5, _⟩
  · rw [h2]
    have HC := Lib.hid (lockAt_any lo A n c l who node w hr)
    rw [h1] at HC
    clear h1 h2
    go_enter Tryd.func71, Tryd.ntmps71
    go_wp2_with (go_at_call 85; refine HC.out.mono ?_; rintro e w3 ⟨rfl, hb3⟩)
    go_ret
    exact ⟨rfl, hb3⟩
  · have HC := Lib.hid (lockAt_any lo A n c l who node w hr)
    rw [h1, Nat.zero_add] at HC
    have hjn : j < n := by have := (List.getElem?_eq_some_iff.1 hx).1; rw [hr.len] at this; exact this
    rw [h5]
    clear h1 h5
    go_enter Tryd.func71, Tryd.ntmps71
    go_wp2_with fail
    refine HC.out.mono ?_
    rintro e w3 ⟨rfl, hb3⟩
    obtain ⟨b, o, y, rfl, _, _, hy, g0, g1, g2⟩ := (hr.below hb3).atL hjn
    rw [hx] at hy
    injection hy with hy
    subst hy
    clear hx hr HC
    go_wp2_with fail
    go_ret
    exact ⟨rfl, hb3⟩

set_option maxHeartbeats 1000000 in
theorem ValidTable_any (lo : Nat) (A : Option Addr) (n c : Nat) (l : List Lk) (w : World) (hr : Rd cL 3 w lo A n l) (hc : n ≤ c) (hT : Tb w) :
    Calls Tryd.prog 68 #[.slice A n c] w fun e w' => e = .returned (.bool (vtb l)) ∧ Below w.heap.size w w' := by
  have HL := Lib.hid hr.len
  by_cases h48 : n ≤ 48
  case neg =>
    have HF := Lib.hid (vtb_false (l := l) (fun h => h48 (by have := h.1; have := HL.out; omega)))
    have h48' : (48 : Int) < (n : Int) := by omega
    clear h48
    go_enter Tryd.func68, Tryd.ntmps68
    go_wp2_with fail
    go_ret
    exact ⟨ret_bool HF.out.symm, Below.refl _ _⟩
  go_enter Tryd.func68, Tryd.ntmps68
  go_wp2_with fail
  go_loopw [12] (fun i wr => ∃ k : Nat, k ≤ n ∧ i = .int .i64 k ∧ Below w.heap.size w wr ∧ OkTab l k) (fun i _ => n - (intOf i).toNat)
  case atStart => exact ⟨0, Nat.zero_le _, rfl, Below.refl _ _, OkTab.zero⟩
  case round =>
    rename World => W1
    obtain ⟨k, hk, rfl, hbl, hK⟩ := hrel
    have hs := hbl.size
    by_cases hlt : k < n
    case neg =>
      have e : k = n := by omega
      subst e
      have HF := Lib.hid (vtb_true (l := l) ⟨by have := HL.out; omega, by rw [HL.out]; exact hK⟩)
      clear hK
      go_wp2_with fail
      go_ret
      exact ⟨ret_bool HF.out.symm, hbl⟩
    obtain ⟨b, o, x, rfl, hlob, hb, hx, g0, g1, g2⟩ := (hr.below hbl).atL hlt
    have HX := Lib.hid hx
    have HKK := Lib.hid hK
    clear hx hK
    obtain ⟨xw, xn, xm⟩ := x
    simp only at g0 g1 g2
    have hkc : (k : Int) ≤ (c : Int) := by omega
    by_cases hok : OkAsk xw xn xm
    case neg =>
      have HF := Lib.hid (vtb_false (nVTb_at HX.out (fun h => hok h.1)))
      have HC := fun w' => isAsk_f xw xn xm w' hok
      clear hok
      go_wp2_with (go_at_call 69; refine (HC _).mono ?_; rintro e w3 ⟨rfl, rfl⟩)
      go_ret
      exact ⟨ret_bool HF.out.symm, hbl.alloc hs _⟩
    have HC := fun w' => isAsk_t xw xn xm w' hok
    have HOK := Lib.hid hok
    have c0 := cell_newg W1 #[.int .i64 xw, .int .i64 xn, .int .i64 xm] 67 W1.heap.size rfl 0 _ rfl
    have c1 := cell_newg W1 #[.int .i64 xw, .int .i64 xn, .int .i64 xm] 67 W1.heap.size rfl 1 _ rfl
    have c2 := cell_newg W1 #[.int .i64 xw, .int .i64 xn, .int .i64 xm] 67 W1.heap.size rfl 2 _ rfl
    have hbW := (Below.refl W1.heap.size W1).alloc (Nat.le_refl _) (.cells #[.int .i64 xw, .int .i64 xn, .int .i64 xm] 67)
    have hsW : W1.heap.size < (W1.alloc (.cells #[.int .i64 xw, .int .i64 xn, .int .i64 xm] 67)).heap.size := by simp
    have HS := Lib.hid hsW
    have HC0 := Lib.hid c0
    have HC1 := Lib.hid c1
    have HC2 := Lib.hid c2
    clear hok c0 c1 c2 hsW
    go_wp2_with (go_at_call 69; refine (HC _).mono ?_; rintro e w3 ⟨rfl, rfl⟩)
    clear HC g0 g1 g2
    generalize hW : W1.alloc (.cells #[.int .i64 xw, .int .i64 xn, .int .i64 xm] 67) = W at *
    clear hW
    go_loopw [29] (fun i wr => ∃ j : Nat, j ≤ k ∧ i = .int .i64 j ∧ Below W.heap.size W wr ∧ ∀ (i : Nat) (y : Lk), i < j → l[i]? = some y → ¬ Clash ⟨xw, xn, xm⟩ y) (fun i _ => k - (intOf i).toNat)
    case atStart => exact ⟨0, Nat.zero_le _, rfl, Below.refl _ _, fun i y h => by omega⟩
    case round =>
      rename World => W2
      obtain ⟨j, hj, rfl, hbl2, hJ⟩ := hrel
      have hbw2 := hbW.trans (hbl2.mono hbW.size)
      by_cases hjk : j < k
      case neg =>
        have e : j = k := by omega
        subst e
        have HN := Lib.hid (HKK.out.succ HX.out ⟨HOK.out, hJ⟩)
        clear hJ
        go_wp2_with fail
        go_roundw
        case rel => exact ⟨j + 1, by omega, by go_num, hbl.trans (hbw2.mono hs), HN.out⟩
        case measure => simp [intOf]; omega
      obtain ⟨b', o', y, hA, _, _, hy, d0, d1, d2⟩ := ((hr.below hbl).below hbw2).atL (k := j) (by omega)
      simp only [Option.some.injEq, Addr.mk.injEq, and_true] at hA
      obtain ⟨rfl, rfl⟩ := hA
      have hyok := (HKK.out j y hjk hy).1.isM
      have q0 := (hbl2.cell (p := ⟨W1.heap.size, 0, none⟩) HS.out).trans HC0.out
      have q1 := (hbl2.cell (p := ⟨W1.heap.size, 1, none⟩) HS.out).trans HC1.out
      have q2 := (hbl2.cell (p := ⟨W1.heap.size, 2, none⟩) HS.out).trans HC2.out
      have hp2 := hbl2.size
      obtain ⟨yw, yn, ym⟩ := y
      simp only at d0 d1 d2 hyok
      have HY := Lib.hid hy
      have HJ := Lib.hid hJ
      have hTY := ((((hT.below hbl).below hbw2).alloc (.cells #[.int .i64 yw, .int .i64 yn, .int .i64 ym] 67)))
      have r0 := (World.cell?_alloc_lt W2 (.cells #[.int .i64 yw, .int .i64 yn, .int .i64 ym] 67) _ (World.block_lt_of_cell? _ _ q0)).trans q0
      have r1 := (World.cell?_alloc_lt W2 (.cells #[.int .i64 yw, .int .i64 yn, .int .i64 ym] 67) _ (World.block_lt_of_cell? _ _ q1)).trans q1
      have r2 := (World.cell?_alloc_lt W2 (.cells #[.int .i64 yw, .int .i64 yn, .int .i64 ym] 67) _ (World.block_lt_of_cell? _ _ q2)).trans q2
      have hbn := hbl2.alloc hbl2.size (.cells #[.int .i64 yw, .int .i64 yn, .int .i64 ym] 67)
      have hbf := hbl.trans ((hbW.trans (hbn.mono hbW.size)).mono hs)
      have hne : W1.heap.size ≠ W2.heap.size := by have := HS.out; have := hp2; omega
      clear hy hJ q0 q1 q2
      by_cases e1 : xn = yn
      case neg =>
        have HN : Hid (∀ (i : Nat) (z : Lk), i < j + 1 → l[i]? = some z → ¬ Clash ⟨xw, xn, xm⟩ z) := by
          intro i z hi hz
          by_cases e : i = j
          · subst e; rw [HY.out] at hz; injection hz with hz; subst hz; exact fun h => e1 h.1
          · exact HJ.out i z (by omega) hz
        have e1' : (xn == yn) = false := by simpa using e1
        clear e1
        go_wp2_with fail
        go_roundw
        case rel => exact ⟨j + 1, by omega, by go_num, hbn, HN.out⟩
        case measure => simp [intOf]; omega
      subst e1
      by_cases e2 : xw = yw
      · subst e2
        have HF := Lib.hid (vtb_false (nVTb_at HX.out (fun h => h.2 j _ hjk HY.out ⟨rfl, Or.inl rfl⟩)))
        go_wp2_with fail
        go_ret
        exact ⟨ret_bool HF.out.symm, hbf⟩
      have e2' : (xw == yw) = false := by simpa using e2
      have HG := GoTogether_t xm ym _ HOK.out.isM hyok hTY
      cases ht : togF xm ym with
      | false =>
        have HF := Lib.hid (vtb_false (nVTb_at HX.out (fun h => h.2 j _ hjk HY.out ⟨rfl, Or.inr ht⟩)))
        rw [ht] at HG
        have HGG := Lib.hid HG
        clear e2 HG ht hTY hyok
        go_wp2_with (go_at_call 72; refine HGG.out.mono ?_; rintro e w3 ⟨rfl, rfl⟩)
        go_ret
        exact ⟨ret_bool HF.out.symm, hbf⟩
      | true =>
        have HN : Hid (∀ (i : Nat) (z : Lk), i < j + 1 → l[i]? = some z → ¬ Clash ⟨xw, xn, xm⟩ z) := by
          intro i z hi hz
          by_cases e : i = j
          · subst e; rw [HY.out] at hz; injection hz with hz; subst hz
            rintro ⟨_, h | h⟩
            · exact e2 h
            · simp only at h; rw [ht] at h; cases h
          · exact HJ.out i z (by omega) hz
        rw [ht] at HG
        have HGG := Lib.hid HG
        clear e2 HG ht hTY hyok
        go_wp2_with (go_at_call 72; refine HGG.out.mono ?_; rintro e w3 ⟨rfl, rfl⟩)
        go_roundw
        case rel => exact ⟨j + 1, by omega, by go_num, hbn, HN.out⟩
        case measure => simp [intOf]; omega
end Go.Proofs.YtgpocjehiohimaaDoor
