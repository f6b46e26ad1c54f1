/- The walks over slices.Clone at nodes, isDone, ended. -/
import Derived.Test.YtpklfhefhfkkhaaRedoP
import Derived.Test.YtpklfhefhfkkhaaElems
import Derived.Test.YtpklfhefhfkkhaaWords4
namespace Go.Proofs.Ytpklfhefhfkkhaa
open Go.RowKit

theorem eql_nil {P : Program} {t e : TypeId} (h : P.underlying t = some (.slice e)) (a : Option Addr) (n c : Nat) (w : World) : (binOp .eql t (.slice a n c) (.slice none 0 0)).run P w = .ok (.bool a.isNone) w := by
  simp only [binOp]
  simp [Op.equal, Op.maxDepth, Lib.run_equalIn_slice_nil w 9999 t e a n c 0 0 h]

def CloneP {α : Type} (cs : α → List Value) (sz : Nat) (t : TypeId) (w : World) (l : List α) (e : Ending) (w' : World) : Prop := ∃ v, e = .returned v ∧ Own cs sz t w' w.heap.size v l ∧ Below w.heap.size w w'

theorem CloneN_any (lo : Nat) (A : Option Addr) (n c : Nat) (l : List Nd) (w : World) (hr : Rd cN 3 w lo A n l) (hn : n ≤ 1000000) :
    Calls Try.prog 39 #[.slice A n c] w (CloneP cN 3 42 w l) := by
  have hl := hr.len
  cases A with
  | none =>
    have h0 : n = 0 := by
      rcases Nat.eq_zero_or_pos n with h | h
      · exact h
      · obtain ⟨b, o, h', _⟩ := hr.2.2 h
        cases h'
    subst h0
    have hl0 : l = [] := List.eq_nil_of_length_eq_zero hl
    subst hl0
    have hq := eql_nil Try.underlying23 none 0 c
    go_enter Try.func39, Try.ntmps39
    go_wp2_with fail
    go_ret
    exact ⟨_, rfl, Own.nil _ _, Below.refl _ _⟩
  | some a =>
    have hq := eql_nil Try.underlying23 (some a) n c
    clear hl
    go_enter Try.func39, Try.ntmps39
    go_wp2_with (at_builtin; refine wpList_append_rd elN _ rfl (.tmp 5) (.tmp 6) rfl rfl (Own.empty w elN.len) rfl (hr.alloc _) (by simp; omega) (by simp) ?_; intro v4 w4 ho4 hg4 _; have hb4 := below_own ((Below.refl w.heap.size w).alloc (Nat.le_refl _) _) (Own.empty (e := 42) w elN.len) hg4 (Nat.le_refl _) (by simp))
    go_ret
    exact ⟨_, rfl, ho4, hb4⟩

theorem ended_any (lo : Nat) (A : Option Addr) (n c : Nat) (l : List Rc) (k0 : Nat) (who : Int) (w : World) (hr : Rd cR 4 w lo A n l) (hk0 : k0 ≤ n) (b : Bool) (hv : endsF (l.drop k0) who = b) :
    Calls Try.prog 41 #[.slice A n c, .int .i64 k0, .int .i64 who] w fun e w' => e = .returned (.bool b) ∧ w = w' := by
  have hl := hr.len
  have hn := hr.le
  have HV := Lib.hid hv; clear hv
  have HL := Lib.hid hl; clear hl
  go_enter Try.func41, Try.ntmps41
  go_wp2_with fail
  go_loop [7] (fun i => ∃ k : Nat, k ≤ n ∧ i = .int .i64 k ∧ endsF (l.drop k) who = b) (fun i => n - (intOf i).toNat)
  case atStart => exact ⟨k0, hk0, rfl, HV.out⟩
  case round =>
    obtain ⟨k, hk, rfl, hK⟩ := hrel
    by_cases hlt : k < n
    · obtain ⟨b', o, x, rfl, _, hb, hx, g0, g1, g2, g3⟩ := hr.atR hlt
      rw [drop_cons hx, endsF] at hK
      obtain ⟨xw, xn, xv, xf⟩ := x
      simp only at hK g0 g1 g2 g3
      clear hx hr
      by_cases e1 : xw = who
      · cases xf
        · rw [if_neg (by simp)] at hK
          have HK := Lib.hid hK; clear hK
          subst e1
          go_wp2_with fail
          go_round
          case rel => exact ⟨k + 1, by omega, by go_num, HK.out⟩
          case measure => simp [intOf]; omega
        · rw [if_pos ⟨e1, rfl⟩] at hK
          have HK := Lib.hid hK; clear hK
          subst e1
          go_wp2_with fail
          go_ret
          exact ⟨ret_bool HK.out, rfl⟩
      · rw [if_neg (by simp [e1])] at hK
        have HK := Lib.hid hK; clear hK
        have e2 : (xw == who) = false := by simpa using e1
        go_wp2_with fail
        go_round
        case rel => exact ⟨k + 1, by omega, by go_num, HK.out⟩
        case measure => simp [intOf]; omega
    · rw [List.drop_eq_nil_of_le (by have := HL.out; omega), endsF] at hK
      have HK := Lib.hid hK; clear hK
      go_wp2_with fail
      go_ret
      exact ⟨ret_bool HK.out, rfl⟩

set_option maxHeartbeats 1000000 in
theorem isDone_any (lo : Nat) (A : Option Addr) (m c : Nat) (log : List Rc) (k : Nat) (w : World) (hr : Rd cR 4 w lo A m log) (hk : k < m) (hc : m ≤ c) (v : Bool) (hv : doneF (log.drop k) = v) :
    Calls Try.prog 40 #[.slice A m c, .int .i64 k] w fun e w' => e = .returned (.bool v) ∧ Below w.heap.size w w' := by
  have hm := hr.le
  obtain ⟨b, o, r, rfl, _, hb, hx, g0, g1, g2, g3⟩ := hr.atR hk
  rw [drop_cons hx, doneF] at hv
  obtain ⟨rw', rn, rv, rf⟩ := r
  simp only at hv g0 g1 g2 g3
  have hkm : (k : Int) < (m : Int) := by omega
  have hkc : (k : Int) + 1 ≤ (c : Int) := by omega
  have hkm1 : (k : Int) + 1 ≤ (m : Int) := by omega
  have hmc : (m : Int) ≤ (c : Int) := by omega
  cases rf
  case true =>
    rw [if_pos rfl] at hv
    subst hv
    go_enter Try.func40, Try.ntmps40
    go_wp2_with fail
    go_ret
    exact ⟨rfl, Below.refl _ _⟩
  rw [if_neg (by simp)] at hv
  have HV := Lib.hid hv; clear hv
  have hd := hr.drop (k := k + 1) (by omega) hc
  by_cases hcap : c = k + 1
  case neg =>
    rw [if_neg hcap] at hd
    have hd2 : Rd cR 4 w lo (some ⟨b, o + (k + 1) * 4, none⟩) (m - (k + 1)) (log.drop (k + 1)) := by simpa [Addr.add_lit] using hd
    clear hd
    go_enter Try.func40, Try.ntmps40
    go_wp2_with fail
    generalize m - (k + 1) = n2 at hd2
    have hn2 := hd2.le
    have hl2 := hd2.len
    have HL2 := Lib.hid hl2
    clear hl2
    go_loopw [17] (fun i wr => ∃ j : Nat, j ≤ n2 ∧ i = .int .i64 j ∧ Below w.heap.size w wr ∧ endsF ((log.drop (k + 1)).drop j) rw' = v) (fun i _ => n2 - (intOf i).toNat)
    case atStart => exact ⟨0, Nat.zero_le _, rfl, Below.refl _ _, by simpa using HV.out⟩
    case round =>
      obtain ⟨j, hj, rfl, hbl, hK⟩ := hrel
      have hs := hbl.size
      by_cases hlt : j < n2
      case neg =>
        rw [List.drop_eq_nil_of_le (by have := HL2.out; omega), endsF] at hK
        have HK := Lib.hid hK; clear hK
        go_wp2_with fail
        go_ret
        exact ⟨ret_bool HK.out, hbl⟩
      obtain ⟨b', o', x, hA', _, _, hx', c0, c1, c2, c3⟩ := (hd2.below hbl).atR hlt
      simp only [Option.some.injEq, Addr.mk.injEq, and_true] at hA'
      obtain ⟨rfl, rfl⟩ := hA'
      have q0 := (hbl.cell (p := ⟨b, o + k * 4, none⟩) hb).trans g0
      rw [drop_cons hx', endsF] at hK
      obtain ⟨xw, xn, xv, xf⟩ := x
      simp only at hK c0 c1 c2 c3
      have d0 : (wr.alloc (.cells #[.int .i64 xw, .int .i64 xn, .int .i64 xv, .bool xf] 30)).cell? ⟨wr.heap.size, 0, none⟩ = some (.int .i64 xw) := by simp [World.cell?_alloc_new]
      have d3 : (wr.alloc (.cells #[.int .i64 xw, .int .i64 xn, .int .i64 xv, .bool xf] 30)).cell? ⟨wr.heap.size, 3, none⟩ = some (.bool xf) := by simp [World.cell?_alloc_new]
      have d4 : (wr.alloc (.cells #[.int .i64 xw, .int .i64 xn, .int .i64 xv, .bool xf] 30)).cell? ⟨b, o + k * 4, none⟩ = some (.int .i64 rw') := (World.cell?_alloc_lt _ _ _ (World.block_lt_of_cell? _ _ q0)).trans q0
      have a0 := aft d0
      have a3 := aft d3
      have a4 := aft d4
      clear hx' hx d0 d3 d4 HV hd2 hr
      cases xf
      · rw [if_neg (by simp)] at hK
        have HK := Lib.hid hK; clear hK
        go_wp2_with fail
        refine wp_region_after (by kernel_rfl) (by kernel_rfl) ?_
        repeat (go_big_quiet_step (fail))
        refine wpQuiet_nil ?_
        intro w1 hb1
        have hbw := (hbl.alloc hs (.cells #[.int .i64 xw, .int .i64 xn, .int .i64 xv, .bool false] 30)).trans (hb1.mono (by simp; omega))
        clear hb1
        go_wp2_with fail
        go_roundw
        case rel => exact ⟨j + 1, by omega, by go_num, hbw, HK.out⟩
        case measure => simp [intOf]; omega
      by_cases e1 : xw = rw'
      · rw [if_pos ⟨e1, rfl⟩] at hK
        have HK := Lib.hid hK; clear hK
        subst e1
        go_wp2_with fail
        refine wp_region_after (by kernel_rfl) (by kernel_rfl) ?_
        repeat (go_big_quiet_step (fail))
        refine wpQuiet_nil ?_
        intro w1 hb1
        have hbw := (hbl.alloc hs (.cells #[.int .i64 xw, .int .i64 xn, .int .i64 xv, .bool true] 30)).trans (hb1.mono (by simp; omega))
        clear hb1
        go_wp2_with fail
        go_ret
        exact ⟨ret_bool HK.out, hbw⟩
      · rw [if_neg (by simp [e1])] at hK
        have HK := Lib.hid hK; clear hK
        have e2 : (xw == rw') = false := by simpa using e1
        clear e1
        go_wp2_with fail
        refine wp_region_after (by kernel_rfl) (by kernel_rfl) ?_
        repeat (go_big_quiet_step (fail))
        refine wpQuiet_nil ?_
        intro w1 hb1
        have hbw := (hbl.alloc hs (.cells #[.int .i64 xw, .int .i64 xn, .int .i64 xv, .bool true] 30)).trans (hb1.mono (by simp; omega))
        clear hb1
        go_wp2_with fail
        go_roundw
        case rel => exact ⟨j + 1, by omega, by go_num, hbw, HK.out⟩
        case measure => simp [intOf]; omega
  subst hcap
  obtain rfl : m = k + 1 := by omega
  have hl := hr.len
  have HV2 := HV.out
  rw [List.drop_eq_nil_of_le (by omega), endsF] at HV2
  have HV3 := Lib.hid HV2
  have hx1 : (k : Int) ≤ (k : Int) + 1 := by omega
  clear HV2 HV hx hl
  go_enter Try.func40, Try.ntmps40
  go_wp2_with fail
  refine wp_loop_rounds 1 ?_
  rw [rounds_succ]
  go_wp2_with fail
  go_ret
  exact ⟨ret_bool HV3.out, Below.refl _ _⟩
end Go.Proofs.Ytpklfhefhfkkhaa
