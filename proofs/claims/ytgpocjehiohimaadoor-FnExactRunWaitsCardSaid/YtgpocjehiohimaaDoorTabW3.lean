/- The walks over the tables of locks, the program's: Clone, TakeLock, FreeLocks. -/
import Derived.Test.YtgpocjehiohimaaDoorTabW2
import Derived.Test.YtgpocjehiohimaaDoorWords6
namespace Go.Proofs.YtgpocjehiohimaaDoor
open Go.RowKit

theorem eql_nil {P : Program} {t e : TypeId} (h : P.underlying t = some (.slice e)) (a : Option Addr) (n c : Nat) (w : World) : (binOp .eql t (.slice a n c) (.slice none 0 0)).run P w = .ok (.bool a.isNone) w := by
  simp only [binOp]
  simp [Op.equal, Op.maxDepth, Lib.run_equalIn_slice_nil w 9999 t e a n c 0 0 h]

def CloneP {α : Type} (cs : α → List Value) (sz : Nat) (t : TypeId) (w : World) (l : List α) (e : Ending) (w' : World) : Prop := ∃ v, e = .returned v ∧ Own cs sz t w' w.heap.size v l ∧ Below w.heap.size w w'

theorem CloneL_any (lo : Nat) (A : Option Addr) (n c : Nat) (l : List Lk) (w : World) (hr : Rd cL 3 w lo A n l) (hn : n ≤ 1000000) :
    Calls Tryd.prog 93 #[.slice A n c] w (CloneP cL 3 67 w l) := by
  have hl := hr.len
  cases A with
  | none =>
    have h0 : n = 0 := by
      rcases Nat.eq_zero_or_pos n with h | h
      · exact h
      · obtain ⟨b, o, h', _⟩ := hr.2.2 h
        cases h'
    subst h0
    have hl0 : l = [] := List.eq_nil_of_length_eq_zero hl
    subst hl0
    have hq := eql_nil Tryd.underlying27 none 0 c
    go_enter Tryd.func93, Tryd.ntmps93
    go_wp2_with fail
    go_ret
    exact ⟨_, rfl, Own.nil _ _, Below.refl _ _⟩
  | some a =>
    have hq := eql_nil Tryd.underlying27 (some a) n c
    clear hl
    go_enter Tryd.func93, Tryd.ntmps93
    go_wp2_with (at_builtin; refine wpList_append_rd elL _ rfl (.tmp 5) (.tmp 6) rfl rfl (Own.empty w elL.len) rfl (hr.alloc _) (by simp; omega) (by simp) ?_; intro v4 w4 ho4 hg4 _; have hb4 := below_own ((Below.refl w.heap.size w).alloc (Nat.le_refl _) _) (Own.empty (e := 67) w elL.len) hg4 (Nat.le_refl _) (by simp))
    go_ret
    exact ⟨_, rfl, ho4, hb4⟩

/-- A list of its own, and yes. -/
def LksT (w : World) (l : List Lk) (e : Ending) (w' : World) : Prop := ∃ v, e = .returned (.tuple #[v, .bool true]) ∧ Own cL 3 67 w' w.heap.size v l ∧ Below w.heap.size w w'
/-- None, and no. -/
def LksF (w : World) (e : Ending) (w' : World) : Prop := e = .returned (.tuple #[.slice none 0 0, .bool false]) ∧ Below w.heap.size w w'
/-- A list of its own. -/
def LksP (w : World) (l : List Lk) (e : Ending) (w' : World) : Prop := ∃ v, e = .returned v ∧ Own cL 3 67 w' w.heap.size v l ∧ Below w.heap.size w w'

set_option maxHeartbeats 1000000 in
theorem TakeLock_t (lo : Nat) (A : Option Addr) (n c : Nat) (l l' : List Lk) (who node mode : Int) (w : World) (hr : Rd cL 3 w lo A n l) (hc : n ≤ c) (hT : Tb w) (h : takeF l who node mode = some l') :
    Calls Tryd.prog 94 #[.slice A n c, .int .i64 who, .int .i64 node, .int .i64 mode] w (LksT w l') := by
  obtain ⟨h1, h2, h3, rfl⟩ := takeF_some h
  have hn48 : n ≤ 48 := by have := h1.1; rw [hr.len] at this; exact this
  have HC := Lib.hid (ValidTable_t lo A n c l w hr hc hT h1)
  have HA := fun w' => isAsk_t who node mode w' h2
  have hlb := lbF_yes h1 h2
  rw [h3] at hlb
  have HLB := Lib.hid hlb
  have HM := Lib.hid h2.isM
  have HV := Lib.hid h1
  have hat := atF_spec l who node 0
  have HAT := Lib.hid hat
  have HLL := Lib.hid hr.len
  clear h h1 h2 h3 hlb hat
  go_enter Tryd.func94, Tryd.ntmps94
  go_wp2_with fail
  refine HC.out.mono ?_
  rintro e w1 ⟨rfl, hb1⟩
  go_wp2_with (go_at_call 69; refine (HA _).mono ?_; rintro e w3 ⟨rfl, rfl⟩)
  refine (LockBlockers_any lo A n c l who node mode _ (hr.below hb1) hc (hT.below hb1)).mono ?_
  rintro e w2 ⟨v2, rfl, ho2, hb2⟩
  rw [HLB.out] at ho2
  obtain ⟨A2, m2, c2, rfl, hc2, hr2⟩ := ho2.rdn elI.len (by simp)
  obtain rfl : m2 = 0 := hr2.len.symm
  have hB2 := hb1.trans (hb2.mono hb1.size)
  clear ho2 hr2 HA HC
  go_wp2_with fail
  refine (CloneL_any lo A n c l _ (hr.below hB2) (by omega)).mono ?_
  rintro e w3 ⟨v3, rfl, ho3, hb3⟩
  have hB3 := hB2.trans (hb3.mono hB2.size)
  have ho3' := ho3.low hB2.size
  clear ho3
  go_wp2_with fail
  refine (lockAt_any lo A n c l who node _ (hr.below hB3)).mono ?_
  rintro e w4 ⟨rfl, hb4⟩
  have hB4 := hB3.trans (hb4.mono hB3.size)
  have ho4 := ho3'.below hb4
  have hs4 := hB4.size
  have hr4 := hr.below hB4
  have hT4 := hT.below hB4
  clear ho3' hb1 hb2 hb3 hb4 hB2 hB3 hr hT
  rcases HAT.out with ⟨h1, h2, h3⟩ | ⟨j, x, h1, hx, x1, x2, _, h6⟩
  · have HG := Lib.hid (grantF_app (mode := mode) h3)
    rw [h1]
    clear h1 h2 h3 HAT
    go_wp2_with (at_builtin; refine wpList_append_rd elL _ rfl (.tmp 39) (.tmp 44) rfl rfl (ho4.alloc _) rfl (Rd_one _ #[.int .i64 who, .int .i64 node, .int .i64 mode] 67 ⟨who, node, mode⟩ rfl) (by rw [HLL.out]; omega) (by simp; omega) ?_; intro v5 w5 ho5 hg5 _)
    have hb5 := below_own (hB4.alloc hs4 _) (ho4.alloc (.cells #[.int .i64 who, .int .i64 node, .int .i64 mode] 67)) hg5 (Nat.le_refl _) (by simp; omega)
    go_ret2
    exact ⟨_, rfl, by rw [HG.out]; exact ho5, hb5⟩
  · have HG := Lib.hid (grantF_set (mode := mode) hx x1 x2 h6)
    have hjl := (List.getElem?_eq_some_iff.1 hx).1
    have hjn : j < n := by rw [HLL.out] at hjl; exact hjl
    have hxm := (HV.out.ask (List.mem_of_getElem? hx)).isM
    rw [h1, Nat.zero_add]
    obtain ⟨g, n', cap, rfl, hgb, _, _, hn'⟩ := ho4.form (by omega)
    obtain rfl : n' = n := hn'.trans HLL.out
    obtain ⟨b, o, y, rfl, _, _, hy, d0, d1, d2⟩ := hr4.atL hjn
    rw [hx] at hy
    injection hy with hy
    subst hy
    have f0 := ho4.free (j * 3 + 2)
    obtain ⟨_, hrd4⟩ := ho4.rds elL.len (by rw [HLL.out]; omega)
    obtain ⟨b', o', y, hA', _, _, hy', k0, k1, k2⟩ := hrd4.atL hjn
    simp only [Option.some.injEq, Addr.mk.injEq, and_true] at hA'
    obtain ⟨rfl, rfl⟩ := hA'
    simp only [Nat.zero_add] at k0 k1 k2
    obtain ⟨xw, xn, xm⟩ := x
    simp only at x1 x2 hxm d0 d1 d2
    subst x1 x2
    have HJ := Lib.hid (JoinModes_t xm mode w4 hxm HM.out hT4)
    have HO := Lib.hid (ho4.set (u := .int .i64 (joinF xm mode)) (x' := ⟨xw, xn, joinF xm mode⟩) (j := 2) elL.len hx rfl (by omega) (q := j * 3 + 2) rfl)
    clear h1 hx hy' h6 HAT hrd4 hr4 hT4 hn' hxm hjl
    generalize joinF xm mode = J at *
    go_wp2_with (go_at_call 70; refine HJ.out.mono ?_; rintro e w5 ⟨rfl, rfl⟩)
    go_ret2
    exact ⟨_, rfl, by rw [HG.out]; exact HO.out, hB4.setCell hgb _⟩

set_option maxHeartbeats 1000000 in
theorem TakeLock_f (lo : Nat) (A : Option Addr) (n c : Nat) (l : List Lk) (who node mode : Int) (w : World) (hr : Rd cL 3 w lo A n l) (hc : n ≤ c) (hT : Tb w) (h : takeF l who node mode = none) :
    Calls Tryd.prog 94 #[.slice A n c, .int .i64 who, .int .i64 node, .int .i64 mode] w (LksF w) := by
  by_cases h1 : VTb l
  case neg =>
    have HC := Lib.hid (ValidTable_f lo A n c l w hr hc hT h1)
    clear h1 h
    go_enter Tryd.func94, Tryd.ntmps94
    go_wp2_with fail
    refine HC.out.mono ?_
    rintro e w1 ⟨rfl, hb1⟩
    go_wp2_with fail
    go_ret2
    exact ⟨rfl, hb1⟩
  have HC := Lib.hid (ValidTable_t lo A n c l w hr hc hT h1)
  by_cases h2 : OkAsk who node mode
  case neg =>
    have HA := fun w' => isAsk_f who node mode w' h2
    clear h1 h2 h
    go_enter Tryd.func94, Tryd.ntmps94
    go_wp2_with fail
    refine HC.out.mono ?_
    rintro e w1 ⟨rfl, hb1⟩
    go_wp2_with (go_at_call 69; refine (HA _).mono ?_; rintro e w3 ⟨rfl, rfl⟩)
    go_ret2
    exact ⟨rfl, hb1⟩
  have HA := fun w' => isAsk_t who node mode w' h2
  have h3 : lbF l who node mode ≠ [] := by
    intro h3
    rw [lbF_yes h1 h2] at h3
    rw [takeF_yes h1 h2 h3] at h
    cases h
  have hlen : 1 ≤ (lbF l who node mode).length := by
    rcases Nat.eq_zero_or_pos (lbF l who node mode).length with h4 | h4
    · exact absurd (List.eq_nil_of_length_eq_zero h4) h3
    · exact h4
  have HLN := Lib.hid hlen
  clear h1 h2 h h3 hlen
  go_enter Tryd.func94, Tryd.ntmps94
  go_wp2_with fail
  refine HC.out.mono ?_
  rintro e w1 ⟨rfl, hb1⟩
  go_wp2_with (go_at_call 69; refine (HA _).mono ?_; rintro e w3 ⟨rfl, rfl⟩)
  refine (LockBlockers_any lo A n c l who node mode _ (hr.below hb1) hc (hT.below hb1)).mono ?_
  rintro e w2 ⟨v2, rfl, ho2, hb2⟩
  obtain ⟨A2, m2, c2, rfl, hc2, hr2⟩ := ho2.rdn elI.len (by have := lbF_len l who node mode; omega)
  have hm : (0 : Int) < (m2 : Int) := by have := hr2.len; have := HLN.out; omega
  have hB2 := hb1.trans (hb2.mono hb1.size)
  clear ho2 hr2 HA HC
  go_wp2_with fail
  go_ret2
  exact ⟨rfl, hB2⟩

theorem freeF_step {l : List Lk} {who : Int} {k : Nat} {x : Lk} (hx : l[k]? = some x) : freeF (l.take (k + 1)) who = freeF (l.take k) who ++ (if x.who = who then [] else [x]) := by
  rw [take_snoc hx]
  unfold freeF
  rw [List.filter_append]
  congr 1
  by_cases h : x.who = who <;> simp [h]

set_option maxHeartbeats 1000000 in
theorem FreeLocks_t (lo : Nat) (A : Option Addr) (n c : Nat) (l : List Lk) (who : Int) (w : World) (hr : Rd cL 3 w lo A n l) (hc : n ≤ c) (hT : Tb w) (h : VTb l) :
    Calls Tryd.prog 80 #[.slice A n c, .int .i64 who] w (LksP w (freeF l who)) := by
  have HC := Lib.hid (ValidTable_t lo A n c l w hr hc hT h)
  have hn48 : n ≤ 48 := by have := h.1; rw [hr.len] at this; exact this
  have HL := Lib.hid hr.len
  clear h
  go_enter Tryd.func80, Tryd.ntmps80
  go_wp2_with fail
  refine HC.out.mono ?_
  rintro e w1 ⟨rfl, hb1⟩
  go_wp2_with fail
  go_loopw [5, 13] (fun v i wr => ∃ k : Nat, k ≤ n ∧ i = .int .i64 k ∧ Below w.heap.size w wr ∧ Own cL 3 67 wr w.heap.size v (freeF (l.take k) who)) (fun _ i _ => n - (intOf i).toNat)
  case atStart => exact ⟨0, Nat.zero_le _, rfl, hb1, Own.nil _ _⟩
  case round =>
    rename World => W1
    obtain ⟨k, hk, rfl, hbl, ho⟩ := hrel
    have hs := hbl.size
    by_cases hlt : k < n
    case neg =>
      rw [List.take_of_length_le (by have := HL.out; omega)] at ho
      go_wp2_with fail
      go_ret
      exact ⟨_, rfl, ho, hbl⟩
    obtain ⟨b, o, x, rfl, _, hb, hx, g0, g1, g2⟩ := (hr.below hbl).atL hlt
    have HS := freeF_step (who := who) hx
    have hfl : (freeF (l.take k) who).length ≤ 48 := by
      unfold freeF
      refine Nat.le_trans (List.length_filter_le _ _) ?_
      rw [List.length_take]; omega
    obtain ⟨xw, xn, xm⟩ := x
    simp only at HS g0 g1 g2
    clear hx
    by_cases e1 : xw = who
    · rw [if_pos e1, List.append_nil] at HS
      have HSS := Lib.hid HS
      subst e1
      clear HS
      go_wp2_with fail
      go_roundw
      case rel => exact ⟨k + 1, by omega, by go_num, hbl.alloc hs _, by rw [HSS.out]; exact ho.alloc _⟩
      case measure => simp [intOf]; omega
    · rw [if_neg e1] at HS
      have HSS := Lib.hid HS
      have e2 : (xw != who) = true := by simpa using e1
      have ho1 := ho.alloc (.cells #[.int .i64 xw, .int .i64 xn, .int .i64 xm] 67)
      have hb1' := hbl.alloc hs (.cells #[.int .i64 xw, .int .i64 xn, .int .i64 xm] 67)
      clear HS e1 ho
      go_wp2_with (at_builtin; refine wpList_append_rd elL _ rfl (.tmp 21) (.tmp 23) rfl rfl (ho1.alloc _) rfl (Rd_oneg (W1.alloc (.cells #[.int .i64 xw, .int .i64 xn, .int .i64 xm] 67)) #[.int .i64 xw, .int .i64 xn, .int .i64 xm] 67 ⟨xw, xn, xm⟩ rfl (W1.heap.size + 1) (by simp)) (by omega) (by simp; omega) ?_; intro v5 w5 ho5 hg5 _)
      have hb5 := below_own (hb1'.alloc hb1'.size _) (ho1.alloc (.cells #[.int .i64 xw, .int .i64 xn, .int .i64 xm] 67)) hg5 (Nat.le_refl _) (by simp; omega)
      go_roundw
      case rel => exact ⟨k + 1, by omega, by go_num, hb5, by rw [HSS.out]; exact ho5⟩
      case measure => simp [intOf]; omega
theorem FreeLocks_f (lo : Nat) (A : Option Addr) (n c : Nat) (l : List Lk) (who : Int) (w : World) (hr : Rd cL 3 w lo A n l) (hc : n ≤ c) (hT : Tb w) (h : ¬ VTb l) :
    Calls Tryd.prog 80 #[.slice A n c, .int .i64 who] w fun e w' => e = .returned (.slice none 0 0) ∧ Below w.heap.size w w' := by
  have HC := Lib.hid (ValidTable_f lo A n c l w hr hc hT h)
  clear h
  go_enter Tryd.func80, Tryd.ntmps80
  go_wp2_with fail
  refine HC.out.mono ?_
  rintro e w1 ⟨rfl, hb1⟩
  go_wp2_with fail
  go_ret
  exact ⟨rfl, hb1⟩
end Go.Proofs.YtgpocjehiohimaaDoor
