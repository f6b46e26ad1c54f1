/- The walk over someLog and the draw of a tree and a log. -/
import Derived.Test.YtpklfhefhfkkhaaAnyTree
namespace Go.Proofs.Ytpklfhefhfkkhaa
open Go.RowKit

def LogP (w : World) (R p q : Nat) (e : Ending) (w' : World) : Prop := ∃ (A : Option Addr) (m c : Nat) (l : List Rc), e = .returned (.slice A m c) ∧ m ≤ c ∧ Rd cR 4 w' w.heap.size A m l ∧ m ≤ 17 ∧ Adv w R p q w'

/-- What an append onto a row of the call's own keeps. -/
theorem grown_own {α : Type} {cs : α → List Value} {sz : Nat} {e : TypeId} {w0 w w' : World} {R base : Nat} {v : Value} {l : List α} (h : w0.grownBy w (some R)) (ho : Own cs sz e w base v l) (hg : w.grownBy w' v.ownBlock) (hB : w0.heap.size ≤ base) : w0.grownBy w' (some R) :=
  ⟨hg.os.trans h.os, hg.tape.trans h.tape, hg.output.trans h.output, Nat.le_trans h.size hg.size, fun i hi hne =>
    (hg.block i (Nat.lt_of_lt_of_le hi h.size) (fun e => by have := (ho.blk i e.symm).1; omega)).trans (h.block i hi hne)⟩
theorem Rdr.own {α : Type} {cs : α → List Value} {sz : Nat} {e : TypeId} {w w' : World} {R p base : Nat} {v : Value} {l : List α} (h : Rdr w R p) (ho : Own cs sz e w base v l) (hg : w.grownBy w' v.ownBlock) (hB : R < base) : Rdr w' R p :=
  h.keep fun b hb => hg.block b (by have := h.lt; omega) (fun e => by have := (ho.blk b e.symm).1; omega)
theorem grown_alloc {w0 w : World} {row : Option Nat} (h : w0.grownBy w row) (o : Obj) : w0.grownBy (w.alloc o) row := grown_below h ((Below.refl _ _).alloc (Nat.le_refl _) o)

set_option maxHeartbeats 1600000 in
theorem someLog_any (R p : Nat) (A : Option Addr) (n c : Nat) (w : World) (hr : Rdr w R p) (hp : p ≤ 600000000) (hn : n ≤ 1000) :
    Calls Try.prog 30 #[.pointer (some ⟨R, 0, none⟩), .slice A n c] w (LogP w R p 200) := by
  have hRl := hr.lt
  go_enter Try.func30, Try.ntmps30
  go_wp2_with fail
  refine (one_any R p _ _ 8 8 [6, 8, 4, 12, 1, 0, 16, 17] _ ((hr.alloc _).alloc _) (by omega) (Rd_newIg (w.alloc (.cells #[] 30)) _ _ _ _ (by simp) (by simp) rfl) (by omega) (by omega)).mono ?_
  rintro e w2 ⟨z, rfl, ⟨kz, hkz⟩, hr2, hg2⟩
  have hz : 0 ≤ z ∧ z ≤ 17 := by
    have hm := List.mem_of_getElem? hkz
    simp only [List.mem_cons, List.not_mem_nil, or_false] at hm
    omega
  obtain ⟨z0, z17⟩ := hz
  clear hkz
  go_wp2_with fail
  go_loopw [5, 6] (fun v n wr => ∃ (l : List Rc) (y : Int) (q : Nat), n = .int .i64 y ∧ 0 ≤ y ∧ y ≤ 17 ∧ Own cR 4 30 wr w.heap.size v l ∧ (l.length : Int) + y ≤ 17 ∧
      (q : Int) + 6 * y ≤ p + 120 ∧ Rdr wr R q ∧ w.grownBy wr (some R)) (fun _ n _ => (intOf n).toNat)
  case atStart =>
    refine ⟨[], z, p + 1, rfl, z0, z17, ?_, by simpa using z17, by omega, hr2, ?_⟩
    · exact ((Own.empty (cs := cR) (sz := 4) w (fun _ => rfl)).alloc _).grown hg2 hRl
    · exact grown_trans (grown_of_below (((Below.refl _ _).alloc (Nat.le_refl _) _).alloc (by simp) _)) hg2
  case round =>
    obtain ⟨l, y, q, rfl, y0, y17, ho, hl1, hq, hrr, hgg⟩ := hrel
    have hsr := hgg.size
    by_cases hy : 0 < y
    · go_wp2_with fail
      refine (pick_any R q 3 _ hrr (by omega) (by omega)).mono ?_
      rintro e w3 ⟨a, rfl, a0, _, a2, hr3, hg3⟩
      clear a2
      have ho3 := ho.grown hg3 hRl
      have hG3 := grown_trans hgg hg3
      by_cases ha : a = 0
      · subst ha
        go_wp2_with fail
        refine (pick_any R (q + 1) 4 _ hr3 (by omega) (by omega)).mono ?_
        rintro e w4 ⟨b, rfl, b0, _, _, hr4, hg4⟩
        have ho4 := ho3.grown hg4 hRl
        have hG4 := grown_trans hG3 hg4
        clear ho ho3
        go_wp2_with (at_builtin; refine wpList_append_rd elR _ rfl (.tmp 18) (.tmp 22) rfl rfl (ho4.alloc _) rfl (Rd_one w4 _ _ ⟨b, 0, 0, true⟩ rfl) (by omega) (by have := hG4.size; simp; omega) ?_; intro v5 w5 ho5 hg5 _)
        have hG5 := grown_own (grown_alloc hG4 _) (ho4.alloc _) hg5 (Nat.le_refl _)
        have hr5 := (hr4.alloc _).own (ho4.alloc _) hg5 hRl
        clear hg5
        go_wp2_with fail
        go_roundw
        case rel => exact ⟨l ++ [⟨b, 0, 0, true⟩], y - 1, q + 2, rfl, by omega, by omega, ho5, by simp; omega, by omega, hr5, hG5⟩
        case measure => simp [intOf]; omega
      · have ha' : (a == 0) = false := by simpa using ha
        clear ha
        go_wp2_with fail
        refine (pick_any R (q + 1) 4 _ hr3 (by omega) (by omega)).mono ?_
        rintro e w4 ⟨b, rfl, b0, _, _, hr4, hg4⟩
        go_wp2_with fail
        all_goals
          refine (pick_any R (q + 2) _ _ hr4 (by omega) (by omega)).mono ?_
          rintro e w5 ⟨b2, rfl, _, _, _, hr5, hg5⟩
          go_wp2_with fail
          refine (someValue_any R (q + 3) _ hr5 (by omega)).mono ?_
          rintro e w6 ⟨b3, rfl, ⟨q6, hq6, hr6⟩, hg6⟩
          have ho6 := ((ho3.grown hg4 hRl).grown hg5 hRl).grown hg6 hRl
          have hG6 := grown_trans hG3 (grown_trans hg4 (grown_trans hg5 hg6))
          clear ho ho3
          go_wp2_with (at_builtin; refine wpList_append_rd elR _ rfl (.tmp 24) (.tmp 36) rfl rfl (ho6.alloc _) rfl (Rd_one w6 _ _ ⟨b, b2, b3, false⟩ rfl) (by omega) (by have := hG6.size; simp; omega) ?_; intro v7 w7 ho7 hg7 _)
          have hG7 := grown_own (grown_alloc hG6 _) (ho6.alloc _) hg7 (Nat.le_refl _)
          have hr7 := (hr6.alloc _).own (ho6.alloc _) hg7 hRl
          clear hg7
          go_wp2_with fail
          go_roundw
          case rel => exact ⟨l ++ [⟨b, b2, b3, false⟩], y - 1, q6, rfl, by omega, by omega, ho7, by simp; omega, by omega, hr7, hG7⟩
          case measure => simp [intOf]; omega
    · have hy' : y ≤ 0 := by omega
      obtain ⟨A2, m, c2, rfl, hmc, hrd⟩ := ho.rdn (fun _ => rfl) (by omega)
      have hml := hrd.len
      have HL := Lib.hid hml
      have m17 : (m : Int) ≤ 17 := by omega
      clear hml
      by_cases hm : 0 < m
      case neg =>
        have hm' : (m : Int) ≤ 0 := by omega
        go_wp2_with fail
        go_ret
        exact ⟨_, _, _, _, rfl, hmc, hrd, by omega, ⟨q, by omega, hrr⟩, hgg⟩
      have hm' : (0 : Int) < (m : Int) := by omega
      go_wp2_with fail
      refine (pick_any R q 16 _ hrr (by omega) (by omega)).mono ?_
      rintro e w3 ⟨a, rfl, a0, _, a2, hr3, hg3⟩
      clear a2
      have ho3 := ho.grown hg3 hRl
      have hrd3 := hrd.grown hg3 hRl
      have hG3 := grown_trans hgg hg3
      by_cases ha : a = 0
      case neg =>
        have ha' : (a == 0) = false := by simpa using ha
        clear ha
        go_wp2_with fail
        go_ret
        exact ⟨_, _, _, _, rfl, hmc, hrd3, by omega, ⟨q + 1, by omega, hr3⟩, hG3⟩
      subst ha
      go_wp2_with fail
      refine (pick_any R (q + 1) m _ hr3 (by omega) (by omega)).mono ?_
      rintro e w4 ⟨k', rfl, k0, _, k2, hr4, hg4⟩
      have k3 := k2 (by omega)
      obtain ⟨k, rfl⟩ := Int.eq_ofNat_of_zero_le k0
      clear k2
      have ho4 := ho3.grown hg4 hRl
      have hG4 := grown_trans hG3 hg4
      go_wp2_with fail
      refine (one_any R (q + 2) _ _ 2 2 [4, 0] _ (hr4.alloc _) (by omega) (Rd_newIg w4 _ _ _ _ rfl (by simp) rfl) (by have := hG4.size; omega) (by omega)).mono ?_
      rintro e w5 ⟨x1, rfl, _, hr5, hg5⟩
      have ho5 := (ho4.alloc (.cells #[.int .i64 4, .int .i64 0] 3)).grown hg5 hRl
      have hG5 := grown_trans (grown_alloc hG4 (.cells #[.int .i64 4, .int .i64 0] 3)) hg5
      go_wp2_with fail
      refine (one_any R (q + 3) _ _ 2 2 [12, 1] _ (hr5.alloc _) (by omega) (Rd_newIg w5 _ _ _ _ rfl (by simp) rfl) (by have := hG5.size; omega) (by omega)).mono ?_
      rintro e w6 ⟨x2, rfl, _, hr6, hg6⟩
      have ho6 := (ho5.alloc (.cells #[.int .i64 12, .int .i64 1] 3)).grown hg6 hRl
      have hG6 := grown_trans (grown_alloc hG5 (.cells #[.int .i64 12, .int .i64 1] 3)) hg6
      go_wp2_with fail
      refine (one_any R (q + 4) _ _ 2 2 [1001, 1] _ (hr6.alloc _) (by omega) (Rd_newIg w6 _ _ _ _ rfl (by simp) rfl) (by have := hG6.size; omega) (by omega)).mono ?_
      rintro e w7 ⟨x3, rfl, _, hr7, hg7⟩
      have ho7 := (ho6.alloc (.cells #[.int .i64 1001, .int .i64 1] 3)).grown hg7 hRl
      have hG7 := grown_trans (grown_alloc hG6 (.cells #[.int .i64 1001, .int .i64 1] 3)) hg7
      go_wp2_with fail
      refine (pick_any R (q + 5) 2 _ hr7 (by omega) (by omega)).mono ?_
      rintro e w8 ⟨x4, rfl, _, _, _, hr8, hg8⟩
      have ho8 := ho7.grown hg8 hRl
      have hG8 := grown_trans hG7 hg8
      clear ho ho3 ho4 ho5 ho6 ho7 hrd hrd3
      obtain ⟨g, m', cap, hv, hgb, hgl, -, -⟩ := ho8.form (by have := HL.out; omega)
      simp only [Value.slice.injEq] at hv
      obtain ⟨rfl, rfl, rfl⟩ := hv
      obtain ⟨_, hrd8⟩ := ho8.rds (fun _ => rfl) (by omega)
      obtain ⟨b', o', x', hA', _, _, hx', g0, g1, g2, g3⟩ := hrd8.atR (k := k) (by omega)
      simp only [Option.some.injEq, Addr.mk.injEq, and_true] at hA'
      obtain ⟨rfl, rfl⟩ := hA'
      simp only [Nat.zero_add] at g0 g1 g2 g3
      have f0 := ho8.free (k * 4)
      have f1 := ho8.free (k * 4 + 1)
      have f2 := ho8.free (k * 4 + 2)
      have f3 := ho8.free (k * 4 + 3)
      have hkl : k < l.length := by have := HL.out; omega
      have ho9 := ho8.set (u := .int .i64 x1) (x' := ⟨x1, x'.node, x'.val, x'.fin⟩) (j := 0) (fun _ => rfl) hx' rfl (by omega) (q := k * 4) (by omega)
      have ho10 := ho9.set (u := .int .i64 x2) (x' := ⟨x1, x2, x'.val, x'.fin⟩) (j := 1) (fun _ => rfl) (List.getElem?_set_self hkl) rfl (by omega) (q := k * 4 + 1) rfl
      have ho11 := ho10.set (u := .int .i64 x3) (x' := ⟨x1, x2, x3, x'.fin⟩) (j := 2) (fun _ => rfl) (List.getElem?_set_self (by simpa using hkl)) rfl (by omega) (q := k * 4 + 2) rfl
      have ho12 := ho11.set (u := .bool (x4 == 0)) (x' := ⟨x1, x2, x3, x4 == 0⟩) (j := 3) (fun _ => rfl) (List.getElem?_set_self (by simpa using hkl)) rfl (by omega) (q := k * 4 + 3) rfl
      have hRg : R < g := by omega
      have HO := Lib.hid (ho12.rds (fun _ => rfl) (by simp; omega))
      clear ho9 ho10 ho11 ho12 hx' hrd8
      go_wp2_with fail
      go_ret
      refine ⟨_, _, _, _, rfl, hmc, HO.out.2, by omega, ⟨q + 6, by omega, hr8.keep fun b hb => ?_⟩, hG8.os, hG8.tape, hG8.output, by simpa using hG8.size, fun i hi hne => ?_⟩
      · rw [Below.heap_setCell _ _ _ _ (by show b ≠ g; omega), Below.heap_setCell _ _ _ _ (by show b ≠ g; omega), Below.heap_setCell _ _ _ _ (by show b ≠ g; omega), Below.heap_setCell _ _ _ _ (by show b ≠ g; omega)]
      · rw [Below.heap_setCell _ _ _ _ (by show i ≠ g; omega), Below.heap_setCell _ _ _ _ (by show i ≠ g; omega), Below.heap_setCell _ _ _ _ (by show i ≠ g; omega), Below.heap_setCell _ _ _ _ (by show i ≠ g; omega)]
        exact hG8.block i hi hne
end Go.Proofs.Ytpklfhefhfkkhaa
