/- The walks over DrawTakeAll, DrawLocksFor, DrawMayRead, DrawMayWrite, DrawGrainFault. -/
import Derived.Test.YtkolhdlmpjehfaaDoorDrawTab
namespace Go.Proofs.YtkolhdlmpjehfaaDoor
open Go.RowKit

/-- A table and a list are drawn. -/
def LLP (w : World) (e : Ending) (w' : World) : Prop := ∃ (A : Option Addr) (n c : Nat) (l : List Lk) (A2 : Option Addr) (m c2 : Nat) (list : List Lk),
  e = .returned (.tuple #[.slice A n c, .slice A2 m c2]) ∧ n ≤ c ∧ Rd cL 3 w' w.heap.size A n l ∧ n ≤ 49 ∧ m ≤ c2 ∧ Rd cL 3 w' w.heap.size A2 m list ∧ m ≤ 6 ∧ Below w.heap.size w w'

set_option maxHeartbeats 1000000 in
theorem DrawTakeAll_any (A : Option Addr) (n c : Nat) (zs : List Int) (w : World) (hr : Rd cB 1 w 0 A n zs) (hc : n ≤ c) (hz : ∀ (k : Nat) (z : Int), zs[k]? = some z → 0 ≤ z ∧ z ≤ 255) :
    Calls Tryd.prog 16 #[.slice A n c] w (LLP w) := by
  go_enter Tryd.func16, Tryd.ntmps16
  go_wp2_with fail
  refine (newReader_any A n c zs _ hr hc hz).mono ?_
  rintro e w1 ⟨rfl, hr1, hb1⟩
  have hs1 := hr1.lt
  clear hr hz
  go_wp2_with fail
  refine (someTree_any _ 0 _ hr1 (by omega)).mono ?_
  rintro e w2 ⟨v2, t, rfl, ho2, hl1, hl12, hz2, ⟨p2, hp2, hr2⟩, hg2⟩
  obtain ⟨A2, n2, c2, rfl, hc2, hrd2⟩ := ho2.rdn elN.len (by omega)
  have hn2 : n2 ≤ 12 := by have := hrd2.len; omega
  have hn21 : 1 ≤ n2 := by have := hrd2.len; omega
  clear ho2 hl1 hl12
  go_wp2_with fail
  refine (grainTable_any _ p2 _ A2 n2 c2 t _ hr2 (by omega) hrd2 hs1 hc2 hz2 (by omega)).mono ?_
  rintro e w3 ⟨A3, n3, c3, l, rfl, hc3, hrd3, hn3, ⟨p3, hp3, hr3⟩, hg3⟩
  have hG3 := grown_trans hg2 hg3
  have hrd2' := hrd2.grown hg3 hs1
  have hs2 := hr2.lt
  go_wp2_with fail
  refine (pick_any _ p3 4 _ hr3 (by omega) (by omega)).mono ?_
  rintro e w4 ⟨a, rfl, _, _, _, hr4, hg4⟩
  go_wp2_with fail
  refine (pick_any _ (p3 + 1) n2 _ hr4 (by omega) (by omega)).mono ?_
  rintro e w5 ⟨b, rfl, _, _, _, hr5, hg5⟩
  go_wp2_with fail
  refine (pick_any _ (p3 + 2) 5 _ hr5 (by omega) (by omega)).mono ?_
  rintro e w6 ⟨d, rfl, _, _, _, hr6, hg6⟩
  have hg46 := grown_trans hg4 (grown_trans hg5 hg6)
  have hG6 := grown_trans hG3 hg46
  have hrd6 := hrd2'.grown hg46 hs1
  have hrd36 := hrd3.grown hg46 hs2
  clear hg4 hg5 hg6 hr4 hr5 hrd2 hrd2' hrd3
  go_wp2_with fail
  refine (LocksForS_own _ A2 n2 c2 t a b (1 + d) _ hrd6 hc2 hz2).mono ?_
  rintro e w7 ⟨v7, rfl, ho7, hb7⟩
  have hG7 := grown_below hG6 hb7
  have hrd37 := hrd36.below hb7
  have hr7 := hr6.below hb7
  have hl7 := lksF_len t a b (1 + d)
  have hs7 := hr6.lt
  go_wp2_with fail
  refine (pick_any _ (p3 + 3) 12 _ hr7 (by omega) (by omega)).mono ?_
  rintro e w8 ⟨x, rfl, _, _, _, hr8, hg8⟩
  have ho8 := ho7.grown hg8 hs7
  have hG8 := grown_trans hG7 hg8
  have hrd38 := hrd37.grown hg8 hs2
  generalize lksF t a b (1 + d) = lst at *
  clear ho7 hrd37 hrd6 hr6 hr7
  by_cases h0 : x = 0
  · subst h0
    go_wp2_with fail
    refine (pick_any _ (p3 + 4) 5 _ hr8 (by omega) (by omega)).mono ?_
    rintro e w9 ⟨y1, rfl, _, _, _, hr9, hg9⟩
    go_wp2_with fail
    refine (pick_any _ (p3 + 5) 13 _ hr9 (by omega) (by omega)).mono ?_
    rintro e w10 ⟨y2, rfl, _, _, _, hr10, hg10⟩
    go_wp2_with fail
    refine (pick_any _ (p3 + 6) 7 _ hr10 (by omega) (by omega)).mono ?_
    rintro e w11 ⟨y3, rfl, _, _, _, hr11, hg11⟩
    have hg911 := grown_trans hg9 (grown_trans hg10 hg11)
    have ho11 := ho8.grown hg911 hs7
    have hG11 := grown_trans hG8 hg911
    have hrd311 := hrd38.grown hg911 hs2
    have hs11 := hG11.size
    have hbs : w6.heap.size ≤ w11.heap.size := Nat.le_trans hb7.size (Nat.le_trans hg8.size hg911.size)
    clear ho8 hrd38
    go_wp2_with (at_builtin; refine wpList_append_rd elL _ rfl (.tmp 29) (.tmp 37) rfl rfl (ho11.alloc _) rfl (Rd_one w11 #[.int .i64 y1, .int .i64 y2, .int .i64 y3] _ ⟨y1, y2, y3⟩ rfl) (by omega) (by simp; omega) ?_; intro v12 w12 ho12 hg12 _)
    have hB : w1.heap.size ≤ w6.heap.size := hG6.size
    have hG12 := grown_own (grown_alloc hG11 _) (ho11.alloc (.cells #[.int .i64 y1, .int .i64 y2, .int .i64 y3] 31)) hg12 hB
    have hrd312 := Rd.own (hrd311.alloc (.cells #[.int .i64 y1, .int .i64 y2, .int .i64 y3] 31)) hrd36 (Nat.le_refl _) (ho11.alloc (.cells #[.int .i64 y1, .int .i64 y2, .int .i64 y3] 31)) hg12
    obtain ⟨A12, m12, c12, rfl, hc12, hrd12⟩ := ho12.rdn elL.len (by simp; omega)
    have hm12 : m12 ≤ 6 := by have := hrd12.len; simp at this; omega
    have hbw := below_of_grown hb1 hG12 (Nat.le_refl _)
    have H1 := Lib.hid (hrd312.low (lo' := w.heap.size) (Nat.le_trans hb1.size hg2.size))
    have H2 := Lib.hid (hrd12.low (lo' := w.heap.size) (Nat.le_trans hb1.size hG6.size))
    clear hg12 hrd312 hrd12 ho12
    go_ret2
    exact ⟨A3, n3, c3, l, A12, m12, c12, _, rfl, hc3, H1.out, hn3, hc12, H2.out, hm12, hbw⟩
  · have h0' : (x == 0) = false := by simpa using h0
    obtain ⟨A12, m12, c12, rfl, hc12, hrd12⟩ := ho8.rdn elL.len (by omega)
    have hm12 : m12 ≤ 6 := by have := hrd12.len; omega
    have hbw := below_of_grown hb1 hG8 (Nat.le_refl _)
    have H1 := Lib.hid (hrd38.low (lo' := w.heap.size) (Nat.le_trans hb1.size hg2.size))
    have H2 := Lib.hid (hrd12.low (lo' := w.heap.size) (Nat.le_trans hb1.size hG6.size))
    clear hrd38 hrd12 ho8 h0
    go_wp2_with fail
    go_ret2
    exact ⟨A3, n3, c3, l, A12, m12, c12, lst, rfl, hc3, H1.out, hn3, hc12, H2.out, hm12, hbw⟩
/-- A tree, who, a node and a mode are drawn. -/
def TWNP (w : World) (e : Ending) (w' : World) : Prop := ∃ (A : Option Addr) (n c : Nat) (t : List Nd) (a b d : Int),
  e = .returned (.tuple #[.slice A n c, .int .i64 a, .int .i64 b, .int .i64 d]) ∧ n ≤ c ∧ Rd cN 3 w' w.heap.size A n t ∧ n ≤ 13 ∧ NmB t ∧ Below w.heap.size w w'
theorem DrawLocksFor_any (A : Option Addr) (n c : Nat) (zs : List Int) (w : World) (hr : Rd cB 1 w 0 A n zs) (hc : n ≤ c) (hz : ∀ (k : Nat) (z : Int), zs[k]? = some z → 0 ≤ z ∧ z ≤ 255) :
    Calls Tryd.prog 24 #[.slice A n c] w (TWNP w) := by
  go_enter Tryd.func24, Tryd.ntmps24
  go_wp2_with fail
  refine (newReader_any A n c zs _ hr hc hz).mono ?_
  rintro e w1 ⟨rfl, hr1, hb1⟩
  have hs1 := hr1.lt
  clear hr hz
  go_wp2_with fail
  refine (anyTree_any _ 0 _ hr1 (by omega)).mono ?_
  rintro e w2 ⟨A2, n2, c2, t, rfl, hc2, hrd2, hn2, hz2, ⟨p2, hp2, hr2⟩, hg2⟩
  go_wp2_with fail
  refine (one_any _ p2 _ _ 6 6 [0, 1, 2, 3, 4, -1] _ (hr2.alloc _) (by omega) (Rd_newI w2 _ _ _ (by simp) rfl) (by have := hr2.lt; omega) (by omega)).mono ?_
  rintro e w3 ⟨a, rfl, _, hr3, hg3⟩
  have hg23 := grown_trans (grown_of_below (row := some w.heap.size) ((Below.refl _ _).alloc (Nat.le_refl _) (.cells #[.int .i64 0, .int .i64 1, .int .i64 2, .int .i64 3, .int .i64 4, .int .i64 (-1)] 3))) hg3
  go_wp2_with fail
  refine (someAt_any _ (p2 + 1) A2 n2 c2 _ hr3 (by omega) (by omega)).mono ?_
  rintro e w4 ⟨b, rfl, ⟨p4, hp4, hr4⟩, hg4⟩
  go_wp2_with fail
  refine (someMode_any _ p4 _ hr4 (by omega)).mono ?_
  rintro e w5 ⟨d, rfl, ⟨p5, hp5, hr5⟩, hg5⟩
  have hg25 := grown_trans hg23 (grown_trans hg4 hg5)
  have hbw := below_of_grown hb1 (grown_trans hg2 hg25) (Nat.le_refl _)
  have H1 := Lib.hid ((hrd2.grown hg25 hs1).low (lo' := w.heap.size) hb1.size)
  clear hrd2
  go_wp2_with fail
  refine bodyPost_ret (v := .tuple #[.slice A2 n2 c2, .int .i64 a, .int .i64 b, .int .i64 d]) (by simp [results, Tryd.results24, go_sem]) rfl ?_
  exact ⟨A2, n2, c2, t, a, b, d, rfl, hc2, H1.out, hn2, hz2, hbw⟩
/-- A tree, a table, who and a node are drawn. -/
def TTP (w : World) (e : Ending) (w' : World) : Prop := ∃ (A : Option Addr) (n c : Nat) (t : List Nd) (A2 : Option Addr) (m c2 : Nat) (l : List Lk) (a b : Int),
  e = .returned (.tuple #[.slice A n c, .slice A2 m c2, .int .i64 a, .int .i64 b]) ∧ n ≤ c ∧ Rd cN 3 w' w.heap.size A n t ∧ n ≤ 13 ∧ NmB t ∧ m ≤ c2 ∧ Rd cL 3 w' w.heap.size A2 m l ∧ m ≤ 49 ∧ 0 ≤ a ∧ a ≤ 3 ∧ Below w.heap.size w w'
theorem DrawMayRead_any (A : Option Addr) (n c : Nat) (zs : List Int) (w : World) (hr : Rd cB 1 w 0 A n zs) (hc : n ≤ c) (hz : ∀ (k : Nat) (z : Int), zs[k]? = some z → 0 ≤ z ∧ z ≤ 255) :
    Calls Tryd.prog 32 #[.slice A n c] w (TTP w) := by
  go_enter Tryd.func32, Tryd.ntmps32
  go_wp2_with fail
  refine (newReader_any A n c zs _ hr hc hz).mono ?_
  rintro e w1 ⟨rfl, hr1, hb1⟩
  have hs1 := hr1.lt
  clear hr hz
  go_wp2_with fail
  refine (anyTree_any _ 0 _ hr1 (by omega)).mono ?_
  rintro e w2 ⟨A2, n2, c2, t, rfl, hc2, hrd2, hn2, hz2, ⟨p2, hp2, hr2⟩, hg2⟩
  have hs2 := hr2.lt
  go_wp2_with fail
  refine (grainTable_any _ p2 _ A2 n2 c2 t _ hr2 (by omega) hrd2 hs1 hc2 hz2 hn2).mono ?_
  rintro e w3 ⟨A3, n3, c3, l, rfl, hc3, hrd3, hn3, ⟨p3, hp3, hr3⟩, hg3⟩
  go_wp2_with fail
  refine (pick_any _ p3 4 _ hr3 (by omega) (by omega)).mono ?_
  rintro e w4 ⟨a, rfl, a0, _, a2, hr4, hg4⟩
  have a3 := a2 (by omega)
  clear a2
  go_wp2_with fail
  refine (someAt_any _ (p3 + 1) A2 n2 c2 _ hr4 (by omega) (by omega)).mono ?_
  rintro e w5 ⟨b, rfl, ⟨p5, hp5, hr5⟩, hg5⟩
  have hg45 := grown_trans hg4 hg5
  have hg35 := grown_trans hg3 hg45
  have hbw := below_of_grown hb1 (grown_trans hg2 hg35) (Nat.le_refl _)
  have H1 := Lib.hid ((hrd2.grown hg35 hs1).low (lo' := w.heap.size) hb1.size)
  have H2 := Lib.hid ((hrd3.grown hg45 hs2).low (lo' := w.heap.size) (Nat.le_trans hb1.size hg2.size))
  clear hrd2 hrd3
  go_wp2_with fail
  refine bodyPost_ret (v := .tuple #[.slice A2 n2 c2, .slice A3 n3 c3, .int .i64 a, .int .i64 b]) (by simp [results, Tryd.results32, go_sem]) rfl ?_
  exact ⟨A2, n2, c2, t, A3, n3, c3, l, a, b, rfl, hc2, H1.out, hn2, hz2, hc3, H2.out, hn3, a0, by omega, hbw⟩
theorem DrawMayWrite_any (A : Option Addr) (n c : Nat) (zs : List Int) (w : World) (hr : Rd cB 1 w 0 A n zs) (hc : n ≤ c) (hz : ∀ (k : Nat) (z : Int), zs[k]? = some z → 0 ≤ z ∧ z ≤ 255) :
    Calls Tryd.prog 38 #[.slice A n c] w (TTP w) := by
  go_enter Tryd.func38, Tryd.ntmps38
  go_wp2_with fail
  refine (DrawMayRead_any A n c zs _ hr hc hz).mono ?_
  rintro e w1 ⟨A1, n1, c1, t, A2, m, c2, l, a, b, rfl, h⟩
  go_wp2_with fail
  refine bodyPost_ret (v := .tuple #[.slice A1 n1 c1, .slice A2 m c2, .int .i64 a, .int .i64 b]) (by simp [results, Tryd.results38, go_sem]) rfl ?_
  exact ⟨A1, n1, c1, t, A2, m, c2, l, a, b, rfl, h⟩
/-- A tree, a table and who are drawn. -/
def TTWP (w : World) (e : Ending) (w' : World) : Prop := ∃ (A : Option Addr) (n c : Nat) (t : List Nd) (A2 : Option Addr) (m c2 : Nat) (l : List Lk) (a : Int),
  e = .returned (.tuple #[.slice A n c, .slice A2 m c2, .int .i64 a]) ∧ n ≤ c ∧ Rd cN 3 w' w.heap.size A n t ∧ n ≤ 13 ∧ NmB t ∧ m ≤ c2 ∧ Rd cL 3 w' w.heap.size A2 m l ∧ m ≤ 49 ∧ 0 ≤ a ∧ a ≤ 3 ∧ Below w.heap.size w w'
theorem DrawGrainFault_any (A : Option Addr) (n c : Nat) (zs : List Int) (w : World) (hr : Rd cB 1 w 0 A n zs) (hc : n ≤ c) (hz : ∀ (k : Nat) (z : Int), zs[k]? = some z → 0 ≤ z ∧ z ≤ 255) :
    Calls Tryd.prog 28 #[.slice A n c] w (TTWP w) := by
  go_enter Tryd.func28, Tryd.ntmps28
  go_wp2_with fail
  refine (newReader_any A n c zs _ hr hc hz).mono ?_
  rintro e w1 ⟨rfl, hr1, hb1⟩
  have hs1 := hr1.lt
  clear hr hz
  go_wp2_with fail
  refine (anyTree_any _ 0 _ hr1 (by omega)).mono ?_
  rintro e w2 ⟨A2, n2, c2, t, rfl, hc2, hrd2, hn2, hz2, ⟨p2, hp2, hr2⟩, hg2⟩
  have hs2 := hr2.lt
  go_wp2_with fail
  refine (grainTable_any _ p2 _ A2 n2 c2 t _ hr2 (by omega) hrd2 hs1 hc2 hz2 hn2).mono ?_
  rintro e w3 ⟨A3, n3, c3, l, rfl, hc3, hrd3, hn3, ⟨p3, hp3, hr3⟩, hg3⟩
  go_wp2_with fail
  refine (pick_any _ p3 4 _ hr3 (by omega) (by omega)).mono ?_
  rintro e w4 ⟨a, rfl, a0, _, a2, hr4, hg4⟩
  have a3 := a2 (by omega)
  clear a2
  have hg34 := grown_trans hg3 hg4
  have hbw := below_of_grown hb1 (grown_trans hg2 hg34) (Nat.le_refl _)
  have H1 := Lib.hid ((hrd2.grown hg34 hs1).low (lo' := w.heap.size) hb1.size)
  have H2 := Lib.hid ((hrd3.grown hg4 hs2).low (lo' := w.heap.size) (Nat.le_trans hb1.size hg2.size))
  clear hrd2 hrd3
  go_wp2_with fail
  go_ret3
  exact ⟨A2, n2, c2, t, A3, n3, c3, l, a, rfl, hc2, H1.out, hn2, hz2, hc3, H2.out, hn3, a0, by omega, hbw⟩
end Go.Proofs.YtkolhdlmpjehfaaDoor
