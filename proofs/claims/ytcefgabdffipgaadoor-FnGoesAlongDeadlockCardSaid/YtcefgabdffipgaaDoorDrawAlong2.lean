/- The walks over DrawAlongFault, DrawGoesAlong, DrawNextAlong. -/
import Derived.Test.YtcefgabdffipgaaDoorDrawAlong
namespace Go.Proofs.YtcefgabdffipgaaDoor
open Go.RowKit

/-- A tree, steps and who are drawn. -/
def TLP (w : World) (e : Ending) (w' : World) : Prop := ∃ (A : Option Addr) (n c : Nat) (t : List Nd) (A2 : Option Addr) (m c2 : Nat) (list : List St) (who : Int),
  e = .returned (.tuple #[.slice A n c, .slice A2 m c2, .int .i64 who]) ∧ n ≤ c ∧ Rd cN 3 w' w.heap.size A n t ∧ n ≤ 13 ∧ NmB t ∧ m ≤ c2 ∧ Rd cS 4 w' w.heap.size A2 m list ∧ m ≤ 17 ∧ 0 ≤ who ∧ who ≤ 3 ∧ Below w.heap.size w w'
set_option maxHeartbeats 1000000 in
theorem DrawAlongFault_any (A : Option Addr) (n c : Nat) (zs : List Int) (w : World) (hr : Rd cB 1 w 0 A n zs) (hc : n ≤ c) (hz : ∀ (k : Nat) (z : Int), zs[k]? = some z → 0 ≤ z ∧ z ≤ 255) :
    Calls Tryd.prog 11 #[.slice A n c] w (TLP w) := by
  go_enter Tryd.func11, Tryd.ntmps11
  go_wp2_with fail
  refine (newReader_any A n c zs _ hr hc hz).mono ?_
  rintro e w1 ⟨rfl, hr1, hb1⟩
  have hs1 := hr1.lt
  clear hr hz
  go_wp2_with fail
  refine (anyTree_any _ 0 _ hr1 (by omega)).mono ?_
  rintro e w2 ⟨A2, n2, c2, t, rfl, hc2, hrd2, hn2, hz2, ⟨p2, hp2, hr2⟩, hg2⟩
  have hs2 := hr2.lt
  go_wp2_with fail
  refine (pick_any _ p2 4 _ hr2 (by omega) (by omega)).mono ?_
  rintro e w3 ⟨z3, rfl, _, _, _, hr3, hg3⟩
  have hg23 := grown_trans hg2 hg3
  have hrd3 := hrd2.grown hg3 hs1
  by_cases hz3 : z3 = 0
  · subst hz3
    go_wp2_with fail
    refine (someSteps_any _ (p2 + 1) _ hr3 (by omega)).mono ?_
    rintro e w4 ⟨v4, l, rfl, ho4, hl4, ⟨p4, hp4, hr4⟩, hg4⟩
    obtain ⟨A4, n4, c4, rfl, hc4, hrd4⟩ := ho4.rdn elS.len (by omega)
    have hn4 : n4 ≤ 17 := by have := hrd4.len; omega
    go_wp2_with fail
    refine (pick_any _ p4 4 _ hr4 (by omega) (by omega)).mono ?_
    rintro e w5 ⟨a, rfl, a0, _, a2, hr5, hg5⟩
    have a3 := a2 (by omega)
    clear a2
    have hg45 := grown_trans hg4 hg5
    have hbw := below_of_grown hb1 (grown_trans hg23 hg45) (Nat.le_refl _)
    have hs3 := hr3.lt
    have H1 := Lib.hid ((hrd3.grown hg45 hs1).low (lo' := w.heap.size) hb1.size)
    have H2 := Lib.hid ((hrd4.grown hg5 hs3).low (lo' := w.heap.size) (Nat.le_trans hb1.size hg23.size))
    clear hrd2 hrd3 hrd4 ho4
    go_wp2_with fail
    refine bodyPost_ret (v := .tuple #[.slice A2 n2 c2, .slice A4 n4 c4, .int .i64 a]) (by simp [results, Tryd.results11, go_sem]) rfl ?_
    exact ⟨A2, n2, c2, t, A4, n4, c4, l, a, rfl, hc2, H1.out, hn2, hz2, hc4, H2.out, hn4, a0, by omega, hbw⟩
  · have hz3' : (z3 == 0) = false := by simpa using hz3
    clear hz3
    go_wp2_with fail
    refine (alongSteps_any _ (p2 + 1) _ A2 n2 c2 t _ hr3 (by omega) hrd3 hs1 hc2 hz2 hn2).mono ?_
    rintro e w4 ⟨v4, l, rfl, ho4, hl4, ⟨p4, hp4, hr4⟩, hg4⟩
    obtain ⟨A4, n4, c4, rfl, hc4, hrd4⟩ := ho4.rdn elS.len (by omega)
    have hn4 : n4 ≤ 17 := by have := hrd4.len; omega
    go_wp2_with fail
    refine (pick_any _ p4 4 _ hr4 (by omega) (by omega)).mono ?_
    rintro e w5 ⟨a, rfl, a0, _, a2, hr5, hg5⟩
    have a3 := a2 (by omega)
    clear a2
    have hg45 := grown_trans hg4 hg5
    have hbw := below_of_grown hb1 (grown_trans hg23 hg45) (Nat.le_refl _)
    have hs3 := hr3.lt
    have H1 := Lib.hid ((hrd3.grown hg45 hs1).low (lo' := w.heap.size) hb1.size)
    have H2 := Lib.hid ((hrd4.grown hg5 hs3).low (lo' := w.heap.size) (Nat.le_trans hb1.size hg23.size))
    clear hrd2 hrd3 hrd4 ho4
    go_wp2_with fail
    refine bodyPost_ret (v := .tuple #[.slice A2 n2 c2, .slice A4 n4 c4, .int .i64 a]) (by simp [results, Tryd.results11, go_sem]) rfl ?_
    exact ⟨A2, n2, c2, t, A4, n4, c4, l, a, rfl, hc2, H1.out, hn2, hz2, hc4, H2.out, hn4, a0, by omega, hbw⟩
/-- A tree and steps are drawn. -/
def TSP (w : World) (e : Ending) (w' : World) : Prop := ∃ (A : Option Addr) (n c : Nat) (t : List Nd) (A2 : Option Addr) (m c2 : Nat) (list : List St),
  e = .returned (.tuple #[.slice A n c, .slice A2 m c2]) ∧ n ≤ c ∧ Rd cN 3 w' w.heap.size A n t ∧ n ≤ 13 ∧ NmB t ∧ m ≤ c2 ∧ Rd cS 4 w' w.heap.size A2 m list ∧ m ≤ 17 ∧ Below w.heap.size w w'
theorem DrawGoesAlong_any (A : Option Addr) (n c : Nat) (zs : List Int) (w : World) (hr : Rd cB 1 w 0 A n zs) (hc : n ≤ c) (hz : ∀ (k : Nat) (z : Int), zs[k]? = some z → 0 ≤ z ∧ z ≤ 255) :
    Calls Tryd.prog 4 #[.slice A n c] w (TSP w) := by
  go_enter Tryd.func4, Tryd.ntmps4
  go_wp2_with fail
  refine (DrawAlongFault_any A n c zs _ hr hc hz).mono ?_
  rintro e w1 ⟨A1, n1, c1, t, A2, m, c2, l, a, rfl, h1, h2, h3, h4, h5, h6, h7, _, _, h8⟩
  go_wp2_with fail
  refine bodyPost_ret (v := .tuple #[.slice A1 n1 c1, .slice A2 m c2]) (by simp [results, Tryd.results4, go_sem]) rfl ?_
  exact ⟨A1, n1, c1, t, A2, m, c2, l, rfl, h1, h2, h3, h4, h5, h6, h7, h8⟩
end Go.Proofs.YtcefgabdffipgaaDoor
