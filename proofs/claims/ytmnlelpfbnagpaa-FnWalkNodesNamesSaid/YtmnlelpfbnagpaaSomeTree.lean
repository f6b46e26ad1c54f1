/- The walk over someTree: some tree, not empty, in memory of the call's own. -/
import Derived.Test.YtmnlelpfbnagpaaAddNode
import Derived.Test.YtmnlelpfbnagpaaDraw0
namespace Go.Proofs.Ytmnlelpfbnagpaa
open Go.RowKit

def TreeP (w : World) (R p q : Nat) (e : Ending) (w' : World) : Prop := ∃ (v : Value) (l : List Nd), e = .returned v ∧ Own cN 3 44 w' w.heap.size v l ∧ 1 ≤ l.length ∧ l.length ≤ 12 ∧ NmB l ∧ Adv w R p q w'

theorem NmB.snoc {l : List Nd} {x : Nd} (h : NmB l) (hx : x.name.size ≤ 1000000000000) : NmB (l ++ [x]) := by
  intro i y hy
  rcases Nat.lt_or_ge i l.length with hl | hl
  · rw [List.getElem?_append_left hl] at hy; exact h i y hy
  · rw [List.getElem?_append_right hl] at hy
    have := List.mem_of_getElem? hy
    simp only [List.mem_cons, List.not_mem_nil, or_false] at this
    subst this; exact hx

set_option maxHeartbeats 1000000 in
theorem someTree_any (R p : Nat) (w : World) (hr : Rdr w R p) (hp : p ≤ 800000000) :
    Calls Try.prog 60 #[.pointer (some ⟨R, 0, none⟩)] w (TreeP w R p 200) := by
  have hRl := hr.lt
  go_enter Try.func60, Try.ntmps60
  go_wp2_with fail
  refine (someValue_any R p _ hr (by omega)).mono ?_
  rintro e w1 ⟨x, rfl, ⟨p1, hp1, hr1⟩, hg1⟩
  have hs1 := hg1.size
  go_wp2_with fail
  refine (one_any R p1 _ _ 7 7 [5, 8, 3, 12, 1, 0, 16] _ ((hr1.alloc _).alloc _) (by omega) (Rd_newIg (w1.alloc (.cells #[.int .i64 (-1), .string ⟨#[]⟩, .int .i64 x] 44)) _ _ _ _ (by simp) (by simp) rfl) (by omega) (by omega)).mono ?_
  rintro e w2 ⟨z, rfl, ⟨kz, hkz⟩, hr2, hg2⟩
  have hz : 0 ≤ z ∧ z ≤ 16 := by
    have hm := List.mem_of_getElem? hkz
    simp only [List.mem_cons, List.not_mem_nil, or_false] at hm
    omega
  obtain ⟨z0, z16⟩ := hz
  clear hkz
  go_wp2_with fail
  go_loopw [3, 4] (fun v n wr => ∃ (l : List Nd) (y : Int) (q : Nat), n = .int .i64 y ∧ 0 ≤ y ∧ y ≤ 16 ∧ Own cN 3 44 wr w.heap.size v l ∧ 1 ≤ l.length ∧ l.length ≤ 12 ∧ NmB l ∧
      (q : Int) + 5 * y ≤ p + 90 ∧ Rdr wr R q ∧ w.grownBy wr (some R)) (fun _ n _ => (intOf n).toNat)
  case atStart =>
    refine ⟨[⟨-1, ⟨#[]⟩, x⟩], z, p1 + 1, rfl, z0, z16, ?_, by simp, by simp, ?_, by omega, hr2, ?_⟩
    · have h1 : Own cN 3 44 (w1.alloc (.cells #[.int .i64 (-1), .string ⟨#[]⟩, .int .i64 x] 44)) w1.heap.size (.slice (some ⟨w1.heap.size, 0, none⟩) 1 1) [(⟨-1, ⟨#[]⟩, x⟩ : Nd)] :=
        Own.lit (cs := cN) (sz := 3) w1 _ [(⟨-1, ⟨#[]⟩, x⟩ : Nd)] (by simp) (fun _ => rfl) rfl
      exact ((h1.alloc _).grown hg2 (by omega)).low hs1
    · intro i y hy
      have := List.mem_of_getElem? hy
      simp only [List.mem_cons, List.not_mem_nil, or_false] at this
      subst this
      simp [ByteArray.size]
    · exact grown_trans hg1 (grown_trans (grown_of_below (((Below.refl _ _).alloc (Nat.le_refl _) _).alloc (by simp) _)) hg2)
  case round =>
    obtain ⟨l, y, q, rfl, y0, y16, ho, hl1, hl12, hz, hq, hrr, hgg⟩ := hrel
    obtain ⟨A, m, c, rfl, hmc, hrd⟩ := ho.rdn (fun _ => rfl) (by omega)
    have hml := hrd.len
    have hsr := hgg.size
    have HML := Lib.hid hml
    have m1 : (1 : Int) ≤ (m : Int) := by omega
    have m12 : (m : Int) ≤ 12 := by omega
    clear hml
    by_cases hy : 0 < y
    · go_wp2_with fail
      refine (pick_any R q m _ hrr (by omega) (by omega)).mono ?_
      rintro e w3 ⟨a, rfl, a0, _, a2, hr3, hg3⟩
      clear a2
      go_wp2_with fail
      refine (someName_any R (q + 1) _ hr3 (by omega)).mono ?_
      rintro e w4 ⟨s, rfl, hs, ⟨p4, hp4, hr4⟩, hg4⟩
      go_wp2_with fail
      refine (someValue_any R p4 _ hr4 (by omega)).mono ?_
      rintro e w5 ⟨b, rfl, ⟨p5, hp5, hr5⟩, hg5⟩
      have hR : R < w.heap.size := hRl
      have hs3 := hg3.size
      have hs4 := hg4.size
      have hs5 := hg5.size
      have ho5 := ((ho.grown hg3 hR).grown hg4 hR).grown hg5 hR
      have hrd5 := ((hrd.grown hg3 hR).grown hg4 hR).grown hg5 hR
      have HG := Lib.hid (grown_trans hgg (grown_trans hg3 (grown_trans hg4 hg5)))
      clear ho hrd
      go_wp2_with fail
      refine (AddNodeS_any _ A m c l a s b _ hrd5 hmc hz (by omega)).mono ?_
      rintro e w6 ⟨hb6, ⟨ha, out, rfl, ho6⟩ | ⟨ha, rfl⟩⟩
      · have hl' := len_lt_of_addOk ha
        clear ha
        go_wp2_with fail
        go_roundw
        case rel => exact ⟨l ++ [⟨a, s, b⟩], y - 1, p5, rfl, by omega, by omega, ho6.low (by omega), by simp, by simp; omega, hz.snoc (by show s.size ≤ _; omega), by omega, hr5.below hb6, grown_below HG.out hb6⟩
        case measure => simp [intOf]; omega
      · clear ha
        go_wp2_with fail
        go_roundw
        case rel => exact ⟨l, y - 1, p5, rfl, by omega, by omega, ho5.below hb6, hl1, hl12, hz, by omega, hr5.below hb6, grown_below HG.out hb6⟩
        case measure => simp [intOf]; omega
    · have hy' : y ≤ 0 := by omega
      go_wp2_with fail
      go_ret
      exact ⟨_, l, rfl, ho, hl1, hl12, hz, ⟨q, by omega, hrr⟩, hgg⟩
end Go.Proofs.Ytmnlelpfbnagpaa
