/- The walk over anyTree. -/
import Derived.Test.YtmnlelpfbnagpaaSomeTree
import Derived.Test.YtmnlelpfbnagpaaWords3
namespace Go.Proofs.Ytmnlelpfbnagpaa
open Go.RowKit

def AnyP (w : World) (R p q : Nat) (e : Ending) (w' : World) : Prop := ∃ (A : Option Addr) (m c : Nat) (l : List Nd), e = .returned (.slice A m c) ∧ m ≤ c ∧ Rd cN 3 w' w.heap.size A m l ∧ m ≤ 13 ∧ NmB l ∧ Adv w R p q w'

theorem NmB.set {l : List Nd} {x : Nd} {k : Nat} (h : NmB l) (hx : x.name.size ≤ 1000000000000) : NmB (l.set k x) := by
  intro i y hy
  rw [List.getElem?_set] at hy
  split at hy
  · split at hy
    · injection hy with hy; subst hy; exact hx
    · cases hy
  · exact h i y hy

set_option maxHeartbeats 1000000 in
theorem anyTree_any (R p : Nat) (w : World) (hr : Rdr w R p) (hp : p ≤ 700000000) :
    Calls Try.prog 34 #[.pointer (some ⟨R, 0, none⟩)] w (AnyP w R p 210) := by
  have hRl := hr.lt
  go_enter Try.func34, Try.ntmps34
  go_wp2_with fail
  refine (someTree_any R p _ hr (by omega)).mono ?_
  rintro e w1 ⟨v, l, rfl, ho, hl1, hl12, hz, ⟨p1, hp1, hr1⟩, hg1⟩
  obtain ⟨g, m, cap, rfl, hgb, hgl, hmc, hm⟩ := ho.form hl1
  have m1 : (1 : Int) ≤ (m : Int) := by omega
  have m12 : (m : Int) ≤ 12 := by omega
  have HM := Lib.hid hm
  clear hm
  go_wp2_with fail
  refine (pick_any R p1 m _ hr1 (by omega) (by omega)).mono ?_
  rintro e w2 ⟨a, rfl, a0, _, a2, hr2, hg2⟩
  have a3 := a2 m1
  obtain ⟨k, rfl⟩ := Int.eq_ofNat_of_zero_le a0
  clear a2
  go_wp2_with fail
  refine (pick_any R (p1 + 1) 30 _ hr2 (by omega) (by omega)).mono ?_
  rintro e w3 ⟨z, rfl, z0, _, _, hr3, hg3⟩
  have hG3 := grown_trans hg1 (grown_trans hg2 hg3)
  have ho3 := (ho.grown hg2 hRl).grown hg3 hRl
  have hs3 := hG3.size
  obtain ⟨x, hx⟩ : ∃ x, l[k]? = some x := ⟨_, List.getElem?_eq_getElem (by have := HM.out; omega)⟩
  have HX := Lib.hid hx
  have hkm : k < m := by omega
  clear hx
  by_cases e0 : z = 0
  · subst e0
    go_wp2_with fail
    refine (pick_any R (p1 + 2) 6 _ hr3 (by omega) (by omega)).mono ?_
    rintro e w4 ⟨y, rfl, y0, _, y2, hr4, hg4⟩
    have y3 := y2 (by omega)
    have ho4 := ho3.grown hg4 hRl
    obtain ⟨_, hrd4⟩ := ho4.rds (fun _ => rfl) (by omega)
    obtain ⟨b', o', x', hA', _, _, hx', g0, g1, g2⟩ := hrd4.atN (k := k) hkm
    simp only [Option.some.injEq, Addr.mk.injEq, and_true] at hA'
    obtain ⟨rfl, rfl⟩ := hA'
    simp only [Nat.zero_add] at g0 g1 g2
    have f0 := ho4.free (k * 3)
    clear y2 hrd4 hx'
    go_wp2_with fail
    go_ret
    have ho5 := ho4.set (u := .int .i64 (y - 1)) (x' := ⟨y - 1, x.name, x.val⟩) (j := 0) (fun _ => rfl) HX.out rfl (by omega) (q := k * 3) (by omega)
    obtain ⟨_, hrd5⟩ := ho5.rds (fun _ => rfl) (by simp; omega)
    have hgb' : R < g := by omega
    exact ⟨_, _, _, _, rfl, hmc, hrd5.low (by omega), by omega, hz.set (hz k x HX.out), ⟨p1 + 3, by omega, hr4.keep fun b hb => Below.heap_setCell _ _ _ _ (by show b ≠ g; omega)⟩,
      ⟨(grown_trans hG3 hg4).os, (grown_trans hG3 hg4).tape, (grown_trans hG3 hg4).output, by simpa using (grown_trans hG3 hg4).size, fun i hi hne => (Below.heap_setCell _ _ _ _ (by show i ≠ g; omega)).trans ((grown_trans hG3 hg4).block i hi hne)⟩⟩
  by_cases e1 : z = 1
  · subst e1
    clear e0
    go_wp2_with fail
    refine (of_any R (p1 + 2) _ _ 4 4 [⟨#[]⟩, ⟨#[65]⟩, ⟨#[97, 98, 99, 100, 101]⟩, ⟨#[97]⟩] _ (hr3.alloc _) (by omega) (Rd_newTg w3 _ _ _ _ rfl (by simp) rfl) (by omega) (by omega)).mono ?_
    rintro e w4 ⟨y, rfl, ⟨ky, hky⟩, hr4, hg4⟩
    have hy : y.size ≤ 1000 := by
      have hm := List.mem_of_getElem? hky
      simp only [List.mem_cons, List.not_mem_nil, or_false] at hm
      rcases hm with h | h | h | h <;> subst h <;> decide
    clear hky
    have ho4 := (ho3.alloc _).grown hg4 hRl
    have hG4 := grown_trans hG3 (grown_trans (grown_of_below ((Below.refl _ _).alloc (Nat.le_refl _) _)) hg4)
    obtain ⟨_, hrd4⟩ := ho4.rds (fun _ => rfl) (by omega)
    obtain ⟨b', o', x', hA', _, _, hx', g0, g1, g2⟩ := hrd4.atN (k := k) hkm
    simp only [Option.some.injEq, Addr.mk.injEq, and_true] at hA'
    obtain ⟨rfl, rfl⟩ := hA'
    simp only [Nat.zero_add] at g0 g1 g2
    have f0 := ho4.free (k * 3 + 1)
    clear hrd4 hx'
    go_wp2_with fail
    go_ret
    have ho5 := ho4.set (u := .string y) (x' := ⟨x.par, y, x.val⟩) (j := 1) (fun _ => rfl) HX.out rfl (by omega) (q := k * 3 + 1) rfl
    obtain ⟨_, hrd5⟩ := ho5.rds (fun _ => rfl) (by simp; omega)
    exact ⟨_, _, _, _, rfl, hmc, hrd5.low (by omega), by omega, hz.set (by show y.size ≤ _; omega), ⟨p1 + 3, by omega, hr4.keep fun b hb => Below.heap_setCell _ _ _ _ (by show b ≠ g; omega)⟩,
      ⟨hG4.os, hG4.tape, hG4.output, by simpa using hG4.size, fun i hi hne => (Below.heap_setCell _ _ _ _ (by show i ≠ g; omega)).trans (hG4.block i hi hne)⟩⟩
  by_cases e2 : z = 2
  · subst e2
    clear e0 e1
    go_wp2_with fail
    refine (one_any R (p1 + 2) _ _ 2 2 [1001, -1001] _ (hr3.alloc _) (by omega) (Rd_newIg w3 _ _ _ _ rfl (by simp) rfl) (by omega) (by omega)).mono ?_
    rintro e w4 ⟨y, rfl, _, hr4, hg4⟩
    have ho4 := (ho3.alloc _).grown hg4 hRl
    have hG4 := grown_trans hG3 (grown_trans (grown_of_below ((Below.refl _ _).alloc (Nat.le_refl _) _)) hg4)
    obtain ⟨_, hrd4⟩ := ho4.rds (fun _ => rfl) (by omega)
    obtain ⟨b', o', x', hA', _, _, hx', g0, g1, g2⟩ := hrd4.atN (k := k) hkm
    simp only [Option.some.injEq, Addr.mk.injEq, and_true] at hA'
    obtain ⟨rfl, rfl⟩ := hA'
    simp only [Nat.zero_add] at g0 g1 g2
    have f0 := ho4.free (k * 3 + 2)
    clear hrd4 hx'
    go_wp2_with fail
    go_ret
    have ho5 := ho4.set (u := .int .i64 y) (x' := ⟨x.par, x.name, y⟩) (j := 2) (fun _ => rfl) HX.out rfl (by omega) (q := k * 3 + 2) rfl
    obtain ⟨_, hrd5⟩ := ho5.rds (fun _ => rfl) (by simp; omega)
    exact ⟨_, _, _, _, rfl, hmc, hrd5.low (by omega), by omega, hz.set (hz k x HX.out), ⟨p1 + 3, by omega, hr4.keep fun b hb => Below.heap_setCell _ _ _ _ (by show b ≠ g; omega)⟩,
      ⟨hG4.os, hG4.tape, hG4.output, by simpa using hG4.size, fun i hi hne => (Below.heap_setCell _ _ _ _ (by show i ≠ g; omega)).trans (hG4.block i hi hne)⟩⟩
  by_cases e3 : z = 3
  · subst e3
    clear e0 e1 e2
    obtain ⟨_, hrd3⟩ := ho3.rds (fun _ => rfl) (by omega)
    have hmc' : (m : Int) ≤ (cap : Int) := by omega
    have hrd4 := hrd3.drop (k := 1) (by omega) hmc
    have hnz : NmB (l.drop 1) := fun i y hy => hz (1 + i) y (by rw [List.getElem?_drop] at hy; exact hy)
    by_cases hcap : cap = 1
    · rw [if_pos hcap] at hrd4
      have hm1 : m = 1 := by omega
      subst hcap
      subst hm1
      go_wp2_with fail
      go_ret
      exact ⟨_, _, _, _, rfl, by omega, hrd4, by omega, hnz, ⟨p1 + 2, by omega, hr3⟩, hG3⟩
    · rw [if_neg hcap] at hrd4
      have hrd5 : Rd cN 3 w3 w.heap.size (some ⟨g, 3, none⟩) (m - 1) (l.drop 1) := by simpa [Addr.add] using hrd4
      go_wp2_with fail
      go_ret
      exact ⟨_, _, _, _, rfl, by omega, hrd5, by omega, hnz, ⟨p1 + 2, by omega, hr3⟩, hG3⟩
  by_cases e4 : z = 4
  case neg =>
    obtain ⟨_, hrd3⟩ := ho3.rds (fun _ => rfl) (by omega)
    have d0 : (z == 0) = false := by simpa using e0
    have d1 : (z == 1) = false := by simpa using e1
    have d2 : (z == 2) = false := by simpa using e2
    have d3 : (z == 3) = false := by simpa using e3
    have d4 : (z == 4) = false := by simpa using e4
    clear e0 e1 e2 e3 e4
    go_wp2_with fail
    go_ret
    exact ⟨_, _, _, _, rfl, hmc, hrd3, by omega, hz, ⟨p1 + 2, by omega, hr3⟩, hG3⟩
  subst e4
  clear e0 e1 e2 e3
  go_wp2_with fail
  go_loopw [3] (fun v wr => ∃ l' : List Nd, Own cN 3 44 wr w.heap.size v l' ∧ l'.length ≤ 13 ∧ NmB l' ∧ w.grownBy wr (some R) ∧ Rdr wr R (p1 + 2)) (fun v _ => 13 - lenV v)
  case atStart => exact ⟨l, ho3, by omega, hz, hG3, hr3⟩
  case round =>
    obtain ⟨l', hol, hl', hzl, hgr, hrr⟩ := hrel
    have hlv := hol.lenV
    obtain ⟨A, m', c', rfl, hmc', hrd'⟩ := hol.rdn (fun _ => rfl) (by omega)
    have hml := hrd'.len
    have HL := Lib.hid hml
    have m13 : (m' : Int) ≤ 13 := by omega
    clear hlv hml
    by_cases hlt : (m' : Int) < 13
    · go_wp2_with (at_builtin; refine wpList_append_rd elN _ rfl (.tmp 49) (.tmp 51) rfl rfl (hol.alloc _) rfl (Rd_one wr _ _ ⟨0, ⟨#[113]⟩, 0⟩ rfl) (by have := HL.out; omega) (by have := hgr.size; simp; omega) ?_; intro v4 w4 ho4 hg4 _)
      have hlv4 := ho4.lenV
      have HV4 : Hid (lenV v4 = m' + 1) := by
        show _ = _
        rw [hlv4, List.length_append, HL.out]; rfl
      have hg5 := grown_trans hgr (grown_of_below ((Below.refl wr.heap.size wr).alloc (Nat.le_refl _) (.cells #[.int .i64 0, .string ⟨#[113]⟩, .int .i64 0] 44)))
      have hg6 : w.grownBy w4 (some R) := ⟨hg4.os.trans hg5.os, hg4.tape.trans hg5.tape, hg4.output.trans hg5.output, Nat.le_trans hg5.size hg4.size, fun i hi hne =>
        (hg4.block i (Nat.lt_of_lt_of_le hi hg5.size) (fun e => by have := ((hol.alloc (.cells #[.int .i64 0, .string ⟨#[113]⟩, .int .i64 0] 44)).blk i e.symm).1; omega)).trans (hg5.block i hi hne)⟩
      have hr6 : Rdr w4 R (p1 + 2) := (hrr.alloc (.cells #[.int .i64 0, .string ⟨#[113]⟩, .int .i64 0] 44)).keep fun b hb => hg4.block b (by have := hgr.size; simp; omega) (fun e => by have := ((hol.alloc (.cells #[.int .i64 0, .string ⟨#[113]⟩, .int .i64 0] 44)).blk b e.symm).1; omega)
      clear hlv4 hg4 hol hrd' hg5
      go_wp2_with fail
      go_roundw
      case rel => exact ⟨l' ++ [⟨0, ⟨#[113]⟩, 0⟩], ho4, by rw [List.length_append, HL.out]; simp; omega, hzl.snoc (by simp [ByteArray.size]), hg6, hr6⟩
      case measure =>
        show 13 - lenV v4 < 13 - m'
        rw [HV4.out]; omega
    · have hge : (13 : Int) ≤ (m' : Int) := by omega
      go_wp2_with fail
      go_ret
      exact ⟨_, _, _, _, rfl, hmc', hrd', by omega, hzl, ⟨p1 + 2, by omega, hrr⟩, hgr⟩
end Go.Proofs.Ytmnlelpfbnagpaa
