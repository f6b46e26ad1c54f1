/- The walks over newReader, one, of, someValue, someName. -/
import Derived.Test.YtmnlelpfbnagpaaReader
namespace Go.Proofs.Ytmnlelpfbnagpaa
open Go.RowKit

/-- The reader R has been asked at most q times more; nothing else that there was has changed. -/
structure Adv (w : World) (R p q : Nat) (w' : World) : Prop where
  rd : ∃ p', p' ≤ p + q ∧ Rdr w' R p'
  gr : w.grownBy w' (some R)

theorem Rd_new {α : Type} {cs : α → List Value} {sz : Nat} (w : World) (xs : Array Value) (t : TypeId) (l : List α) (hn : l.length ≤ 1000000) (h : ∀ k x, l[k]? = some x → ∀ j u, (cs x)[j]? = some u → xs[k * sz + j]? = some u) :
    Rd cs sz (w.alloc (.cells xs t)) w.heap.size (some ⟨w.heap.size, 0, none⟩) l.length l :=
  ⟨rfl, by omega, fun _ => ⟨w.heap.size, 0, rfl, Nat.le_refl _, by simp, fun k x hx j u hu => by
    rw [Nat.zero_add]
    exact blk_cell (heap_alloc_new w _) (h k x hx j u hu)⟩⟩
theorem Rd_newI (w : World) (xs : Array Value) (t : TypeId) (l : List Int) (hn : l.length ≤ 1000000) (h : xs.toList = l.map (Value.int .i64)) :
    Rd cI 1 (w.alloc (.cells xs t)) w.heap.size (some ⟨w.heap.size, 0, none⟩) l.length l :=
  Rd_new w xs t l hn fun k x hx j u hu => by
    match j, hu with
    | 0, hu =>
      simp only [cI, List.getElem?_cons_zero, Option.some.injEq] at hu
      subst hu
      have : xs.toList[k]? = some (.int .i64 x) := by rw [h, List.getElem?_map, hx]; rfl
      simpa using this
    | j + 1, hu => simp [cI] at hu
theorem Rd_newT (w : World) (xs : Array Value) (t : TypeId) (l : List ByteArray) (hn : l.length ≤ 1000000) (h : xs.toList = l.map Value.string) :
    Rd cT 1 (w.alloc (.cells xs t)) w.heap.size (some ⟨w.heap.size, 0, none⟩) l.length l :=
  Rd_new w xs t l hn fun k x hx j u hu => by
    match j, hu with
    | 0, hu =>
      simp only [cT, List.getElem?_cons_zero, Option.some.injEq] at hu
      subst hu
      have : xs.toList[k]? = some (.string x) := by rw [h, List.getElem?_map, hx]; rfl
      simpa using this
    | j + 1, hu => simp [cT] at hu

theorem Rd_newIg (w : World) (xs : Array Value) (t : TypeId) (l : List Int) (g : Nat) (hg : w.heap.size = g) (hn : l.length ≤ 1000000) (h : xs.toList = l.map (Value.int .i64)) :
    Rd cI 1 (w.alloc (.cells xs t)) g (some ⟨g, 0, none⟩) l.length l := by subst hg; exact Rd_newI w xs t l hn h
theorem Rd_newTg (w : World) (xs : Array Value) (t : TypeId) (l : List ByteArray) (g : Nat) (hg : w.heap.size = g) (hn : l.length ≤ 1000000) (h : xs.toList = l.map Value.string) :
    Rd cT 1 (w.alloc (.cells xs t)) g (some ⟨g, 0, none⟩) l.length l := by subst hg; exact Rd_newT w xs t l hn h

def NewR (w : World) (e : Ending) (w' : World) : Prop := e = .returned (.pointer (some ⟨w.heap.size, 0, none⟩)) ∧ Rdr w' w.heap.size 0 ∧ Below w.heap.size w w'

theorem rdr_new {w : World} {A : Option Addr} {n c : Nat} {zs : List Int} (hr : Rd cB 1 w 0 A n zs) (hn : n ≤ 2000) (hz : ∀ (k : Nat) (z : Int), zs[k]? = some z → 0 ≤ z ∧ z ≤ 255) :
    Rdr (w.alloc (.cells #[.slice A n c, .int .i64 0] 78)) w.heap.size 0 := by
  refine ⟨A, n, c, zs, heap_alloc_new w _, hr.len, hn, hz, fun h0 => ?_⟩
  obtain ⟨b, o, e, _, hb, hc⟩ := hr.2.2 h0
  exact ⟨b, o, e, hb, fun k z hx => by
    have h1 := hc k z hx 0 _ rfl
    simp only [Nat.mul_one, Nat.add_zero] at h1
    exact (World.cell?_alloc_lt w _ _ hb).trans h1⟩

theorem newReader_any (A : Option Addr) (n c : Nat) (zs : List Int) (w : World) (hr : Rd cB 1 w 0 A n zs) (hc : n ≤ c) (hz : ∀ (k : Nat) (z : Int), zs[k]? = some z → 0 ≤ z ∧ z ≤ 255) :
    Calls Try.prog 33 #[.slice A n c] w (NewR w) := by
  by_cases h : n ≤ 2000
  · have h' : (n : Int) ≤ 2000 := by omega
    have HR := Lib.hid (rdr_new (c := c) hr h hz)
    clear hr hz
    go_enter Try.func33, Try.ntmps33
    go_wp2_with fail
    go_ret
    exact ⟨rfl, HR.out, (Below.refl _ _).alloc (Nat.le_refl _) _⟩
  · have h' : (2000 : Int) < (n : Int) := by omega
    have h2 : (2000 : Int) ≤ (c : Int) := by omega
    have HR := Lib.hid (rdr_new (c := c) (hr.take (k := 2000) (by omega)) (by omega) (fun k z hx => by
      rw [List.getElem?_take] at hx
      split at hx
      · exact hz k z hx
      · cases hx))
    clear hr hz
    go_enter Try.func33, Try.ntmps33
    go_wp2_with fail
    go_ret
    exact ⟨rfl, HR.out, (Below.refl _ _).alloc (Nat.le_refl _) _⟩

def OneP (w : World) (R p : Nat) (zs : List Int) (e : Ending) (w' : World) : Prop := ∃ x : Int, e = .returned (.int .i64 x) ∧ (∃ k : Nat, zs[k]? = some x) ∧ Rdr w' R (p + 1) ∧ w.grownBy w' (some R)
theorem one_any (R p lo : Nat) (A : Option Addr) (n c : Nat) (zs : List Int) (w : World) (hr : Rdr w R p) (hp : p ≤ 1000000000) (hl : Rd cI 1 w lo A n zs) (hlo : R < lo) (hn : 1 ≤ n) :
    Calls Try.prog 53 #[.pointer (some ⟨R, 0, none⟩), .slice A n c] w (OneP w R p zs) := by
  have hle := hl.le
  go_enter Try.func53, Try.ntmps53
  go_wp2_with fail
  refine (pick_any R p n _ hr hp (by omega)).mono ?_
  rintro e w1 ⟨x, rfl, x0, _, x2, hr1, hg1⟩
  obtain ⟨j, rfl⟩ := Int.eq_ofNat_of_zero_le x0
  have hj := x2 (by omega)
  have hl1 := hl.grown hg1 hlo
  obtain ⟨b, o, y, rfl, _, hb, hy, g0⟩ := hl1.atI (k := j) (by omega)
  have HY := Lib.hid hy
  have HR := Lib.hid hr1
  clear hy x2 hl1 hl hr hr1
  go_wp2_with fail
  go_ret
  exact ⟨y, rfl, ⟨j, HY.out⟩, HR.out, hg1⟩

def OfP (w : World) (R p : Nat) (zs : List ByteArray) (e : Ending) (w' : World) : Prop := ∃ x : ByteArray, e = .returned (.string x) ∧ (∃ k : Nat, zs[k]? = some x) ∧ Rdr w' R (p + 1) ∧ w.grownBy w' (some R)
theorem of_any (R p lo : Nat) (A : Option Addr) (n c : Nat) (zs : List ByteArray) (w : World) (hr : Rdr w R p) (hp : p ≤ 1000000000) (hl : Rd cT 1 w lo A n zs) (hlo : R < lo) (hn : 1 ≤ n) :
    Calls Try.prog 52 #[.pointer (some ⟨R, 0, none⟩), .slice A n c] w (OfP w R p zs) := by
  have hle := hl.le
  go_enter Try.func52, Try.ntmps52
  go_wp2_with fail
  refine (pick_any R p n _ hr hp (by omega)).mono ?_
  rintro e w1 ⟨x, rfl, x0, _, x2, hr1, hg1⟩
  obtain ⟨j, rfl⟩ := Int.eq_ofNat_of_zero_le x0
  have hj := x2 (by omega)
  have hl1 := hl.grown hg1 hlo
  obtain ⟨b, o, y, rfl, _, hb, hy, g0⟩ := hl1.atT (k := j) (by omega)
  have HY := Lib.hid hy
  have HR := Lib.hid hr1
  clear hy x2 hl1 hl hr hr1
  go_wp2_with fail
  go_ret
  exact ⟨y, rfl, ⟨j, HY.out⟩, HR.out, hg1⟩

def IntP (w : World) (R p q : Nat) (e : Ending) (w' : World) : Prop := ∃ x : Int, e = .returned (.int .i64 x) ∧ Adv w R p q w'
def NameP (w : World) (R p q : Nat) (e : Ending) (w' : World) : Prop := ∃ x : ByteArray, e = .returned (.string x) ∧ x.size ≤ 1000 ∧ Adv w R p q w'

theorem someValue_any (R p : Nat) (w : World) (hr : Rdr w R p) (hp : p ≤ 900000000) :
    Calls Try.prog 72 #[.pointer (some ⟨R, 0, none⟩)] w (IntP w R p 3) := by
  have hRl := hr.lt
  go_enter Try.func72, Try.ntmps72
  go_wp2_with fail
  refine (pick_any R p 40 _ hr (by omega) (by omega)).mono ?_
  rintro e w1 ⟨x, rfl, x0, _, x2, hr1, hg1⟩
  have hx := x2 (by omega)
  clear x2
  go_wp2_with fail
  refine (pick_any R (p + 1) 250 _ hr1 (by omega) (by omega)).mono ?_
  rintro e w2 ⟨y, rfl, y0, _, y2, hr2, hg2⟩
  have hy := y2 (by omega)
  have hs1 := hg1.size
  have hs2 := hg2.size
  clear y2
  go_wp2_with fail
  refine (one_any R (p + 2) _ _ 10 10 [0, 1, -1, 5, 10, 100, 1000, -1000, x, 4 * y - 500] _ (hr2.alloc _) (by omega) (Rd_newI w2 _ _ _ (by simp) rfl) (by omega) (by omega)).mono ?_
  rintro e w3 ⟨z, rfl, _, hr3, hg3⟩
  have HA : Adv w R p 3 w3 := ⟨⟨p + 3, by omega, hr3⟩, grown_trans (grown_trans hg1 hg2) (grown_trans (grown_of_below ((Below.refl _ _).alloc (Nat.le_refl _) _)) hg3)⟩
  go_wp2_with fail
  go_ret
  exact ⟨z, rfl, HA⟩

theorem someName_any (R p : Nat) (w : World) (hr : Rdr w R p) (hp : p ≤ 900000000) :
    Calls Try.prog 50 #[.pointer (some ⟨R, 0, none⟩)] w (NameP w R p 1) := by
  have hRl := hr.lt
  go_enter Try.func50, Try.ntmps50
  go_wp2_with fail
  refine (of_any R p _ _ 6 6 [⟨#[97]⟩, ⟨#[98]⟩, ⟨#[99]⟩, ⟨#[97, 98]⟩, ⟨#[120]⟩, ⟨#[122]⟩] _ (hr.alloc _) (by omega) (Rd_newT w _ _ _ (by simp) rfl) (by omega) (by omega)).mono ?_
  rintro e w1 ⟨x, rfl, ⟨k, hk⟩, hr1, hg1⟩
  have hx : x.size ≤ 1000 := by
    have hm := List.mem_of_getElem? hk
    simp only [List.mem_cons, List.not_mem_nil, or_false] at hm
    rcases hm with h | h | h | h | h | h <;> subst h <;> decide
  have HA : Adv w R p 1 w1 := ⟨⟨p + 1, by omega, hr1⟩, grown_trans (grown_of_below ((Below.refl _ _).alloc (Nat.le_refl _) _)) hg1⟩
  clear hk
  go_wp2_with fail
  go_ret
  exact ⟨x, rfl, hx, HA⟩
end Go.Proofs.Ytmnlelpfbnagpaa
