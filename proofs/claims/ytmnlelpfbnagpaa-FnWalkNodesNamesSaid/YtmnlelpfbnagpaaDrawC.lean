/- Words for draws: what an append keeps of a reader; someAt, someMode. -/
import Derived.Test.YtmnlelpfbnagpaaAnyTree
import Derived.Test.YtmnlelpfbnagpaaWords6
namespace Go.Proofs.Ytmnlelpfbnagpaa
open Go.RowKit

/-- What an append onto a row of the call's own keeps. -/
theorem grown_own {α : Type} {cs : α → List Value} {sz : Nat} {e : TypeId} {w0 w w' : World} {R base : Nat} {v : Value} {l : List α} (h : w0.grownBy w (some R)) (ho : Own cs sz e w base v l) (hg : w.grownBy w' v.ownBlock) (hB : w0.heap.size ≤ base) : w0.grownBy w' (some R) :=
  ⟨hg.os.trans h.os, hg.tape.trans h.tape, hg.output.trans h.output, Nat.le_trans h.size hg.size, fun i hi hne =>
    (hg.block i (Nat.lt_of_lt_of_le hi h.size) (fun e => by have := (ho.blk i e.symm).1; omega)).trans (h.block i hi hne)⟩
theorem Rdr.own {α : Type} {cs : α → List Value} {sz : Nat} {e : TypeId} {w w' : World} {R p base : Nat} {v : Value} {l : List α} (h : Rdr w R p) (ho : Own cs sz e w base v l) (hg : w.grownBy w' v.ownBlock) (hB : R < base) : Rdr w' R p :=
  h.keep fun b hb => hg.block b (by have := h.lt; omega) (fun e => by have := (ho.blk b e.symm).1; omega)
theorem grown_alloc {w0 w : World} {row : Option Nat} (h : w0.grownBy w row) (o : Obj) : w0.grownBy (w.alloc o) row := grown_below h ((Below.refl _ _).alloc (Nat.le_refl _) o)

theorem below_of_grown {w w1 w2 : World} (h1 : Below w.heap.size w w1) {R : Nat} (h2 : w1.grownBy w2 (some R)) (hR : w.heap.size ≤ R) : Below w.heap.size w w2 :=
  h1.grown h2 h1.size fun k hk => by injection hk with hk; omega

theorem Adv.tr {w w1 w2 : World} {R p q p1 q1 q2 : Nat} (h : Adv w R p q w1) (hp : ∀ p', p' ≤ p + q → Rdr w1 R p' → p' ≤ p1) (h2 : ∀ p', Rdr w1 R p' → p' ≤ p1 → Adv w1 R p' q1 w2) (hq : p1 + q1 ≤ p + q2) : Adv w R p q2 w2 := by
  obtain ⟨⟨p', hp', hr⟩, hg⟩ := h
  have h1 := hp p' hp' hr
  obtain ⟨⟨p2, hp2, hr2⟩, hg2⟩ := h2 p' hr h1
  exact ⟨⟨p2, by omega, hr2⟩, grown_trans hg hg2⟩

/-- What was read before a row of the call's own was laid is read behind an append onto it. -/
theorem Rd.own {α β : Type} {cs : α → List Value} {cs' : β → List Value} {sz sz' lo lo0 n base : Nat} {e : TypeId} {w0 w w' : World} {A : Option Addr} {l : List α} {v : Value} {l' : List β} (h : Rd cs sz w lo A n l) (h0 : Rd cs sz w0 lo0 A n l) (hB : w0.heap.size ≤ base) (ho : Own cs' sz' e w base v l') (hg : w.grownBy w' v.ownBlock) : Rd cs sz w' lo A n l := by
  refine ⟨h.1, h.2.1, fun hn => ?_⟩
  obtain ⟨b, o, e, hlo, hlt, hc⟩ := h.2.2 hn
  obtain ⟨b0, o0, e0, _, hlt0, _⟩ := h0.2.2 hn
  rw [e] at e0
  simp only [Option.some.injEq, Addr.mk.injEq, and_true] at e0
  refine ⟨b, o, e, hlo, Nat.lt_of_lt_of_le hlt hg.size, fun k x hx j u hu => (World.cell?_of_block (hg.block b hlt ?_)).trans (hc k x hx j u hu)⟩
  intro e2
  have := (ho.blk b e2.symm).1
  omega

theorem someAt_any (R p : Nat) (A : Option Addr) (n c : Nat) (w : World) (hr : Rdr w R p) (hp : p ≤ 900000000) (hn : n ≤ 1000) :
    Calls Try.prog 49 #[.pointer (some ⟨R, 0, none⟩), .slice A n c] w (IntP w R p 2) := by
  have hRl := hr.lt
  go_enter Try.func49, Try.ntmps49
  go_wp2_with fail
  refine (pick_any R p 12 _ hr (by omega) (by omega)).mono ?_
  rintro e w1 ⟨x, rfl, x0, _, x2, hr1, hg1⟩
  have hs1 := hg1.size
  clear x2
  by_cases h0 : x = 0
  · subst h0
    go_wp2_with fail
    refine (one_any R (p + 1) _ _ 3 3 [-1, (n : Int), 0] _ (hr1.alloc _) (by omega) (Rd_newI w1 _ _ _ (by simp) rfl) (by omega) (by omega)).mono ?_
    rintro e w2 ⟨z, rfl, _, hr2, hg2⟩
    have HA := Lib.hid (⟨⟨p + 2, by omega, hr2⟩, grown_trans hg1 (grown_trans (grown_of_below ((Below.refl _ _).alloc (Nat.le_refl _) _)) hg2)⟩ : Adv w R p 2 w2)
    go_wp2_with fail
    go_ret
    exact ⟨z, rfl, HA.out⟩
  · have h0' : (x == 0) = false := by simpa using h0
    clear h0
    go_wp2_with fail
    all_goals
      refine (pick_any R (p + 1) _ _ hr1 (by omega) (by omega)).mono ?_
      rintro e w2 ⟨z, rfl, _, _, _, hr2, hg2⟩
      have HA := Lib.hid (⟨⟨p + 2, by omega, hr2⟩, grown_trans hg1 hg2⟩ : Adv w R p 2 w2)
      go_wp2_with fail
      go_ret
      exact ⟨z, rfl, HA.out⟩
end Go.Proofs.Ytmnlelpfbnagpaa
