/- Words: what is read behind an append onto another row. No program. -/
import Derived.Test.YtmnlelpfbnagpaaWords4
namespace Go.Proofs.Ytmnlelpfbnagpaa
open Go.RowKit

theorem Rd.ne {α : Type} {cs : α → List Value} {sz : Nat} {w w' : World} {lo n b o : Nat} {l : List α} {row : Option Nat} (h : Rd cs sz w lo (some ⟨b, o, none⟩) n l) (hb : w.grownBy w' row) (hne : some b ≠ row) : Rd cs sz w' lo (some ⟨b, o, none⟩) n l := by
  refine ⟨h.1, h.2.1, fun hn => ?_⟩
  obtain ⟨b', o', e, hlo, hlt, hc⟩ := h.2.2 hn
  simp only [Option.some.injEq, Addr.mk.injEq, and_true] at e
  obtain ⟨rfl, rfl⟩ := e
  exact ⟨b, o, rfl, hlo, Nat.lt_of_lt_of_le hlt hb.size, fun k x hx j u hu => (World.cell?_of_block (hb.block b hlt hne)).trans (hc k x hx j u hu)⟩

/-- Block number b of the world w holds one element. -/
theorem Rd_oneg {α : Type} {cs : α → List Value} {sz : Nat} (w : World) (xs : Array Value) (t : TypeId) (x : α) (h : xs.toList = cs x) (g : Nat) (hg : w.heap.size = g) : Rd cs sz (w.alloc (.cells xs t)) g (some ⟨g, 0, none⟩) 1 [x] := by
  subst hg; exact Rd_one w xs t x h
theorem Own.emptyg {α : Type} {cs : α → List Value} {sz : Nat} {e : TypeId} (w : World) (hlen : ∀ x, (cs x).length = sz) (g : Nat) (hg : w.heap.size = g) : Own cs sz e (w.alloc (.cells #[] e)) g (.slice (some ⟨g, 0, none⟩) 0 0) ([] : List α) := by
  subst hg; exact Own.empty w hlen

section
variable {α : Type} {cs : α → List Value} {sz : Nat} {e : TypeId} (W : World) (xs : Array Value) (x : α)

/-- The empty row laid, then one element laid apart; and the other way round. -/
theorem two_B (hlen : ∀ x, (cs x).length = sz) (h : xs.toList = cs x) : Own cs sz e ((W.alloc (.cells #[] e)).alloc (.cells xs e)).drew W.heap.size (.slice (some ⟨W.heap.size, 0, none⟩) 0 0) ([] : List α) ∧
    Rd cs sz ((W.alloc (.cells #[] e)).alloc (.cells xs e)).drew W.heap.size (some ⟨W.heap.size + 1, 0, none⟩) 1 [x] :=
  ⟨((Own.empty W hlen).alloc _).drew, ((Rd_oneg (W.alloc (.cells #[] e)) xs e x h (W.heap.size + 1) (by simp)).drew).low (by omega)⟩
theorem two_C (hlen : ∀ x, (cs x).length = sz) (h : xs.toList = cs x) : Own cs sz e ((W.alloc (.cells xs e)).alloc (.cells #[] e)).drew W.heap.size (.slice (some ⟨W.heap.size + 1, 0, none⟩) 0 0) ([] : List α) ∧
    Rd cs sz ((W.alloc (.cells xs e)).alloc (.cells #[] e)).drew W.heap.size (some ⟨W.heap.size, 0, none⟩) 1 [x] :=
  ⟨((Own.emptyg (W.alloc (.cells xs e)) hlen (W.heap.size + 1) (by simp)).drew).low (by omega), ((Rd_one W xs e x h).alloc _).drew⟩
end
end Go.Proofs.Ytmnlelpfbnagpaa
