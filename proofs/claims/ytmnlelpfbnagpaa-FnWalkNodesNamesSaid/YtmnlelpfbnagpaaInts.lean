/- Words: a call that hands back a list of numbers of its own. -/
import Derived.Test.YtmnlelpfbnagpaaElems
import Derived.Test.YtmnlelpfbnagpaaWords4
import Derived.Test.YtmnlelpfbnagpaaMarkP
namespace Go.Proofs.Ytmnlelpfbnagpaa
open Go.RowKit

def IntsP (w : World) (l : List Int) (e : Ending) (w' : World) : Prop := ∃ v, e = .returned v ∧ Own cI 1 3 w' w.heap.size v l ∧ Below w.heap.size w w'

theorem cell_newg (w : World) (xs : Array Value) (t : TypeId) (g : Nat) (hg : w.heap.size = g) (i : Nat) (v : Value) (h : xs[i]? = some v) : (w.alloc (.cells xs t)).cell? ⟨g, i, none⟩ = some v := by
  subst hg
  exact blk_cell (heap_alloc_new w _) h
end Go.Proofs.Ytmnlelpfbnagpaa
