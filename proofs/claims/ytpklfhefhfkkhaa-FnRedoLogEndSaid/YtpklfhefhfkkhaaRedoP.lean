/- The plain side of redoing a log. -/
import Derived.Test.YtpklfhefhfkkhaaValidLogP
namespace Go.Proofs.Ytpklfhefhfkkhaa

/-- The transaction ends among these records. -/
def endsF (l : List Rc) (who : Int) : Bool := match l with
  | [] => false
  | r :: rs => if r.who = who ∧ r.fin = true then true else endsF rs who
/-- The first of these records is done. -/
def doneF (l : List Rc) : Bool := match l with
  | [] => false
  | r :: rs => if r.fin = true then false else endsF rs r.who
def setV (t : List Nd) (k : Nat) (v : Int) : List Nd := match t[k]? with
  | some x => t.set k ⟨x.par, x.name, v⟩
  | none => t
def redoL (l : List Rc) (t : List Nd) : List Nd := match l with
  | [] => t
  | r :: rs => redoL rs (if doneF (r :: rs) = true then setV t r.node.toNat r.val else t)
noncomputable def redo (t : List Nd) (log : List Rc) : List Nd := if vl t log = true then redoL log t else []

theorem setV_len (t : List Nd) (k : Nat) (v : Int) : (setV t k v).length = t.length := by
  unfold setV
  split <;> simp
theorem redoL_len (l : List Rc) : ∀ t : List Nd, (redoL l t).length = t.length := by
  induction l with
  | nil => intro t; rfl
  | cons r rs ih =>
    intro t
    rw [redoL, ih]
    split
    · exact setV_len _ _ _
    · rfl
end Go.Proofs.Ytpklfhefhfkkhaa
