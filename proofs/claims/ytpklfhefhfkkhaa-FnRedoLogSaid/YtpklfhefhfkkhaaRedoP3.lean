/- The plain side of redoing: a node's value, reckoned record by record. -/
import Derived.Test.YtpklfhefhfkkhaaRedoP2
namespace Go.Proofs.Ytpklfhefhfkkhaa

def foldV (l : List Rc) (n : Nat) (v : Int) : Int := match l with
  | [] => v
  | r :: rs => foldV rs n (if doneF (r :: rs) = true ∧ r.node = (n : Int) then r.val else v)

theorem foldV_last (n : Nat) (l : List Rc) : ∀ v : Int, (∀ r ∈ l, 0 ≤ r.node) → foldV l n v = (lastF l n).getD v := by
  induction l with
  | nil => intro v _; rfl
  | cons r rs ih =>
    intro v h
    have h0 := h r List.mem_cons_self
    rw [foldV, ih _ (fun r hr => h r (List.mem_cons_of_mem _ hr)), lastF]
    cases lastF rs n with
    | some u => rfl
    | none =>
      simp only [Option.getD_none]
      by_cases e : r.node = (n : Int)
      · have e2 : r.node.toNat = n := by omega
        by_cases d : doneF (r :: rs) = true
        · rw [if_pos ⟨d, e⟩, if_pos ⟨d, e2⟩]; rfl
        · rw [if_neg (fun h => d h.1), if_neg (fun h => d h.1)]; rfl
      · have e2 : r.node.toNat ≠ n := by omega
        rw [if_neg (fun h => e h.2), if_neg (fun h => e2 h.2)]; rfl

theorem redo_at {t : List Nd} {log : List Rc} (h : VL t log) {k : Nat} {x y : Nd} (hx : t[k]? = some x) (hy : (redoL log t)[k]? = some y) : y.par = x.par ∧ y.name = x.name ∧ y.val = foldV log k x.val := by
  rw [redoL_get, hx] at hy
  simp only [Option.map_some, Option.some.injEq] at hy
  subst hy
  refine ⟨rfl, rfl, ?_⟩
  rw [foldV_last _ _ _ (fun r hr => by obtain ⟨j, hj⟩ := List.mem_iff_getElem?.1 hr; exact (h.2.2 j r hj).2.2.1)]
  rfl
end Go.Proofs.Ytpklfhefhfkkhaa
