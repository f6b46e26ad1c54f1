/- The plain side of logs. -/
import Derived.Test.YtgmgmnigcikebaaTreeP
namespace Go.Proofs.Ytgmgmnigcikebaa

def OkRec (n : Nat) (r : Rc) : Prop := 0 ≤ r.who ∧ r.who ≤ 3 ∧ 0 ≤ r.node ∧ r.node ≤ (n : Int) - 1 ∧ -1000 ≤ r.val ∧ r.val ≤ 1000 ∧ (r.fin = true → r.node = 0 ∧ r.val = 0)
def OkLog (n : Nat) (log : List Rc) : Prop := ∀ (i : Nat) (r : Rc), log[i]? = some r → OkRec n r
def VL (t : List Nd) (log : List Rc) : Prop := VT t ∧ log.length ≤ 16 ∧ OkLog t.length log
open Classical in
noncomputable def vl (t : List Nd) (log : List Rc) : Bool := decide (VL t log)
open Classical in
/-- The reference's validLog, of the log alone. -/
noncomputable def vl0 (n : Nat) (log : List Rc) : Bool := decide (log.length ≤ 16 ∧ OkLog n log)
theorem vl_true {t : List Nd} {log : List Rc} (h : VL t log) : vl t log = true := by simpa [vl] using h
theorem vl_false {t : List Nd} {log : List Rc} (h : ¬ VL t log) : vl t log = false := by simpa [vl] using h
theorem VL_of {t : List Nd} {log : List Rc} (h : vl t log = true) : VL t log := by simpa [vl] using h
theorem nVL_of {t : List Nd} {log : List Rc} (h : vl t log = false) : ¬ VL t log := by simpa [vl] using h
theorem vl_eq (t : List Nd) (log : List Rc) : vl t log = (vt t && vl0 t.length log) := by
  unfold vl vt vl0 VL
  by_cases h : VT t <;> simp [h]
theorem vl0_true {n : Nat} {log : List Rc} (h1 : log.length ≤ 16) (h2 : OkLog n log) : vl0 n log = true := by simpa [vl0] using ⟨h1, h2⟩
theorem vl0_false {n : Nat} {log : List Rc} (h : ¬ (log.length ≤ 16 ∧ OkLog n log)) : vl0 n log = false := by simpa [vl0] using h

/-- The first k records are fine. -/
def OkLogTo (n : Nat) (log : List Rc) (k : Nat) : Prop := ∀ (i : Nat) (r : Rc), i < k → log[i]? = some r → OkRec n r
theorem OkLogTo.succ {n k : Nat} {log : List Rc} {r : Rc} (h : OkLogTo n log k) (hr : log[k]? = some r) (ho : OkRec n r) : OkLogTo n log (k + 1) := by
  intro i x hi hx
  by_cases e : i = k
  · subst e; rw [hr] at hx; injection hx with hx; subst hx; exact ho
  · exact h i x (by omega) hx
theorem OkLogTo.all {n : Nat} {log : List Rc} {k : Nat} (h : OkLogTo n log k) (hk : log.length ≤ k) : OkLog n log := by
  intro i r hr
  exact h i r (by have := (List.getElem?_eq_some_iff.1 hr).1; omega) hr
end Go.Proofs.Ytgmgmnigcikebaa
