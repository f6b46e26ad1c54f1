/- The plain side of losers: who has records, and has not ended behind one of them. -/
import Derived.Test.YtpklfhefhfkkhaaRedoP
import Derived.Test.YtpklfhefhfkkhaaMarkP
import Derived.Test.YtpklfhefhfkkhaaLawValidLogEnd
namespace Go.Proofs.Ytpklfhefhfkkhaa

def losF (l : List Rc) (who : Int) : Bool := match l with
  | [] => false
  | r :: rs => if r.who = who ∧ r.fin = false ∧ endsF rs who = false then true else losF rs who
noncomputable def los (t : List Nd) (log : List Rc) : List Int := if vl t log = true then markL (losF log) else []
theorem los_yes {t : List Nd} {log : List Rc} (h : vl t log = true) : los t log = markL (losF log) := by simp [los, h]
theorem los_no {t : List Nd} {log : List Rc} (h : vl t log = false) : los t log = [] := by simp [los, h]
theorem los_len (t : List Nd) (log : List Rc) : (los t log).length ≤ 4 := by
  unfold los
  split
  · exact markL_len _
  · simp

/-- One record. -/
theorem losF_fin {r : Rc} (rs : List Rc) (who : Int) (h : r.fin = true) : losF (r :: rs) who = losF rs who := by simp [losF, h]
theorem losF_done {r : Rc} (rs : List Rc) (who : Int) (h : endsF rs r.who = true) : losF (r :: rs) who = losF rs who := by
  rw [losF, if_neg]
  rintro ⟨rfl, _, h2⟩
  rw [h] at h2; cases h2
theorem losF_lost {r : Rc} (rs : List Rc) (who : Int) (hf : r.fin = false) (h : endsF rs r.who = false) : losF (r :: rs) who = (decide (r.who = who) || losF rs who) := by
  rw [losF]
  by_cases e : r.who = who
  · subst e; simp [hf, h]
  · simp [e]
theorem losF_other {r : Rc} (rs : List Rc) (who : Int) (h : r.who ≠ who) : losF (r :: rs) who = losF rs who := by simp [losF, h]

theorem endsF_app (l l' : List Rc) (who : Int) : endsF (l ++ l') who = (endsF l who || endsF l' who) := by
  induction l with
  | nil => rfl
  | cons r rs ih =>
    rw [List.cons_append, endsF, endsF, ih]
    split <;> simp
/-- The ends of all. -/
def allEnd : List Rc := ([0, 1, 2, 3] : List Int).map fun i => ⟨i, 0, 0, true⟩
theorem losF_all (log : List Rc) (who : Int) (h : who = 0 ∨ who = 1 ∨ who = 2 ∨ who = 3) : losF (log ++ allEnd) who = false := by
  have he : endsF allEnd who = true := by rcases h with rfl | rfl | rfl | rfl <;> rfl
  induction log with
  | nil => rcases h with rfl | rfl | rfl | rfl <;> rfl
  | cons r rs ih =>
    rw [List.cons_append, losF, ih, endsF_app, he]
    simp
theorem markL_all (log : List Rc) : markL (losF (log ++ allEnd)) = [] := by
  unfold markL
  rw [List.filter_eq_nil_iff]
  intro a ha
  simp only [List.mem_cons, List.not_mem_nil, or_false] at ha
  rw [losF_all log a ha]
  simp
theorem VL_all {t : List Nd} {log : List Rc} (h : VL t log) (hl : log.length ≤ 12) : VL t (log ++ allEnd) := by
  have h1 := VL_end h (by omega) 0 (by omega) (by omega)
  have h2 := VL_end h1 (by simp; omega) 1 (by omega) (by omega)
  have h3 := VL_end h2 (by simp; omega) 2 (by omega) (by omega)
  have h4 := VL_end h3 (by simp; omega) 3 (by omega) (by omega)
  simpa [allEnd] using h4
theorem los_all {t : List Nd} {log : List Rc} (h : VL t log) (hl : log.length ≤ 12) : los t (log ++ allEnd) = [] := by
  rw [los_yes (vl_true (VL_all h hl)), markL_all]
theorem allEnd_step (k : Nat) (hk : k < 4) : allEnd.take (k + 1) = allEnd.take k ++ [⟨(k : Int), 0, 0, true⟩] := by
  match k, hk with
  | 0, _ => rfl
  | 1, _ => rfl
  | 2, _ => rfl
  | 3, _ => rfl
end Go.Proofs.Ytpklfhefhfkkhaa
