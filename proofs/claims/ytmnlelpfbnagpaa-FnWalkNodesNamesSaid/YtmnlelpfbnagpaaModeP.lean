/- The plain side of modes: six numbers. -/
import Derived.Test.YtmnlelpfbnagpaaWords
namespace Go.Proofs.Ytmnlelpfbnagpaa

def togF (a b : Int) : Bool :=
  if min a b = 0 then true else if min a b = 1 then decide (max a b ≠ 5) else if min a b = 2 then decide (max a b = 2) else if min a b = 3 then decide (max a b = 3) else false
def joinF (a b : Int) : Int := if min a b = 2 ∧ max a b = 3 then 4 else max a b
def needF (m : Int) : Int := if m = 1 ∨ m = 3 then 1 else if m = 2 ∨ m = 4 ∨ m = 5 then 2 else 0
def IsM (m : Int) : Prop := 0 ≤ m ∧ m ≤ 5
instance (m : Int) : Decidable (IsM m) := inferInstanceAs (Decidable (_ ∧ _))
/-- a is as strong as b. -/
def strF (a b : Int) : Bool := decide (joinF a b = a)

theorem all6 {p : Int → Prop} (h : ∀ n : Fin 6, p (n.val : Int)) (a : Int) (ha : IsM a) : p a := by
  obtain ⟨j, rfl⟩ := Int.eq_ofNat_of_zero_le ha.1
  have := ha.2
  exact h ⟨j, by omega⟩
theorem all66 {p : Int → Int → Prop} (h : ∀ m n : Fin 6, p (m.val : Int) (n.val : Int)) (a b : Int) (ha : IsM a) (hb : IsM b) : p a b :=
  all6 (p := fun a => p a b) (fun m => all6 (p := fun b => p m.val b) (h m) b hb) a ha
theorem all666 {p : Int → Int → Int → Prop} (h : ∀ l m n : Fin 6, p (l.val : Int) (m.val : Int) (n.val : Int)) (a b c : Int) (ha : IsM a) (hb : IsM b) (hc : IsM c) : p a b c :=
  all6 (p := fun a => p a b c) (fun l => all66 (p := fun b c => p l.val b c) (h l) b c hb hc) a ha

theorem togF_comm (a b : Int) : togF a b = togF b a := by
  unfold togF
  rw [Int.min_comm, Int.max_comm]
theorem joinF_comm (a b : Int) : joinF a b = joinF b a := by
  unfold joinF
  rw [Int.min_comm, Int.max_comm]
theorem joinF_isM {a b : Int} (ha : IsM a) (hb : IsM b) : IsM (joinF a b) := all66 (p := fun a b => IsM (joinF a b)) (by decide) a b ha hb
theorem joinF_pos {a b : Int} (ha : IsM a) (hb : IsM b) (h : 1 ≤ b) : 1 ≤ joinF a b := all66 (p := fun a b => 1 ≤ b → 1 ≤ joinF a b) (by decide) a b ha hb h
theorem joinF_zero {b : Int} (hb : IsM b) : joinF 0 b = b := all6 (p := fun b => joinF 0 b = b) (by decide) b hb
theorem joinF_idem {a b : Int} (ha : IsM a) (hb : IsM b) : joinF (joinF a b) b = joinF a b := all66 (p := fun a b => joinF (joinF a b) b = joinF a b) (by decide) a b ha hb
theorem joinF_left {a b : Int} (ha : IsM a) (hb : IsM b) : joinF (joinF a b) a = joinF a b := all66 (p := fun a b => joinF (joinF a b) a = joinF a b) (by decide) a b ha hb
theorem togF_zero (b : Int) (hb : IsM b) : togF 0 b = true := all6 (p := fun b => togF 0 b = true) (by decide) b hb
theorem strF_refl {a : Int} (ha : IsM a) : strF a a = true := all6 (p := fun a => strF a a = true) (by decide) a ha
theorem strF_trans {a b c : Int} (ha : IsM a) (hb : IsM b) (hc : IsM c) (h1 : strF a b = true) (h2 : strF b c = true) : strF a c = true :=
  all666 (p := fun a b c => strF a b = true → strF b c = true → strF a c = true) (by decide +kernel) a b c ha hb hc h1 h2
theorem strF_join {a b : Int} (ha : IsM a) (hb : IsM b) : strF (joinF a b) a = true ∧ strF (joinF a b) b = true := all66 (p := fun a b => strF (joinF a b) a = true ∧ strF (joinF a b) b = true) (by decide) a b ha hb
theorem strF_zero {a : Int} (ha : IsM a) : strF a 0 = true := all6 (p := fun a => strF a 0 = true) (by decide) a ha
theorem strF_tog {a b c : Int} (ha : IsM a) (hb : IsM b) (hc : IsM c) (h : strF a b = true) (ht : togF a c = true) : togF b c = true :=
  all666 (p := fun a b c => strF a b = true → togF a c = true → togF b c = true) (by decide +kernel) a b c ha hb hc h ht
theorem strF_join_of {a b : Int} (h : strF a b = true) : joinF a b = a := by simpa [strF] using h
theorem needF_isM (m : Int) : IsM (needF m) := by unfold needF IsM; split <;> (try split) <;> omega
theorem needF_zero : needF 0 = 0 := rfl
theorem needF_pos {m : Int} (h : IsM m) (h1 : 1 ≤ m) : 1 ≤ needF m := all6 (p := fun m => 1 ≤ m → 1 ≤ needF m) (by decide) m h h1
theorem needF_mono {a b : Int} (ha : IsM a) (hb : IsM b) : needF (joinF a b) = joinF (needF a) (needF b) := all66 (p := fun a b => needF (joinF a b) = joinF (needF a) (needF b)) (by decide) a b ha hb
theorem joinF_mono {a b c d : Int} (ha : IsM a) (hb : IsM b) (hc : IsM c) (hd : IsM d) (h1 : strF a c = true) (h2 : strF b d = true) : strF (joinF a b) (joinF c d) = true := by
  have hj := joinF_isM ha hb
  have k1 := strF_trans hj ha hc (strF_join ha hb).1 h1
  have k2 := strF_trans hj hb hd (strF_join ha hb).2 h2
  exact all666 (p := fun j c d => strF j c = true → strF j d = true → strF j (joinF c d) = true) (by decide +kernel) _ c d hj hc hd k1 k2
theorem needF_need {m : Int} (h : IsM m) : strF (needF m) (needF (needF m)) = true ∧ needF (needF m) = needF m := all6 (p := fun m => strF (needF m) (needF (needF m)) = true ∧ needF (needF m) = needF m) (by decide) m h
end Go.Proofs.Ytmnlelpfbnagpaa
