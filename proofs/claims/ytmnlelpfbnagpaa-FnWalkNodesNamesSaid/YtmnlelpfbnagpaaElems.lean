/- The element types of this seat, as facts. -/
import Derived.Test.YtmnlelpfbnagpaaTreeV3
import Derived.Test.YtmnlelpfbnagpaaWords2
namespace Go.Proofs.Ytmnlelpfbnagpaa
open Go.RowKit

theorem mkElem {α : Type} {P : Program} {cs : α → List Value} {sz t e bytes : Nat} {z : Value} (h1 : P.underlying t = some (.slice e)) (h2 : (P.info? e).map (fun i => (i.zero, i.size, i.bytes)) = some (some z, sz, bytes))
    (h3 : z.cells.size = sz) (h4 : 0 < sz) (h5 : 0 < bytes) (h6 : ∀ x : α, (cs x).length = sz) (h7 : ∀ x : α, ∀ u ∈ cs x, u.oneCell' = true) : ElemT P cs sz t e bytes := by
  obtain ⟨i, hi, hz, hs, hb⟩ := info_parts h2
  exact ⟨h1, ⟨i, z, hi, hz, hs, hb, h3⟩, h4, h5, h6, h7⟩
theorem one_N (x : Nd) : ∀ u ∈ cN x, u.oneCell' = true := by intro u hu; simp only [cN, List.mem_cons, List.not_mem_nil, or_false] at hu; rcases hu with h | h | h <;> subst h <;> rfl
theorem one_L (x : Lk) : ∀ u ∈ cL x, u.oneCell' = true := by intro u hu; simp only [cL, List.mem_cons, List.not_mem_nil, or_false] at hu; rcases hu with h | h | h <;> subst h <;> rfl
theorem one_A (x : Ac) : ∀ u ∈ cA x, u.oneCell' = true := by intro u hu; simp only [cA, List.mem_cons, List.not_mem_nil, or_false] at hu; rcases hu with h | h | h <;> subst h <;> rfl
theorem one_W (x : Wt) : ∀ u ∈ cW x, u.oneCell' = true := by intro u hu; simp only [cW, List.mem_cons, List.not_mem_nil, or_false] at hu; rcases hu with h | h <;> subst h <;> rfl
theorem one_D (x : Dd) : ∀ u ∈ cD x, u.oneCell' = true := by intro u hu; simp only [cD, List.mem_cons, List.not_mem_nil, or_false] at hu; rcases hu with h | h <;> subst h <;> rfl
theorem one_S (x : St) : ∀ u ∈ cS x, u.oneCell' = true := by intro u hu; simp only [cS, List.mem_cons, List.not_mem_nil, or_false] at hu; rcases hu with h | h | h | h <;> subst h <;> rfl
theorem one_R (x : Rc) : ∀ u ∈ cR x, u.oneCell' = true := by intro u hu; simp only [cR, List.mem_cons, List.not_mem_nil, or_false] at hu; rcases hu with h | h | h | h <;> subst h <;> rfl
theorem one_I (x : Int) : ∀ u ∈ cI x, u.oneCell' = true := by intro u hu; simp only [cI, List.mem_cons, List.not_mem_nil, or_false] at hu; subst hu; rfl

theorem elN : ElemT Try.prog cN 3 23 44 32 := mkElem (z := .agg #[.int .i64 0, .string ⟨#[]⟩, .int .i64 0]) Try.underlying23 (by kernel_rfl) rfl (by omega) (by omega) (fun _ => rfl) one_N
theorem elI : ElemT Try.prog cI 1 39 3 8 := mkElem (z := .int .i64 0) Try.underlying39 (by kernel_rfl) rfl (by omega) (by omega) (fun _ => rfl) one_I
end Go.Proofs.Ytmnlelpfbnagpaa
