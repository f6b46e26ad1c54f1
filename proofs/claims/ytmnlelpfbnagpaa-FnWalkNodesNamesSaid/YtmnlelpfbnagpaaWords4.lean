/- Words: append as one step of a region that draws; what a law is told of its bytes. No program. -/
import Derived.Test.YtmnlelpfbnagpaaWords3
import Derived.Deep.RegionLaw
import Derived.OpenShut
namespace Go.Proofs.Ytmnlelpfbnagpaa
open Go.RowKit

theorem step_append_rd {α : Type} {P : Program} {cs : α → List Value} {sz : Nat} {t e : TypeId} {bytes : Nat} (E : ElemT P cs sz t e bytes) (w : World) {ops : Array Oper} {o : Oper} {a : Act} {K : Act → World → Prop} {Q : Exit → Act → World → Prop} {F : Prop} (hgd : o.guard = none) (s x : Operand)
    (ho : o.op = .call { callee := .builtin .append, args := #[s, x], argTypes := #[t, t] })
    {base : Nat} {v : Value} {l : List α} (hs : a.eval s = v) (hown : Own cs sz e w base v l)
    {lo : Nat} {A : Option Addr} {m c : Nat} {r : List α} (hx : a.eval x = .slice A m c) (hr : Rd cs sz w lo A m r) (hb : (l.length + m) * bytes ≤ 140737488355328) (hbase : base ≤ w.heap.size)
    (h : ∀ v' w', Own cs sz e w' base v' (l ++ r) → w.grownBy w' v.ownBlock → (v'.ownBlock = v.ownBlock ∨ v'.ownBlock = some w.heap.size) → K (a.put o.dst v') w') :
    if Region.wanted o (yielded ops a.tmps) = true then Oper.wp P o a w K Q else F := by
  have hw : Region.wanted o (yielded ops a.tmps) = true := by simp [Region.wanted, hgd]
  rw [if_pos hw]
  exact wp_append_rd E w s x ho hs hown hx hr hb hbase h

theorem wf_u8 {z : Int} (h : (Lit.int .u8 z).wf = true) : 0 ≤ z ∧ z ≤ 255 := by
  have := Go.bounds_u8 h
  omega

theorem bytes_rd {w : World} {a : Option Addr} {len cap : Nat} {zs : List Int}
    (h : (a = none ∧ len = 0 ∧ cap = 0 ∧ zs = []) ∨ ∃ x, a = some x ∧ len ≤ cap ∧ cap ≤ maxLen ∧ zs.length = cap ∧ (∀ i, i < zs.length → w.cell? (x.add i) = some (.int .u8 (zs.getD i 0))) ∧ ∀ n ∈ zs, (Lit.int .u8 n).wf = true)
    (hl : len ≤ 1000000000000000) : len ≤ cap ∧ Rd cB 1 w 0 a len (zs.take len) ∧ ∀ (k : Nat) (z : Int), (zs.take len)[k]? = some z → 0 ≤ z ∧ z ≤ 255 := by
  rcases h with ⟨rfl, rfl, rfl, rfl⟩ | ⟨x, rfl, hc, _, hz, hcell, hwf⟩
  · exact ⟨Nat.le_refl _, by simpa using Rd.nil, fun k z hk => by simp at hk⟩
  · refine ⟨hc, ⟨by simp; omega, hl, fun hn => ?_⟩, fun k z hk => ?_⟩
    · have h0 := hcell 0 (by omega)
      have hx0 : x.add 0 = x := by simp [Addr.add]
      rw [hx0] at h0
      have hb := World.block_lt_of_cell? w x h0
      obtain ⟨b, o, sp⟩ := x
      have hsp : sp = none := by
        cases sp with
        | none => rfl
        | some s =>
          unfold World.cell? at h0
          simp at h0
          split at h0 <;> simp at h0
      subst hsp
      refine ⟨b, o, rfl, Nat.zero_le _, hb, fun k y hy j u hu => ?_⟩
      rw [List.getElem?_take] at hy
      split at hy
      · match j, hu with
        | 0, hu =>
          simp only [cB, List.getElem?_cons_zero, Option.some.injEq] at hu
          subst hu
          have hk := (List.getElem?_eq_some_iff.1 hy).1
          have := hcell k hk
          rw [Addr.add_lit] at this
          rw [Nat.mul_one, Nat.add_zero, this, List.getD_eq_getElem?_getD, hy]; rfl
        | j + 1, hu => simp [cB] at hu
      · cases hy
    · rw [List.getElem?_take] at hk
      split at hk
      · exact wf_u8 (hwf z (List.mem_of_getElem? hk))
      · cases hk
end Go.Proofs.Ytmnlelpfbnagpaa
