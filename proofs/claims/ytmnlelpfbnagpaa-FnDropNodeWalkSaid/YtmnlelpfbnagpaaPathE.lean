/- The texts of nodes in a tree that lies in another one, in plain words. -/
import Derived.Test.YtmnlelpfbnagpaaPathB
import Derived.Test.YtmnlelpfbnagpaaAddNode
namespace Go.Proofs.Ytmnlelpfbnagpaa
open Go.RowKit

/-- Where each node of a kind of t lies in t2. -/
def Emb (t t2 : List Nd) (K : Nat → Prop) (f : Nat → Nat) : Prop :=
  f 0 = 0 ∧ ∀ (k : Nat) (x : Nd), K k → 0 < k → t[k]? = some x → K x.par.toNat ∧ 0 < f k ∧ ∃ x2, t2[f k]? = some x2 ∧ x2.par = (f x.par.toNat : Int) ∧ x2.name = x.name
theorem txL_emb {t t2 : List Nd} {K : Nat → Prop} {f : Nat → Nat} (h : VT t) (h2 : VT t2) (he : Emb t t2 K f) (k : Nat) (hK : K k) (hl : k < t.length) : txL t2 (f k : Int) = txL t (k : Int) := by
  rcases Nat.eq_zero_or_pos k with e | hk
  · subst e
    rw [he.1]
    show txL t2 0 = txL t 0
    rw [txL_top h, txL_top h2]
  · have hx : t[k]? = some t[k] := List.getElem?_eq_getElem hl
    obtain ⟨hp, hf, x2, hx2, hp2, hn⟩ := he.2 k _ hK hk hx
    have hpp := h.parp hx hk
    rw [txL_step h2 hx2 hf, txL_step h hx hk, hn, hp2, txL_emb h h2 he t[k].par.toNat hp (by omega), show ((t[k].par.toNat : Nat) : Int) = t[k].par by omega]
termination_by k
decreasing_by
  have hx : t[k]? = some t[k] := List.getElem?_eq_getElem hl
  have := h.parp hx hk
  omega
theorem ptF_emb {t t2 : List Nd} {K : Nat → Prop} {f : Nat → Nat} (h : VT t) (h2 : VT t2) (he : Emb t t2 K f) (k : Nat) (hK : K k) (hl : k < t.length) (hl2 : f k < t2.length) : ptF t2 (f k : Int) = ptF t (k : Int) := by
  rw [ptF_yes ⟨h, by omega, by omega⟩, ptF_yes ⟨h2, by omega, by omega⟩]
  unfold ptL
  rcases Nat.eq_zero_or_pos k with e | hk
  · subst e
    rw [he.1]
    rfl
  · have hx : t[k]? = some t[k] := List.getElem?_eq_getElem hl
    have hf := (he.2 k _ hK hk hx).2.1
    rw [if_neg (by omega), if_neg (by omega)]
    exact txL_emb h h2 he k hK hl
theorem rsF_ptF0 {t : List Nd} (h : VT t) {k : Nat} (hl : k < t.length) : rsF t (ptF t k) = k := by
  rw [ptF_yes ⟨h, by omega, by omega⟩]
  exact rsF_path h hl
theorem add_emb {t : List Nd} {x : Nd} (h : VT t) : Emb t (t ++ [x]) (fun k => k < t.length) id := by
  refine ⟨rfl, fun k y hk h0 hy => ?_⟩
  have hp := h.parp hy h0
  refine ⟨by omega, h0, y, by show (t ++ [x])[k]? = _; rw [List.getElem?_append_left hk]; exact hy, ?_, rfl⟩
  show y.par = ((y.par.toNat : Nat) : Int)
  omega
theorem add_path {t : List Nd} {x : Nd} (h : VT t) (h2 : VT (t ++ [x])) {k : Nat} (hk : k < t.length) : ptF (t ++ [x]) k = ptF t k :=
  ptF_emb h h2 (add_emb h) k hk hk (by rw [List.length_append]; show k < _; omega)
theorem add_new {t : List Nd} {x : Nd} (h : VT t) (h2 : VT (t ++ [x])) : rsF t (ptF (t ++ [x]) t.length) = -1 := by
  rcases rsF_cases h (ptF (t ++ [x]) t.length) with h1 | ⟨k, _, h3, h4, _⟩
  · exact h1.1
  · exfalso
    have e1 := add_path h h2 h3
    rw [ptF_yes (t := t) ⟨h, by omega, by omega⟩, h4] at e1
    have e2 := rsF_ptF0 h2 (k := k) (by rw [List.length_append]; omega)
    rw [e1, rsF_ptF0 h2 (k := t.length) (by simp)] at e2
    omega
end Go.Proofs.Ytmnlelpfbnagpaa
