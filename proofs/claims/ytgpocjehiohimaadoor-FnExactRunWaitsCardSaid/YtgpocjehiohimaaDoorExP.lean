/- Sizes and copies of what an exact law is handed, in plain words. -/
import Derived.Test.YtgpocjehiohimaaDoorTreeP
import Derived.Test.YtgpocjehiohimaaDoorWords3
namespace Go.Proofs.YtgpocjehiohimaaDoor
open Go.RowKit

/-- What is left of a size behind the names of a tree; -1 where nothing is left. -/
def szF : List Nd → Int → Int
  | [], left => left
  | x :: r, left => if left - (x.name.size : Int) < 0 then -1 else szF r (left - (x.name.size : Int))
theorem szF_le : ∀ (l : List Nd) (left : Int), 0 ≤ szF l left → szF l left ≤ left ∧ ∀ x ∈ l, (x.name.size : Int) ≤ left
  | [], left, _ => ⟨Int.le_refl _, fun x hx => by cases hx⟩
  | y :: r, left, h => by
    rw [szF] at h ⊢
    by_cases e : left - (y.name.size : Int) < 0
    · rw [if_pos e] at h; omega
    · rw [if_neg e] at h ⊢
      obtain ⟨h1, h2⟩ := szF_le r _ h
      refine ⟨by omega, fun x hx => ?_⟩
      rcases List.mem_cons.1 hx with rfl | hx
      · omega
      · have := h2 x hx; omega
theorem szF_neg : ∀ (l : List Nd) (left : Int), 0 ≤ left → -1 ≤ szF l left
  | [], left, h => by rw [szF]; omega
  | y :: r, left, h => by
    rw [szF]
    by_cases e : left - (y.name.size : Int) < 0
    · rw [if_pos e]; omega
    · rw [if_neg e]; exact szF_neg r _ (by omega)
theorem szF_step {l : List Nd} {k : Nat} {x : Nd} (hx : l[k]? = some x) (left : Int) : szF (l.drop k) left = if left - (x.name.size : Int) < 0 then -1 else szF (l.drop (k + 1)) (left - (x.name.size : Int)) := by
  rw [drop_cons hx, szF]
/-- Names that a machine bears. -/
def NmM (t : List Nd) : Prop := ∀ x ∈ t, x.name.size ≤ 9223372036854775807

/-- A list that is copied from the front: what is copied, and what is still empty. -/
def fillF {α : Type} (z : α) (l : List α) (k : Nat) : List α := l.take k ++ List.replicate (l.length - k) z
theorem fillF_zero {α : Type} (z : α) (l : List α) : fillF z l 0 = List.replicate l.length z := by unfold fillF; simp
theorem fillF_all {α : Type} (z : α) (l : List α) : fillF z l l.length = l := by unfold fillF; simp
theorem fillF_len {α : Type} (z : α) (l : List α) {k : Nat} (hk : k ≤ l.length) : (fillF z l k).length = l.length := by unfold fillF; simp; omega
theorem fillF_at {α : Type} (z : α) (l : List α) {k : Nat} (hk : k < l.length) : (fillF z l k)[k]? = some z := by
  unfold fillF
  rw [List.getElem?_append_right (by simp; omega), List.length_take, Nat.min_eq_left (by omega), Nat.sub_self, List.getElem?_replicate, if_pos (by omega)]
theorem fillF_set {α : Type} (z : α) {l : List α} {k : Nat} {x : α} (hx : l[k]? = some x) : (fillF z l k).set k x = fillF z l (k + 1) := by
  have hk := (List.getElem?_eq_some_iff.1 hx).1
  unfold fillF
  rw [List.set_append_right _ _ (by simp; omega), List.length_take, Nat.min_eq_left (by omega), Nat.sub_self, take_snoc hx, show l.length - k = (l.length - (k + 1)) + 1 by omega, List.replicate_succ, List.set_cons_zero]
  simp

/-- Cells that are made are those of as many empty elements. -/
theorem made_flat {α : Type} {cs : α → List Value} {z : Array Value} {sz : Nat} {x0 : α} (hz : z.toList = cs x0) (hlen : ∀ x, (cs x).length = sz) (hs : 0 < sz) (n : Nat) : (madeCells z (n * sz)).toList = (List.replicate n x0).flatMap cs := by
  have hzs : z.size = sz := by rw [← Array.length_toList, hz, hlen]
  refine List.ext_getElem? fun i => ?_
  by_cases hi : i < n * sz
  · have hm : i % sz < sz := Nat.mod_lt _ hs
    have hk : i / sz < n := Nat.div_lt_of_lt_mul (by rw [Nat.mul_comm]; exact hi)
    have hu : (cs x0)[i % sz]? = some ((cs x0)[i % sz]'(by rw [hlen]; exact hm)) := List.getElem?_eq_getElem _
    have hf := flat_get hlen (List.replicate n x0) (i / sz) x0 (i % sz) _ (by rw [List.getElem?_replicate, if_pos hk]) hu
    rw [Nat.div_add_mod'] at hf
    rw [hf, ← hu, ← hz]
    unfold madeCells
    have hm2 : i % z.size < z.size := by rw [hzs]; exact hm
    simp [hi, hzs]
    rw [getElem!_pos z (i % sz) (by rw [hzs]; exact hm), Array.getElem?_eq_getElem]
  · rw [List.getElem?_eq_none (by rw [Array.length_toList, size_madeCells]; omega), List.getElem?_eq_none (by rw [flat_len hlen]; simp; omega)]
theorem Own.made {α : Type} {cs : α → List Value} {z : Array Value} {sz : Nat} {x0 : α} {e : TypeId} (hz : z.toList = cs x0) (hlen : ∀ x, (cs x).length = sz) (hs : 0 < sz) (n : Nat) (hn : n ≤ 1000000000000000) (W : World) :
    Own cs sz e (W.alloc (.cells (madeCells z (n * sz)) e)) W.heap.size (.slice (some ⟨W.heap.size, 0, none⟩) n n) (List.replicate n x0) := by
  have := Own.lit (cs := cs) (sz := sz) (e := e) W (madeCells z (n * sz)) (List.replicate n x0) (by rw [List.length_replicate]; exact hn) hlen (made_flat hz hlen hs n)
  rw [List.length_replicate] at this
  exact this
/-- Cells that are made, where the zero of an element is known. -/
theorem make_at {P : Program} {t e : TypeId} {z : Value} {sz bytes : Nat} (h1 : P.underlying t = some (.slice e)) (h2 : (P.info? e).map (fun i => (i.zero, i.size, i.bytes)) = some (some z, sz, bytes)) (hb : bytes ≤ 100) (n : Nat) (hn : n ≤ 1048576) (W : World) :
    (Instr.makeSlice t (.int .i64 (n : Int)) (.int .i64 (n : Int))).run P W = .ok (.slice (some ⟨W.heap.size, 0, none⟩) n n) (W.alloc (.cells (madeCells z.cells (n * sz)) e)) := by
  obtain ⟨i0, hi, hz0, hz1, hz2⟩ := info_parts h2
  have h := run_make_rowN (P := P) t e i0 _ h1 hi hz0 .i64 .i64 n n (Nat.le_refl _) (by rw [hz2]; calc bytes * n ≤ 100 * 1048576 := Nat.mul_le_mul hb hn
      _ ≤ _ := by omega) (by omega) W
  rw [hz1] at h
  exact h
end Go.Proofs.YtgpocjehiohimaaDoor
