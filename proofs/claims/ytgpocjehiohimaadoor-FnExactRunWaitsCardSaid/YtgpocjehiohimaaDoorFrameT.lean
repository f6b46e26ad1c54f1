/- What a row that lists the two tables gives: their cells; and that they read again. -/
import Derived.Test.YtgpocjehiohimaaDoorModeW
import Derived.ProofKit
import Derived.LaidMore
import Derived.OpenShut
import Derived.Stop.Joined
import Derived.WalkSmall
import Derived.Lib.LaidTab
namespace Go.Proofs.YtgpocjehiohimaaDoor
open Go.ChangeShapes Go.WideShapes Go.ChangeAt Go.RowKit

theorem gJ : Tryd.prog.globalNamed "loop.example/treelocks/impl.joined" = some 0 := by kernel_rfl
theorem gT : Tryd.prog.globalNamed "loop.example/treelocks/impl.together" = some 1 := by kernel_rfl
theorem tJ : (Tryd.prog.globals[0]?).map (·.type) = some 107 := by kernel_rfl
theorem tT : (Tryd.prog.globals[1]?).map (·.type) = some 109 := by kernel_rfl
theorem c36J : Tryd.prog.cellsOf 107 = 36 := by kernel_rfl
theorem c36T : Tryd.prog.cellsOf 109 = 36 := by kernel_rfl
theorem c6J : Tryd.prog.cellsOf 106 = 6 := by kernel_rfl
theorem c6T : Tryd.prog.cellsOf 108 = 6 := by kernel_rfl
theorem c1J : Tryd.prog.cellsOf 3 = 1 := by kernel_rfl
theorem c1T : Tryd.prog.cellsOf 4 = 1 := by kernel_rfl

def tabJ : List Value := [.int .i64 0, .int .i64 1, .int .i64 2, .int .i64 3, .int .i64 4, .int .i64 5, .int .i64 1, .int .i64 1, .int .i64 2, .int .i64 3, .int .i64 4, .int .i64 5, .int .i64 2, .int .i64 2, .int .i64 2, .int .i64 4, .int .i64 4, .int .i64 5,
  .int .i64 3, .int .i64 3, .int .i64 4, .int .i64 3, .int .i64 4, .int .i64 5, .int .i64 4, .int .i64 4, .int .i64 4, .int .i64 4, .int .i64 4, .int .i64 5, .int .i64 5, .int .i64 5, .int .i64 5, .int .i64 5, .int .i64 5, .int .i64 5]
def tabT : List Value := [.bool true, .bool true, .bool true, .bool true, .bool true, .bool true, .bool true, .bool true, .bool true, .bool true, .bool true, .bool false, .bool true, .bool true, .bool true, .bool false, .bool false, .bool false,
  .bool true, .bool true, .bool false, .bool true, .bool false, .bool false, .bool true, .bool true, .bool false, .bool false, .bool false, .bool false, .bool true, .bool false, .bool false, .bool false, .bool false, .bool false]
def cellsJ : Array Value := tabJ.toArray
def cellsT : Array Value := tabT.toArray

/-- An array of one-cell elements: each cell by its own reading. -/
theorem row_cells {H : Type} {enc : TypeId × Value → H} {P : Program} {w : World} {base : Nat} {sp : Nat → Bool} {held : Bool} {fuel : Nat} {t e : TypeId} {n : Nat} {cs : List Value} {ds : List (DataW H)} {p : List MemPlace} (vs : List Value)
    (ht : P.underlying t = some (.array n e)) (he : P.cellsOf e = 1) (hct : P.cellsOf t = n) (hl : vs.length = n)
    (hone : ∀ (i : Nat) (d : DataW H), ds[i]? = some d → ∀ (m : Nat) (c : Value) (q : List MemPlace), DataW.trod enc P w base sp held m e [c] = some (d, q) → vs[i]? = some c)
    (h : DataW.trod enc P w base sp held fuel t cs = some (.agg ds, p)) : cs = vs := by
  obtain ⟨xs, m, _, hx, hlen, hxl, hel⟩ := DataW.trod_array ht h
  simp only [Prod.mk.injEq, DataW.agg.injEq] at hx
  obtain ⟨hx, _⟩ := hx
  rw [hct] at hlen
  apply List.ext_getElem?
  intro i
  by_cases hi : i < n
  · have h1 := hel i hi
    rw [he, Nat.mul_one] at h1
    have hci : cs[i]? = some cs[i] := List.getElem?_eq_getElem (by omega)
    have h2 : (cs.drop i).take 1 = [cs[i]] := by rw [List.drop_eq_getElem_cons (by omega)]; rfl
    have hxi : xs[i]? = some xs[i] := List.getElem?_eq_getElem (by omega)
    rw [h2, hxi] at h1
    have hd : ds[i]? = some (xs[i]).1 := by rw [hx, List.getElem?_map, hxi]; rfl
    rw [hci]
    exact (hone i _ hd m cs[i] (xs[i]).2 h1).symm
  · rw [List.getElem?_eq_none (by omega), List.getElem?_eq_none (by omega)]
/-- An array of rows. -/
theorem rows_cells {H : Type} {enc : TypeId × Value → H} {P : Program} {w : World} {base : Nat} {sp : Nat → Bool} {held : Bool} {fuel : Nat} {t e : TypeId} {n k : Nat} {cs : List Value} {ds : List (DataW H)} {p : List MemPlace} (vs : List Value)
    (ht : P.underlying t = some (.array n e)) (he : P.cellsOf e = k) (hct : P.cellsOf t = n * k) (hl : vs.length = n * k) (hk : 0 < k)
    (hrow : ∀ (i : Nat) (d : DataW H), i < n → ds[i]? = some d → ∀ (m : Nat) (c : List Value) (q : List MemPlace), DataW.trod enc P w base sp held m e c = some (d, q) → c = (vs.drop (i * k)).take k)
    (h : DataW.trod enc P w base sp held fuel t cs = some (.agg ds, p)) : cs = vs := by
  obtain ⟨xs, m, _, hx, hlen, hxl, hel⟩ := DataW.trod_array ht h
  simp only [Prod.mk.injEq, DataW.agg.injEq] at hx
  obtain ⟨hx, _⟩ := hx
  rw [hct] at hlen
  apply List.ext_getElem?
  intro i
  by_cases hi : i < n * k
  · have hr : i / k < n := Nat.div_lt_of_lt_mul (by rw [Nat.mul_comm]; exact hi)
    have h1 := hel (i / k) hr
    have hxi : xs[i / k]? = some xs[i / k] := List.getElem?_eq_getElem (by omega)
    rw [he, hxi] at h1
    have hd : ds[i / k]? = some (xs[i / k]).1 := by rw [hx, List.getElem?_map, hxi]; rfl
    have h2 := hrow (i / k) _ hr hd m _ (xs[i / k]).2 h1
    have h3 := congrArg (fun l => l[i % k]?) h2
    simp only [List.getElem?_take, if_pos (Nat.mod_lt i hk), List.getElem?_drop, Nat.div_add_mod'] at h3
    exact h3
  · rw [List.getElem?_eq_none (by omega), List.getElem?_eq_none (by omega)]

theorem int_one {H : Type} {enc : TypeId × Value → H} {w : World} {base : Nat} {sp : Nat → Bool} {held : Bool} {m : Nat} {c : Value} {z : Int} {q : List MemPlace} (h : DataW.trod enc Tryd.prog w base sp held m 3 [c] = some (.lit (.int .i64 z), q)) : c = .int .i64 z := by
  obtain ⟨k, e1, e2, _⟩ := DataW.trod_int Tryd.underlying3 h
  simp only [List.cons.injEq, and_true] at e1
  simp only [Prod.mk.injEq, DataW.lit.injEq, Lit.int.injEq, true_and] at e2
  rw [e1, e2.1]
theorem bool_one {H : Type} {enc : TypeId × Value → H} {w : World} {base : Nat} {sp : Nat → Bool} {held : Bool} {m : Nat} {c : Value} {z : Bool} {q : List MemPlace} (h : DataW.trod enc Tryd.prog w base sp held m 4 [c] = some (.lit (.bool z), q)) : c = .bool z := by
  cases m with
  | zero => simp [DataW.trod] at h
  | succ m =>
    cases c <;> simp [DataW.trod, Tryd.underlying4] at h
    rw [h.1]

theorem cellsJ_of {H : Type} {enc : TypeId × Value → H} {W : World} {base : Nat} {sp : Nat → Bool} {held : Bool} {fuel : Nat} {cs : Array Value} {p : List MemPlace}
    (h : DataW.trod enc Tryd.prog W base sp held fuel 107 cs.toList = some (Rows.laid_loop_example_treelocks_impl_joined, p)) : cs = cellsJ := by
  have hl := rows_cells (n := 6) (k := 6) tabJ Tryd.underlying107 c6J c36J rfl (by omega) (fun i d hi hd m c q hc => by
    match i, hi with
    | 0, _ | 1, _ | 2, _ | 3, _ | 4, _ | 5, _ =>
      simp at hd
      subst hd
      refine row_cells _ Tryd.underlying106 c1J c6J rfl ?_ hc
      intro j d hj m c q hc
      match j, hj with
      | 0, hj | 1, hj | 2, hj | 3, hj | 4, hj | 5, hj =>
        simp at hj
        subst hj
        rw [int_one hc]; rfl
      | j + 6, hj => simp at hj) h
  show cs = tabJ.toArray
  rw [← hl]
theorem cellsT_of {H : Type} {enc : TypeId × Value → H} {W : World} {base : Nat} {sp : Nat → Bool} {held : Bool} {fuel : Nat} {cs : Array Value} {p : List MemPlace}
    (h : DataW.trod enc Tryd.prog W base sp held fuel 109 cs.toList = some (Rows.laid_loop_example_treelocks_impl_together, p)) : cs = cellsT := by
  have hl := rows_cells (n := 6) (k := 6) tabT Tryd.underlying109 c6T c36T rfl (by omega) (fun i d hi hd m c q hc => by
    match i, hi with
    | 0, _ | 1, _ | 2, _ | 3, _ | 4, _ | 5, _ =>
      simp at hd
      subst hd
      refine row_cells _ Tryd.underlying108 c1T c6T rfl ?_ hc
      intro j d hj m c q hc
      match j, hj with
      | 0, hj | 1, hj | 2, hj | 3, hj | 4, hj | 5, hj =>
        simp at hj
        subst hj
        rw [bool_one hc]; rfl
      | j + 6, hj => simp at hj) h
  show cs = tabT.toArray
  rw [← hl]

/-- The two variables' cells. -/
def Laid2 (W : World) : Prop := W.var? Tryd.prog "loop.example/treelocks/impl.together" = some cellsT ∧ W.var? Tryd.prog "loop.example/treelocks/impl.joined" = some cellsJ ∧ 2 ≤ W.heap.size

theorem tab_at (i j : Nat) (hi : i < 6) (hj : j < 6) : cellsJ[i * 6 + j]? = some (.int .i64 (joinF i j)) ∧ cellsT[i * 6 + j]? = some (.bool (togF i j)) := by
  have h : ∀ a b : Fin 6, cellsJ[a.val * 6 + b.val]? = some (.int .i64 (joinF (a.val : Int) (b.val : Int))) ∧ cellsT[a.val * 6 + b.val]? = some (.bool (togF (a.val : Int) (b.val : Int))) := by
    intro a b
    match a, b with
    | ⟨0, _⟩, ⟨0, _⟩ | ⟨0, _⟩, ⟨1, _⟩ | ⟨0, _⟩, ⟨2, _⟩ | ⟨0, _⟩, ⟨3, _⟩ | ⟨0, _⟩, ⟨4, _⟩ | ⟨0, _⟩, ⟨5, _⟩ => exact ⟨rfl, rfl⟩
    | ⟨1, _⟩, ⟨0, _⟩ | ⟨1, _⟩, ⟨1, _⟩ | ⟨1, _⟩, ⟨2, _⟩ | ⟨1, _⟩, ⟨3, _⟩ | ⟨1, _⟩, ⟨4, _⟩ | ⟨1, _⟩, ⟨5, _⟩ => exact ⟨rfl, rfl⟩
    | ⟨2, _⟩, ⟨0, _⟩ | ⟨2, _⟩, ⟨1, _⟩ | ⟨2, _⟩, ⟨2, _⟩ | ⟨2, _⟩, ⟨3, _⟩ | ⟨2, _⟩, ⟨4, _⟩ | ⟨2, _⟩, ⟨5, _⟩ => exact ⟨rfl, rfl⟩
    | ⟨3, _⟩, ⟨0, _⟩ | ⟨3, _⟩, ⟨1, _⟩ | ⟨3, _⟩, ⟨2, _⟩ | ⟨3, _⟩, ⟨3, _⟩ | ⟨3, _⟩, ⟨4, _⟩ | ⟨3, _⟩, ⟨5, _⟩ => exact ⟨rfl, rfl⟩
    | ⟨4, _⟩, ⟨0, _⟩ | ⟨4, _⟩, ⟨1, _⟩ | ⟨4, _⟩, ⟨2, _⟩ | ⟨4, _⟩, ⟨3, _⟩ | ⟨4, _⟩, ⟨4, _⟩ | ⟨4, _⟩, ⟨5, _⟩ => exact ⟨rfl, rfl⟩
    | ⟨5, _⟩, ⟨0, _⟩ | ⟨5, _⟩, ⟨1, _⟩ | ⟨5, _⟩, ⟨2, _⟩ | ⟨5, _⟩, ⟨3, _⟩ | ⟨5, _⟩, ⟨4, _⟩ | ⟨5, _⟩, ⟨5, _⟩ => exact ⟨rfl, rfl⟩
  exact h ⟨i, hi⟩ ⟨j, hj⟩
theorem Laid2.tb {W : World} (h : Laid2 W) : Tb W := ⟨h.2.2, fun i j hi hj => by
  obtain ⟨h1, h2⟩ := tab_at i j hi hj
  exact ⟨(World.var?_cell gJ h.2.1 (i * 6 + j)).trans h1, (World.var?_cell gT h.1 (i * 6 + j)).trans h2⟩⟩

/-- The list that the rows bear. -/
def laidL : List (String × DataW Unit) := [("loop.example/treelocks/impl.together", Rows.laid_loop_example_treelocks_impl_together), ("loop.example/treelocks/impl.joined", Rows.laid_loop_example_treelocks_impl_joined)]

theorem laid2_of {W : World} (h : laidMetH Tryd.prog laidL W) : Laid2 W := by
  rw [MakeChecks.laidMetH_plain _ _ _ (by kernel_rfl)] at h
  obtain ⟨ps, ⟨g0, t0, cs0, f0, p0, q0, hg0, ht0, hv0, hd0, ⟨g1, t1, cs1, f1, p1, q1, hg1, ht1, hv1, hd1, _, _⟩, _⟩, _, _⟩ := h
  obtain rfl := Option.some.inj (gT.symm.trans hg0)
  obtain rfl := Option.some.inj (gJ.symm.trans hg1)
  obtain rfl := Option.some.inj (tT.symm.trans ht0)
  obtain rfl := Option.some.inj (tJ.symm.trans ht1)
  obtain rfl := cellsT_of hd0
  obtain rfl := cellsJ_of hd1
  refine ⟨hv0, hv1, ?_⟩
  have c0 : W.cell? ⟨1, 0, none⟩ = some (.bool true) := (World.var?_cell gT hv0 0)
  have := World.block_lt_of_cell? _ _ c0
  have c1 : W.cell? ⟨0, 0, none⟩ = some (.int .i64 0) := (World.var?_cell gJ hv1 0)
  have := World.block_lt_of_cell? _ _ c1
  simp only at *
  omega
theorem Laid2.below {W W' : World} (h : Laid2 W) (hb : Below W.heap.size W W') : Laid2 W' :=
  ⟨var?_below hb gT (by have := h.2.2; omega) h.1, var?_below hb gJ (by have := h.2.2; omega) h.2.1, Nat.le_trans h.2.2 hb.size⟩

theorem readsT {H : Type} (enc : TypeId × Value → H) (W : World) (sp : Nat → Bool) : DataW.trod enc Tryd.prog W 0 sp true 4 109 cellsT.toList = some (Rows.laid_loop_example_treelocks_impl_together, []) := by kernel_rfl
theorem readsJ {H : Type} (enc : TypeId × Value → H) (W : World) (sp : Nat → Bool) : DataW.trod enc Tryd.prog W 0 sp true 4 107 cellsJ.toList = some (Rows.laid_loop_example_treelocks_impl_joined, []) := by kernel_rfl
theorem Laid2.vars {H : Type} (enc : TypeId × Value → H) {W : World} (h : Laid2 W) (sp : Nat → Bool) : DataW.TrodVars enc Tryd.prog W sp ["loop.example/treelocks/impl.together", "loop.example/treelocks/impl.joined"] [Rows.laid_loop_example_treelocks_impl_together, Rows.laid_loop_example_treelocks_impl_joined]
    (MemPlace.row ⟨1, 0, none⟩ cellsT.size ++ [] ++ (MemPlace.row ⟨0, 0, none⟩ cellsJ.size ++ [] ++ [])) :=
  ⟨1, 109, cellsT, 4, [], _, gT, tT, h.1, readsT enc W sp, ⟨0, 107, cellsJ, 4, [], [], gJ, tJ, h.2.1, readsJ enc W sp, rfl, rfl⟩, rfl⟩
/-- What the variables' data are. -/
theorem Laid2.data {H : Type} {enc : TypeId × Value → H} {W : World} (h : Laid2 W) {sp : Nat → Bool} {gs : List (DataW H)} {q : List MemPlace} (hV : DataW.TrodVars enc Tryd.prog W sp ["loop.example/treelocks/impl.together", "loop.example/treelocks/impl.joined"] gs q) :
    gs = [Rows.laid_loop_example_treelocks_impl_together, Rows.laid_loop_example_treelocks_impl_joined] :=
  (DataW.TrodVars.unique hV (h.vars enc sp)).1

theorem ownT : ownKnob Tryd.prog.godebug = none := by kernel_rfl
theorem laidOutT : laidOutB Tryd.prog = true := by kernel_rfl
theorem mapsT : mapsRowed Tryd.prog = true := by kernel_rfl
end Go.Proofs.YtgpocjehiohimaaDoor
