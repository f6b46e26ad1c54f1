/- The walk over someSteps. -/
import Derived.Test.YtcefgabdffipgaaDoorDrawC
import Derived.Test.YtcefgabdffipgaaDoorStepS
import Derived.Deep.DeepCutAuto
import Derived.Deep.RegionHeld3
namespace Go.Proofs.YtcefgabdffipgaaDoor
open Go.RowKit

theorem elS : ElemT Tryd.prog cS 4 24 32 32 := mkElem (z := .agg #[.int .i64 0, .bool false, .int .i64 0, .int .i64 0]) Tryd.underlying24 (by kernel_rfl) rfl (by omega) (by omega) (fun _ => rfl) one_S
theorem step_append_rdw {α : Type} {P : Program} {cs : α → List Value} {sz : Nat} {t e : TypeId} {bytes : Nat} (E : ElemT P cs sz t e bytes) (w : World) {ops : Array Oper} {o : Oper} {a : Act} {K : Act → World → Prop} {Q : Exit → Act → World → Prop} {F : Prop} (hw : Region.wanted o (yielded ops a.tmps) = true) (s x : Operand)
    (ho : o.op = .call { callee := .builtin .append, args := #[s, x], argTypes := #[t, t] })
    {base : Nat} {v : Value} {l : List α} (hs : a.eval s = v) (hown : Own cs sz e w base v l)
    {lo : Nat} {A : Option Addr} {m c : Nat} {r : List α} (hx : a.eval x = .slice A m c) (hr : Rd cs sz w lo A m r) (hb : (l.length + m) * bytes ≤ 140737488355328) (hbase : base ≤ w.heap.size)
    (h : ∀ v' w', Own cs sz e w' base v' (l ++ r) → w.grownBy w' v.ownBlock → (v'.ownBlock = v.ownBlock ∨ v'.ownBlock = some w.heap.size) → K (a.put o.dst v') w') :
    if Region.wanted o (yielded ops a.tmps) = true then Oper.wp P o a w K Q else F := by
  rw [if_pos hw]
  exact wp_append_rd E w s x ho hs hown hx hr hb hbase h

theorem validSteps_ex (lo : Nat) (A : Option Addr) (n c : Nat) (list : List St) (w : World) (hr : Rd cS 4 w lo A n list) (hn : n ≤ 1000000) :
    Calls Tryd.prog 16 #[.slice A n c] w fun e w' => ∃ b : Bool, e = .returned (.bool b) ∧ Below w.heap.size w w' :=
  (validSteps_any lo A n c list w hr hn).mono fun _ _ h => ⟨_, h.1, h.2⟩
def StepsD (w : World) (R p q : Nat) (e : Ending) (w' : World) : Prop := ∃ (v : Value) (l : List St), e = .returned v ∧ Own cS 4 32 w' w.heap.size v l ∧ l.length ≤ 17 ∧ Adv w R p q w'

set_option maxRecDepth 100000 in
set_option maxHeartbeats 3200000 in
theorem someSteps_any (R p : Nat) (w : World) (hr : Rdr w R p) (hp : p ≤ 700000000) :
    Calls Tryd.prog 29 #[.pointer (some ⟨R, 0, none⟩)] w (StepsD w R p 120) := by
  have hRl := hr.lt
  go_enter Tryd.func29, Tryd.ntmps29
  go_wp2_with fail
  refine (pick_any R p 2 _ (hr.alloc _) (by omega) (by omega)).mono ?_
  rintro e w1 ⟨z1, rfl, _, _, _, hr1, hg1⟩
  have hwr : ∃ wb : Bool, (z1 == 0) = wb := ⟨_, rfl⟩
  obtain ⟨wb, hwb⟩ := hwr
  have hs1 := hg1.size
  go_wp2_with fail
  refine (one_any R (p + 1) _ _ 7 7 [8, 12, 5, 16, 3, 0, 24] _ (hr1.alloc _) (by omega) (Rd_newIg w1 _ _ _ _ (by simp) (by simp) rfl) (by simp at hs1; omega) (by omega)).mono ?_
  rintro e w2 ⟨z, rfl, ⟨kz, hkz⟩, hr2, hg2⟩
  have hz : 0 ≤ z ∧ z ≤ 24 := by
    have hm := List.mem_of_getElem? hkz
    simp only [List.mem_cons, List.not_mem_nil, or_false] at hm
    omega
  obtain ⟨z0, z24⟩ := hz
  clear hkz
  have hs2 := hg2.size
  go_wp2_with fail
  go_loopw [3, 5] (fun v n wr => ∃ (l : List St) (y : Int) (q : Nat), n = .int .i64 y ∧ 0 ≤ y ∧ y ≤ 24 ∧ Own cS 4 32 wr w.heap.size v l ∧ l.length ≤ 16 ∧
      (q : Int) + 4 * y ≤ p + 100 ∧ Rdr wr R q ∧ w.grownBy wr (some R)) (fun _ n _ => (intOf n).toNat)
  case atStart =>
    refine ⟨[], z, p + 2, rfl, z0, z24, ?_, by simp, by omega, hr2, ?_⟩
    · exact (((Own.empty (cs := cS) (sz := 4) w elS.len).grown hg1 hRl).alloc _).grown hg2 hRl
    · exact grown_trans (grown_alloc (grown_trans (grown_of_below ((Below.refl _ _).alloc (Nat.le_refl _) _)) hg1) _) hg2
  case round =>
    rename World => W1
    obtain ⟨l, y, q, rfl, y0, y24, ho, hl16, hq, hrr, hgg⟩ := hrel
    have hsr := hgg.size
    obtain ⟨A0, m0, c0, rfl, hc0, _⟩ := id (ho.rdn elS.len (by omega))
    obtain rfl : m0 = l.length := (ho.rds elS.len (by omega)).2.len.symm
    by_cases hy : 0 < y
    case neg =>
      have hy' : y ≤ 0 := by omega
      go_wp2_with fail
      refine (pick_any R q 20 _ hrr (by omega) (by omega)).mono ?_
      rintro e w3 ⟨z3, rfl, _, _, _, hr3, hg3⟩
      have ho3 := ho.grown hg3 hRl
      have hG3 := grown_trans hgg hg3
      have hs3 := hG3.size
      clear ho hgg hg3 hrr
      by_cases hz3 : z3 = 0
      case neg =>
        have hz3' : (z3 == 0) = false := by simpa using hz3
        clear hz3
        go_wp2_with fail
        go_ret
        exact ⟨_, l, rfl, ho3, by omega, ⟨q + 1, by omega, hr3⟩, hG3⟩
      subst hz3
      go_wp2_with fail
      refine (pick_any R (q + 1) 5 _ hr3 (by omega) (by omega)).mono ?_
      rintro e w4 ⟨x1, rfl, _, _, _, hr4, hg4⟩
      go_wp2_with fail
      refine (pick_any R (q + 2) 2 _ hr4 (by omega) (by omega)).mono ?_
      rintro e w5 ⟨x2, rfl, _, _, _, hr5, hg5⟩
      go_wp2_with fail
      refine (pick_any R (q + 3) 13 _ hr5 (by omega) (by omega)).mono ?_
      rintro e w6 ⟨x3, rfl, _, _, _, hr6, hg6⟩
      go_wp2_with fail
      refine (pick_any R (q + 4) 7 _ hr6 (by omega) (by omega)).mono ?_
      rintro e w7 ⟨x4, rfl, _, _, _, hr7, hg7⟩
      have ho7 := (((ho3.grown hg4 hRl).grown hg5 hRl).grown hg6 hRl).grown hg7 hRl
      have hG7 := grown_trans hG3 (grown_trans hg4 (grown_trans hg5 (grown_trans hg6 hg7)))
      have hs7 := hG7.size
      clear ho3 hG3 hg4 hg5 hg6 hg7 hr3 hr4 hr5 hr6
      go_wp2_with (at_builtin; refine wpList_append_rd elS _ rfl (.tmp 52) (.tmp 63) rfl rfl (ho7.alloc _) rfl (Rd_one w7 #[.int .i64 x1, .bool (x2 == 0), .int .i64 x3, .int .i64 x4] 32 ⟨x1, x2 == 0, x3, x4⟩ rfl) (by omega) (by simp; omega) ?_; intro v11 w11 ho11 hg11 _)
      go_ret
      exact ⟨_, _, rfl, ho11, by simp; omega, ⟨q + 5, by omega, (hr7.alloc _).own (ho7.alloc (.cells #[.int .i64 x1, .bool (x2 == 0), .int .i64 x3, .int .i64 x4] 32)) hg11 hRl⟩, grown_own (grown_alloc hG7 _) (ho7.alloc (.cells #[.int .i64 x1, .bool (x2 == 0), .int .i64 x3, .int .i64 x4] 32)) hg11 (Nat.le_refl _)⟩
    go_wp2_with fail
    refine (pick_any R q 3 _ hrr (by omega) (by omega)).mono ?_
    rintro e w3 ⟨a, rfl, _, _, _, hr3, hg3⟩
    go_wp2_with fail
    refine (pick_any R (q + 1) 5 _ hr3 (by omega) (by omega)).mono ?_
    rintro e w4 ⟨b, rfl, _, _, _, hr4, hg4⟩
    go_wp2_with fail
    refine (pick_any R (q + 2) 5 _ hr4 (by omega) (by omega)).mono ?_
    rintro e w5 ⟨d, rfl, d0, _, d2, hr5, hg5⟩
    have hd5 := d2 (by omega)
    have hG5 := grown_trans hgg (grown_trans hg3 (grown_trans hg4 hg5))
    have ho5 := ((ho.grown hg3 hRl).grown hg4 hRl).grown hg5 hRl
    have hs5 := hG5.size
    have hw1 : IntKind.i64.wrap (1 + d) = 1 + d := IntWalk.i64_in _ (by omega)
    have HBK := Lib.hid ho5.blk
    have hRB : R < w5.heap.size := by omega
    clear ho d2 hr3 hr4 hg3 hg4 hg5 hrr hgg
    cases wb
    case false =>
      have hrA := hr5.alloc (.cells #[.int .i64 a, .bool false, .int .i64 b, .int .i64 (1 + d)] 32)
      have hoA := ho5.alloc (.cells #[.int .i64 a, .bool false, .int .i64 b, .int .i64 (1 + d)] 32)
      have hGA := grown_alloc hG5 (.cells #[.int .i64 a, .bool false, .int .i64 b, .int .i64 (1 + d)] 32)
      have hBA := heap_alloc_new w5 (.cells #[.int .i64 a, .bool false, .int .i64 b, .int .i64 (1 + d)] 32)
      go_wp2_with fail
      refine (pick_any R (q + 3) 3 _ hrA (by omega) (by omega)).mono ?_
      rintro e w6 ⟨z6, rfl, _, _, _, hr6, hg6⟩
      have hB6 := (hg6.block w5.heap.size (by simp) (by intro e; injection e with e; omega)).trans hBA
      have ho6 := hoA.grown hg6 hRl
      have hG6 := grown_trans hGA hg6
      have hs6 : w5.heap.size < w6.heap.size := by have := hg6.size; simp at this; omega
      clear hrA hoA hGA hBA hg6
      by_cases hz6 : z6 = 0
      case neg =>
        have hz6' : (z6 == 0) = false := by simpa using hz6
        have hB7 := hB6
        have ho7 := ho6
        have hG7 := hG6
        have hr7 := hr6
        clear hz6 hB6 ho6 hG6 hr6
        have c0 : w6.cell? ⟨w5.heap.size, 0, none⟩ = some (.int .i64 a) := blk_cell hB7 (i := 0) rfl
        have c1 : w6.cell? ⟨w5.heap.size, 1, none⟩ = some (.bool false) := blk_cell hB7 (i := 1) rfl
        have c2 : w6.cell? ⟨w5.heap.size, 2, none⟩ = some (.int .i64 b) := blk_cell hB7 (i := 2) rfl
        have c3 : w6.cell? ⟨w5.heap.size, 3, none⟩ = some (.int .i64 (1 + d)) := blk_cell hB7 (i := 3) rfl
        have HBB := Lib.hid (blk_lt hB7)
        by_cases hl : l.length < 16
        case neg =>
          have hl' : ¬ ((l.length : Int) < 16) := by omega
          clear hB7
          go_wp2_with fail
          have hl2 : ((l.length : Int) < 16) = False := by simp; omega
          go_region
          all_goals (
            go_wp2_with fail
            go_roundw
            case rel => exact ⟨l, y - 1, q + 4, by go_num, by omega, by omega, ho7.drew, hl16, by omega, hr7, grown_below hG7 (Below.refl _ _).drew⟩
            case measure => simp [intOf]; omega)
        have hl' : (l.length : Int) < 16 := by omega
        have hrd7 := (ho7.rds elS.len (by omega)).2
        have hoE : Own cS 4 32 (w6.alloc (.cells #[] 32)).drew w6.heap.size (.slice (some ⟨w6.heap.size, 0, none⟩) 0 0) ([] : List St) := (Own.empty w6 elS.len).drew
        have hrdA := (hrd7.alloc (.cells #[] 32)).drew
        have h2B := two_B (cs := cS) (sz := 4) (e := 32) w6 #[.int .i64 a, .bool false, .int .i64 b, .int .i64 (1 + d)] ⟨a, false, b, (1 + d)⟩ elS.len rfl
        have h2C := two_C (cs := cS) (sz := 4) (e := 32) w6 #[.int .i64 a, .bool false, .int .i64 b, .int .i64 (1 + d)] ⟨a, false, b, (1 + d)⟩ elS.len rfl
        have hrdB := ((hrd7.alloc (.cells #[] 32)).alloc (.cells #[.int .i64 a, .bool false, .int .i64 b, .int .i64 (1 + d)] 32)).drew
        have hrdC := ((hrd7.alloc (.cells #[.int .i64 a, .bool false, .int .i64 b, .int .i64 (1 + d)] 32)).alloc (.cells #[] 32)).drew
        clear hB7
        go_wp2_with fail
        go_region_held3 (fun w' => w'.cell? ⟨w5.heap.size, 0, none⟩ = some (.int .i64 a) ∧ w'.cell? ⟨w5.heap.size, 1, none⟩ = some (.bool false) ∧ w'.cell? ⟨w5.heap.size, 2, none⟩ = some (.int .i64 b) ∧ w'.cell? ⟨w5.heap.size, 3, none⟩ = some (.int .i64 (1 + d)))
          (first | go_keep | exact ⟨(hb8.cell HBB.out).trans c0, (hb8.cell HBB.out).trans c1, (hb8.cell HBB.out).trans c2, (hb8.cell HBB.out).trans c3⟩ | exact ⟨(hb9.cell HBB.out).trans c0, (hb9.cell HBB.out).trans c1, (hb9.cell HBB.out).trans c2, (hb9.cell HBB.out).trans c3⟩ | exact ⟨((hb9.trans (hb10.mono hb9.size)).cell HBB.out).trans c0, ((hb9.trans (hb10.mono hb9.size)).cell HBB.out).trans c1, ((hb9.trans (hb10.mono hb9.size)).cell HBB.out).trans c2, ((hb9.trans (hb10.mono hb9.size)).cell HBB.out).trans c3⟩)
          ((first
            | (refine step_append_rdw elS _ rfl (.tmp 37) (.tmp 38) rfl rfl hoE rfl hrdA (by simp; omega) (by simp) ?_; intro v8 w8 ho8 hg8 _; have hb8 := below_own (((Below.refl w6.heap.size w6).alloc (Nat.le_refl _) _).drew) hoE hg8 (Nat.le_refl _) (by simp))
            | (refine step_append_rdw elS _ rfl (.tmp 37) (.tmp 38) rfl rfl h2B.1 rfl hrdB (by simp; omega) (by simp; omega) ?_; intro v8 w8 ho8 hg8 _; have hb8 := below_own (((Below.refl w6.heap.size w6).alloc (Nat.le_refl _) _).alloc (by simp) _).drew h2B.1 hg8 (Nat.le_refl _) (by simp; omega); have hx8 := h2B.2.ne (row := some w6.heap.size) hg8 (by simp))
            | (refine step_append_rdw elS _ rfl (.tmp 37) (.tmp 38) rfl rfl h2C.1 rfl hrdC (by simp; omega) (by simp; omega) ?_; intro v8 w8 ho8 hg8 _; have hb8 := below_own (((Below.refl w6.heap.size w6).alloc (Nat.le_refl _) _).alloc (by simp) _).drew h2C.1 hg8 (Nat.le_refl _) (by simp; omega); have hx8 := h2C.2.ne (row := some (w6.heap.size + 1)) hg8 (by simp))
            | (refine step_append_rdw elS _ rfl (.tmp 39) (.tmp 41) rfl rfl ho8 rfl hx8 (by simp only [List.nil_append]; omega) (by have := hb8.size; omega) ?_; intro v9 w9 ho9 hg9 _; have hb9 := below_own hb8 ho8 hg9 (Nat.le_refl _) hb8.size; simp only [List.nil_append] at ho9; obtain ⟨A9, m9, c9, rfl, hc9, hr9⟩ := ho9.rdn elS.len (by simp; omega); clear ho8 ho9 hg8 hg9)
            | (refine step_append_rdw elS _ rfl (.tmp 39) (.tmp 41) rfl rfl (ho8.alloc (.cells #[.int .i64 a, .bool false, .int .i64 b, .int .i64 (1 + d)] 32)) rfl (Rd_one w8 #[.int .i64 a, .bool false, .int .i64 b, .int .i64 (1 + d)] 32 ⟨a, false, b, (1 + d)⟩ rfl) ?_ ?_ ?_
               · simp only [List.nil_append]; omega
               · have := hb8.size; simp only [World.size_alloc]; omega
               intro v9 w9 ho9 hg9 _
               have hb9 := below_own (hb8.alloc hb8.size (.cells #[.int .i64 a, .bool false, .int .i64 b, .int .i64 (1 + d)] 32)) (ho8.alloc _) hg9 (Nat.le_refl _) (by have := hb8.size; simp only [World.size_alloc]; omega)
               simp only [List.nil_append] at ho9
               obtain ⟨A9, m9, c9, rfl, hc9, hr9⟩ := ho9.rdn elS.len (by simp; omega)
               clear ho8 ho9 hg8 hg9)
            | (go_simp; go_at_call 16; refine (validSteps_ex _ A9 m9 c9 (l ++ [⟨a, false, b, (1 + d)⟩]) _ hr9 (by have := hr9.len; simp at this; omega)).mono ?_; rintro e w10 ⟨vb, rfl, hb10⟩)))
        all_goals (
          have hB10 := hb9.trans (hb10.mono hb9.size)
          have e0 := (hB10.cell HBB.out).trans c0
          have e1 := (hB10.cell HBB.out).trans c1
          have e2 := (hB10.cell HBB.out).trans c2
          have e3 := (hB10.cell HBB.out).trans c3
          have ho10 := ho7.below hB10
          have hr10 := hr7.below hB10
          have hG10 := grown_below hG7 hB10
          clear c0 c1 c2 c3 h2B h2C hrdA hrdB hrdC hoE hrd7 ho7 hr7 hG7 hr9
          cases vb
          case false =>
            go_wp2_with fail
            go_roundw
            case rel => exact ⟨l, y - 1, q + 4, by go_num, by omega, by omega, ho10, hl16, by omega, hr10, hG10⟩
            case measure => simp [intOf]; omega
          case true =>
            go_wp2_with (at_builtin; refine wpList_append_rd elS _ rfl (.tmp 45) (.tmp 47) rfl rfl (ho10.alloc _) rfl (Rd_one w10 #[.int .i64 a, .bool false, .int .i64 b, .int .i64 (1 + d)] 32 ⟨a, false, b, (1 + d)⟩ rfl) (by omega) (by have := hG10.size; simp; omega) ?_; intro v11 w11 ho11 hg11 _)
            go_roundw
            case rel => exact ⟨l ++ [⟨a, false, b, (1 + d)⟩], y - 1, q + 4, by go_num, by omega, by omega, ho11, by simp; omega, by omega, (hr10.alloc _).own (ho10.alloc (.cells #[.int .i64 a, .bool false, .int .i64 b, .int .i64 (1 + d)] 32)) hg11 hRl, grown_own (grown_alloc hG10 _) (ho10.alloc (.cells #[.int .i64 a, .bool false, .int .i64 b, .int .i64 (1 + d)] 32)) hg11 (Nat.le_refl _)⟩
            case measure => simp [intOf]; omega)
      case pos =>
        subst hz6
        have hB7 := blk_set (blk_set hB6 1 (.bool true)) 3 (.int .i64 0)
        have ho7 := ho6.keep (w' := (w6.setCell ⟨w5.heap.size, 1, none⟩ (.bool true)).setCell ⟨w5.heap.size, 3, none⟩ (.int .i64 0)) fun k h1 h2 h3 => by
          have := (HBK.out k h3).2
          rw [Below.heap_setCell _ _ _ _ (by simp; omega), Below.heap_setCell _ _ _ _ (by simp; omega)]
        have hr7 := hr6.keep (w' := (w6.setCell ⟨w5.heap.size, 1, none⟩ (.bool true)).setCell ⟨w5.heap.size, 3, none⟩ (.int .i64 0)) fun k hk => by
          rw [Below.heap_setCell _ _ _ _ (by simp; omega), Below.heap_setCell _ _ _ _ (by simp; omega)]
        have hG7 := grown_set (grown_set hG6 (p := ⟨w5.heap.size, 1, none⟩) (.inr hs5) (.bool true)) (p := ⟨w5.heap.size, 3, none⟩) (.inr hs5) (.int .i64 0)
        have d6 := blk_cell hB6 (i := 1) rfl
        have d7 := blk_cell hB6 (i := 3) rfl
        have f6 := blk_free hB6 1
        have f7 := blk_free hB6 3
        simp at hB7
        go_upto_region 12 with fail
        clear d6 d7 f6 f7 hB6 ho6 hG6 hr6
        generalize (w6.setCell ⟨w5.heap.size, 1, none⟩ (.bool true)).setCell ⟨w5.heap.size, 3, none⟩ (.int .i64 0) = W7 at *
        have c0 : W7.cell? ⟨w5.heap.size, 0, none⟩ = some (.int .i64 a) := blk_cell hB7 (i := 0) rfl
        have c1 : W7.cell? ⟨w5.heap.size, 1, none⟩ = some (.bool true) := blk_cell hB7 (i := 1) rfl
        have c2 : W7.cell? ⟨w5.heap.size, 2, none⟩ = some (.int .i64 b) := blk_cell hB7 (i := 2) rfl
        have c3 : W7.cell? ⟨w5.heap.size, 3, none⟩ = some (.int .i64 0) := blk_cell hB7 (i := 3) rfl
        have HBB := Lib.hid (blk_lt hB7)
        by_cases hl : l.length < 16
        case neg =>
          have hl' : ¬ ((l.length : Int) < 16) := by omega
          clear hB7
          go_wp2_with fail
          have hl2 : ((l.length : Int) < 16) = False := by simp; omega
          go_region
          all_goals (
            go_wp2_with fail
            go_roundw
            case rel => exact ⟨l, y - 1, q + 4, by go_num, by omega, by omega, ho7.drew, hl16, by omega, hr7, grown_below hG7 (Below.refl _ _).drew⟩
            case measure => simp [intOf]; omega)
        have hl' : (l.length : Int) < 16 := by omega
        have hrd7 := (ho7.rds elS.len (by omega)).2
        have hoE : Own cS 4 32 (W7.alloc (.cells #[] 32)).drew W7.heap.size (.slice (some ⟨W7.heap.size, 0, none⟩) 0 0) ([] : List St) := (Own.empty W7 elS.len).drew
        have hrdA := (hrd7.alloc (.cells #[] 32)).drew
        have h2B := two_B (cs := cS) (sz := 4) (e := 32) W7 #[.int .i64 a, .bool true, .int .i64 b, .int .i64 0] ⟨a, true, b, 0⟩ elS.len rfl
        have h2C := two_C (cs := cS) (sz := 4) (e := 32) W7 #[.int .i64 a, .bool true, .int .i64 b, .int .i64 0] ⟨a, true, b, 0⟩ elS.len rfl
        have hrdB := ((hrd7.alloc (.cells #[] 32)).alloc (.cells #[.int .i64 a, .bool true, .int .i64 b, .int .i64 0] 32)).drew
        have hrdC := ((hrd7.alloc (.cells #[.int .i64 a, .bool true, .int .i64 b, .int .i64 0] 32)).alloc (.cells #[] 32)).drew
        clear hB7
        go_wp2_with fail
        go_region_held3 (fun w' => w'.cell? ⟨w5.heap.size, 0, none⟩ = some (.int .i64 a) ∧ w'.cell? ⟨w5.heap.size, 1, none⟩ = some (.bool true) ∧ w'.cell? ⟨w5.heap.size, 2, none⟩ = some (.int .i64 b) ∧ w'.cell? ⟨w5.heap.size, 3, none⟩ = some (.int .i64 0))
          (first | go_keep | exact ⟨(hb8.cell HBB.out).trans c0, (hb8.cell HBB.out).trans c1, (hb8.cell HBB.out).trans c2, (hb8.cell HBB.out).trans c3⟩ | exact ⟨(hb9.cell HBB.out).trans c0, (hb9.cell HBB.out).trans c1, (hb9.cell HBB.out).trans c2, (hb9.cell HBB.out).trans c3⟩ | exact ⟨((hb9.trans (hb10.mono hb9.size)).cell HBB.out).trans c0, ((hb9.trans (hb10.mono hb9.size)).cell HBB.out).trans c1, ((hb9.trans (hb10.mono hb9.size)).cell HBB.out).trans c2, ((hb9.trans (hb10.mono hb9.size)).cell HBB.out).trans c3⟩)
          ((first
            | (refine step_append_rdw elS _ rfl (.tmp 37) (.tmp 38) rfl rfl hoE rfl hrdA (by simp; omega) (by simp) ?_; intro v8 w8 ho8 hg8 _; have hb8 := below_own (((Below.refl W7.heap.size W7).alloc (Nat.le_refl _) _).drew) hoE hg8 (Nat.le_refl _) (by simp))
            | (refine step_append_rdw elS _ rfl (.tmp 37) (.tmp 38) rfl rfl h2B.1 rfl hrdB (by simp; omega) (by simp; omega) ?_; intro v8 w8 ho8 hg8 _; have hb8 := below_own (((Below.refl W7.heap.size W7).alloc (Nat.le_refl _) _).alloc (by simp) _).drew h2B.1 hg8 (Nat.le_refl _) (by simp; omega); have hx8 := h2B.2.ne (row := some W7.heap.size) hg8 (by simp))
            | (refine step_append_rdw elS _ rfl (.tmp 37) (.tmp 38) rfl rfl h2C.1 rfl hrdC (by simp; omega) (by simp; omega) ?_; intro v8 w8 ho8 hg8 _; have hb8 := below_own (((Below.refl W7.heap.size W7).alloc (Nat.le_refl _) _).alloc (by simp) _).drew h2C.1 hg8 (Nat.le_refl _) (by simp; omega); have hx8 := h2C.2.ne (row := some (W7.heap.size + 1)) hg8 (by simp))
            | (refine step_append_rdw elS _ rfl (.tmp 39) (.tmp 41) rfl rfl ho8 rfl hx8 (by simp only [List.nil_append]; omega) (by have := hb8.size; omega) ?_; intro v9 w9 ho9 hg9 _; have hb9 := below_own hb8 ho8 hg9 (Nat.le_refl _) hb8.size; simp only [List.nil_append] at ho9; obtain ⟨A9, m9, c9, rfl, hc9, hr9⟩ := ho9.rdn elS.len (by simp; omega); clear ho8 ho9 hg8 hg9)
            | (refine step_append_rdw elS _ rfl (.tmp 39) (.tmp 41) rfl rfl (ho8.alloc (.cells #[.int .i64 a, .bool true, .int .i64 b, .int .i64 0] 32)) rfl (Rd_one w8 #[.int .i64 a, .bool true, .int .i64 b, .int .i64 0] 32 ⟨a, true, b, 0⟩ rfl) ?_ ?_ ?_
               · simp only [List.nil_append]; omega
               · have := hb8.size; simp only [World.size_alloc]; omega
               intro v9 w9 ho9 hg9 _
               have hb9 := below_own (hb8.alloc hb8.size (.cells #[.int .i64 a, .bool true, .int .i64 b, .int .i64 0] 32)) (ho8.alloc _) hg9 (Nat.le_refl _) (by have := hb8.size; simp only [World.size_alloc]; omega)
               simp only [List.nil_append] at ho9
               obtain ⟨A9, m9, c9, rfl, hc9, hr9⟩ := ho9.rdn elS.len (by simp; omega)
               clear ho8 ho9 hg8 hg9)
            | (go_simp; go_at_call 16; refine (validSteps_ex _ A9 m9 c9 (l ++ [⟨a, true, b, 0⟩]) _ hr9 (by have := hr9.len; simp at this; omega)).mono ?_; rintro e w10 ⟨vb, rfl, hb10⟩)))
        all_goals (
          have hB10 := hb9.trans (hb10.mono hb9.size)
          have e0 := (hB10.cell HBB.out).trans c0
          have e1 := (hB10.cell HBB.out).trans c1
          have e2 := (hB10.cell HBB.out).trans c2
          have e3 := (hB10.cell HBB.out).trans c3
          have ho10 := ho7.below hB10
          have hr10 := hr7.below hB10
          have hG10 := grown_below hG7 hB10
          clear c0 c1 c2 c3 h2B h2C hrdA hrdB hrdC hoE hrd7 ho7 hr7 hG7 hr9
          cases vb
          case false =>
            go_wp2_with fail
            go_roundw
            case rel => exact ⟨l, y - 1, q + 4, by go_num, by omega, by omega, ho10, hl16, by omega, hr10, hG10⟩
            case measure => simp [intOf]; omega
          case true =>
            go_wp2_with (at_builtin; refine wpList_append_rd elS _ rfl (.tmp 45) (.tmp 47) rfl rfl (ho10.alloc _) rfl (Rd_one w10 #[.int .i64 a, .bool true, .int .i64 b, .int .i64 0] 32 ⟨a, true, b, 0⟩ rfl) (by omega) (by have := hG10.size; simp; omega) ?_; intro v11 w11 ho11 hg11 _)
            go_roundw
            case rel => exact ⟨l ++ [⟨a, true, b, 0⟩], y - 1, q + 4, by go_num, by omega, by omega, ho11, by simp; omega, by omega, (hr10.alloc _).own (ho10.alloc (.cells #[.int .i64 a, .bool true, .int .i64 b, .int .i64 0] 32)) hg11 hRl, grown_own (grown_alloc hG10 _) (ho10.alloc (.cells #[.int .i64 a, .bool true, .int .i64 b, .int .i64 0] 32)) hg11 (Nat.le_refl _)⟩
            case measure => simp [intOf]; omega)
    case true =>
      have hrA := hr5.alloc (.cells #[.int .i64 a, .bool false, .int .i64 b, .int .i64 5] 32)
      have hoA := ho5.alloc (.cells #[.int .i64 a, .bool false, .int .i64 b, .int .i64 5] 32)
      have hGA := grown_alloc hG5 (.cells #[.int .i64 a, .bool false, .int .i64 b, .int .i64 5] 32)
      have hBA := heap_alloc_new w5 (.cells #[.int .i64 a, .bool false, .int .i64 b, .int .i64 5] 32)
      go_wp2_with fail
      refine (pick_any R (q + 3) 3 _ hrA (by omega) (by omega)).mono ?_
      rintro e w6 ⟨z6, rfl, _, _, _, hr6, hg6⟩
      have hB6 := (hg6.block w5.heap.size (by simp) (by intro e; injection e with e; omega)).trans hBA
      have ho6 := hoA.grown hg6 hRl
      have hG6 := grown_trans hGA hg6
      have hs6 : w5.heap.size < w6.heap.size := by have := hg6.size; simp at this; omega
      clear hrA hoA hGA hBA hg6
      by_cases hz6 : z6 = 0
      case neg =>
        have hz6' : (z6 == 0) = false := by simpa using hz6
        have hB7 := hB6
        have ho7 := ho6
        have hG7 := hG6
        have hr7 := hr6
        clear hz6 hB6 ho6 hG6 hr6
        have c0 : w6.cell? ⟨w5.heap.size, 0, none⟩ = some (.int .i64 a) := blk_cell hB7 (i := 0) rfl
        have c1 : w6.cell? ⟨w5.heap.size, 1, none⟩ = some (.bool false) := blk_cell hB7 (i := 1) rfl
        have c2 : w6.cell? ⟨w5.heap.size, 2, none⟩ = some (.int .i64 b) := blk_cell hB7 (i := 2) rfl
        have c3 : w6.cell? ⟨w5.heap.size, 3, none⟩ = some (.int .i64 5) := blk_cell hB7 (i := 3) rfl
        have HBB := Lib.hid (blk_lt hB7)
        by_cases hl : l.length < 16
        case neg =>
          have hl' : ¬ ((l.length : Int) < 16) := by omega
          clear hB7
          go_wp2_with fail
          have hl2 : ((l.length : Int) < 16) = False := by simp; omega
          go_region
          all_goals (
            go_wp2_with fail
            go_roundw
            case rel => exact ⟨l, y - 1, q + 4, by go_num, by omega, by omega, ho7.drew, hl16, by omega, hr7, grown_below hG7 (Below.refl _ _).drew⟩
            case measure => simp [intOf]; omega)
        have hl' : (l.length : Int) < 16 := by omega
        have hrd7 := (ho7.rds elS.len (by omega)).2
        have hoE : Own cS 4 32 (w6.alloc (.cells #[] 32)).drew w6.heap.size (.slice (some ⟨w6.heap.size, 0, none⟩) 0 0) ([] : List St) := (Own.empty w6 elS.len).drew
        have hrdA := (hrd7.alloc (.cells #[] 32)).drew
        have h2B := two_B (cs := cS) (sz := 4) (e := 32) w6 #[.int .i64 a, .bool false, .int .i64 b, .int .i64 5] ⟨a, false, b, 5⟩ elS.len rfl
        have h2C := two_C (cs := cS) (sz := 4) (e := 32) w6 #[.int .i64 a, .bool false, .int .i64 b, .int .i64 5] ⟨a, false, b, 5⟩ elS.len rfl
        have hrdB := ((hrd7.alloc (.cells #[] 32)).alloc (.cells #[.int .i64 a, .bool false, .int .i64 b, .int .i64 5] 32)).drew
        have hrdC := ((hrd7.alloc (.cells #[.int .i64 a, .bool false, .int .i64 b, .int .i64 5] 32)).alloc (.cells #[] 32)).drew
        clear hB7
        go_wp2_with fail
        go_region_held3 (fun w' => w'.cell? ⟨w5.heap.size, 0, none⟩ = some (.int .i64 a) ∧ w'.cell? ⟨w5.heap.size, 1, none⟩ = some (.bool false) ∧ w'.cell? ⟨w5.heap.size, 2, none⟩ = some (.int .i64 b) ∧ w'.cell? ⟨w5.heap.size, 3, none⟩ = some (.int .i64 5))
          (first | go_keep | exact ⟨(hb8.cell HBB.out).trans c0, (hb8.cell HBB.out).trans c1, (hb8.cell HBB.out).trans c2, (hb8.cell HBB.out).trans c3⟩ | exact ⟨(hb9.cell HBB.out).trans c0, (hb9.cell HBB.out).trans c1, (hb9.cell HBB.out).trans c2, (hb9.cell HBB.out).trans c3⟩ | exact ⟨((hb9.trans (hb10.mono hb9.size)).cell HBB.out).trans c0, ((hb9.trans (hb10.mono hb9.size)).cell HBB.out).trans c1, ((hb9.trans (hb10.mono hb9.size)).cell HBB.out).trans c2, ((hb9.trans (hb10.mono hb9.size)).cell HBB.out).trans c3⟩)
          ((first
            | (refine step_append_rdw elS _ rfl (.tmp 37) (.tmp 38) rfl rfl hoE rfl hrdA (by simp; omega) (by simp) ?_; intro v8 w8 ho8 hg8 _; have hb8 := below_own (((Below.refl w6.heap.size w6).alloc (Nat.le_refl _) _).drew) hoE hg8 (Nat.le_refl _) (by simp))
            | (refine step_append_rdw elS _ rfl (.tmp 37) (.tmp 38) rfl rfl h2B.1 rfl hrdB (by simp; omega) (by simp; omega) ?_; intro v8 w8 ho8 hg8 _; have hb8 := below_own (((Below.refl w6.heap.size w6).alloc (Nat.le_refl _) _).alloc (by simp) _).drew h2B.1 hg8 (Nat.le_refl _) (by simp; omega); have hx8 := h2B.2.ne (row := some w6.heap.size) hg8 (by simp))
            | (refine step_append_rdw elS _ rfl (.tmp 37) (.tmp 38) rfl rfl h2C.1 rfl hrdC (by simp; omega) (by simp; omega) ?_; intro v8 w8 ho8 hg8 _; have hb8 := below_own (((Below.refl w6.heap.size w6).alloc (Nat.le_refl _) _).alloc (by simp) _).drew h2C.1 hg8 (Nat.le_refl _) (by simp; omega); have hx8 := h2C.2.ne (row := some (w6.heap.size + 1)) hg8 (by simp))
            | (refine step_append_rdw elS _ rfl (.tmp 39) (.tmp 41) rfl rfl ho8 rfl hx8 (by simp only [List.nil_append]; omega) (by have := hb8.size; omega) ?_; intro v9 w9 ho9 hg9 _; have hb9 := below_own hb8 ho8 hg9 (Nat.le_refl _) hb8.size; simp only [List.nil_append] at ho9; obtain ⟨A9, m9, c9, rfl, hc9, hr9⟩ := ho9.rdn elS.len (by simp; omega); clear ho8 ho9 hg8 hg9)
            | (refine step_append_rdw elS _ rfl (.tmp 39) (.tmp 41) rfl rfl (ho8.alloc (.cells #[.int .i64 a, .bool false, .int .i64 b, .int .i64 5] 32)) rfl (Rd_one w8 #[.int .i64 a, .bool false, .int .i64 b, .int .i64 5] 32 ⟨a, false, b, 5⟩ rfl) ?_ ?_ ?_
               · simp only [List.nil_append]; omega
               · have := hb8.size; simp only [World.size_alloc]; omega
               intro v9 w9 ho9 hg9 _
               have hb9 := below_own (hb8.alloc hb8.size (.cells #[.int .i64 a, .bool false, .int .i64 b, .int .i64 5] 32)) (ho8.alloc _) hg9 (Nat.le_refl _) (by have := hb8.size; simp only [World.size_alloc]; omega)
               simp only [List.nil_append] at ho9
               obtain ⟨A9, m9, c9, rfl, hc9, hr9⟩ := ho9.rdn elS.len (by simp; omega)
               clear ho8 ho9 hg8 hg9)
            | (go_simp; go_at_call 16; refine (validSteps_ex _ A9 m9 c9 (l ++ [⟨a, false, b, 5⟩]) _ hr9 (by have := hr9.len; simp at this; omega)).mono ?_; rintro e w10 ⟨vb, rfl, hb10⟩)))
        all_goals (
          have hB10 := hb9.trans (hb10.mono hb9.size)
          have e0 := (hB10.cell HBB.out).trans c0
          have e1 := (hB10.cell HBB.out).trans c1
          have e2 := (hB10.cell HBB.out).trans c2
          have e3 := (hB10.cell HBB.out).trans c3
          have ho10 := ho7.below hB10
          have hr10 := hr7.below hB10
          have hG10 := grown_below hG7 hB10
          clear c0 c1 c2 c3 h2B h2C hrdA hrdB hrdC hoE hrd7 ho7 hr7 hG7 hr9
          cases vb
          case false =>
            go_wp2_with fail
            go_roundw
            case rel => exact ⟨l, y - 1, q + 4, by go_num, by omega, by omega, ho10, hl16, by omega, hr10, hG10⟩
            case measure => simp [intOf]; omega
          case true =>
            go_wp2_with (at_builtin; refine wpList_append_rd elS _ rfl (.tmp 45) (.tmp 47) rfl rfl (ho10.alloc _) rfl (Rd_one w10 #[.int .i64 a, .bool false, .int .i64 b, .int .i64 5] 32 ⟨a, false, b, 5⟩ rfl) (by omega) (by have := hG10.size; simp; omega) ?_; intro v11 w11 ho11 hg11 _)
            go_roundw
            case rel => exact ⟨l ++ [⟨a, false, b, 5⟩], y - 1, q + 4, by go_num, by omega, by omega, ho11, by simp; omega, by omega, (hr10.alloc _).own (ho10.alloc (.cells #[.int .i64 a, .bool false, .int .i64 b, .int .i64 5] 32)) hg11 hRl, grown_own (grown_alloc hG10 _) (ho10.alloc (.cells #[.int .i64 a, .bool false, .int .i64 b, .int .i64 5] 32)) hg11 (Nat.le_refl _)⟩
            case measure => simp [intOf]; omega)
      case pos =>
        subst hz6
        have hB7 := blk_set (blk_set hB6 1 (.bool true)) 3 (.int .i64 0)
        have ho7 := ho6.keep (w' := (w6.setCell ⟨w5.heap.size, 1, none⟩ (.bool true)).setCell ⟨w5.heap.size, 3, none⟩ (.int .i64 0)) fun k h1 h2 h3 => by
          have := (HBK.out k h3).2
          rw [Below.heap_setCell _ _ _ _ (by simp; omega), Below.heap_setCell _ _ _ _ (by simp; omega)]
        have hr7 := hr6.keep (w' := (w6.setCell ⟨w5.heap.size, 1, none⟩ (.bool true)).setCell ⟨w5.heap.size, 3, none⟩ (.int .i64 0)) fun k hk => by
          rw [Below.heap_setCell _ _ _ _ (by simp; omega), Below.heap_setCell _ _ _ _ (by simp; omega)]
        have hG7 := grown_set (grown_set hG6 (p := ⟨w5.heap.size, 1, none⟩) (.inr hs5) (.bool true)) (p := ⟨w5.heap.size, 3, none⟩) (.inr hs5) (.int .i64 0)
        have d6 := blk_cell hB6 (i := 1) rfl
        have d7 := blk_cell hB6 (i := 3) rfl
        have f6 := blk_free hB6 1
        have f7 := blk_free hB6 3
        simp at hB7
        go_upto_region 12 with fail
        clear d6 d7 f6 f7 hB6 ho6 hG6 hr6
        generalize (w6.setCell ⟨w5.heap.size, 1, none⟩ (.bool true)).setCell ⟨w5.heap.size, 3, none⟩ (.int .i64 0) = W7 at *
        have c0 : W7.cell? ⟨w5.heap.size, 0, none⟩ = some (.int .i64 a) := blk_cell hB7 (i := 0) rfl
        have c1 : W7.cell? ⟨w5.heap.size, 1, none⟩ = some (.bool true) := blk_cell hB7 (i := 1) rfl
        have c2 : W7.cell? ⟨w5.heap.size, 2, none⟩ = some (.int .i64 b) := blk_cell hB7 (i := 2) rfl
        have c3 : W7.cell? ⟨w5.heap.size, 3, none⟩ = some (.int .i64 0) := blk_cell hB7 (i := 3) rfl
        have HBB := Lib.hid (blk_lt hB7)
        by_cases hl : l.length < 16
        case neg =>
          have hl' : ¬ ((l.length : Int) < 16) := by omega
          clear hB7
          go_wp2_with fail
          have hl2 : ((l.length : Int) < 16) = False := by simp; omega
          go_region
          all_goals (
            go_wp2_with fail
            go_roundw
            case rel => exact ⟨l, y - 1, q + 4, by go_num, by omega, by omega, ho7.drew, hl16, by omega, hr7, grown_below hG7 (Below.refl _ _).drew⟩
            case measure => simp [intOf]; omega)
        have hl' : (l.length : Int) < 16 := by omega
        have hrd7 := (ho7.rds elS.len (by omega)).2
        have hoE : Own cS 4 32 (W7.alloc (.cells #[] 32)).drew W7.heap.size (.slice (some ⟨W7.heap.size, 0, none⟩) 0 0) ([] : List St) := (Own.empty W7 elS.len).drew
        have hrdA := (hrd7.alloc (.cells #[] 32)).drew
        have h2B := two_B (cs := cS) (sz := 4) (e := 32) W7 #[.int .i64 a, .bool true, .int .i64 b, .int .i64 0] ⟨a, true, b, 0⟩ elS.len rfl
        have h2C := two_C (cs := cS) (sz := 4) (e := 32) W7 #[.int .i64 a, .bool true, .int .i64 b, .int .i64 0] ⟨a, true, b, 0⟩ elS.len rfl
        have hrdB := ((hrd7.alloc (.cells #[] 32)).alloc (.cells #[.int .i64 a, .bool true, .int .i64 b, .int .i64 0] 32)).drew
        have hrdC := ((hrd7.alloc (.cells #[.int .i64 a, .bool true, .int .i64 b, .int .i64 0] 32)).alloc (.cells #[] 32)).drew
        clear hB7
        go_wp2_with fail
        go_region_held3 (fun w' => w'.cell? ⟨w5.heap.size, 0, none⟩ = some (.int .i64 a) ∧ w'.cell? ⟨w5.heap.size, 1, none⟩ = some (.bool true) ∧ w'.cell? ⟨w5.heap.size, 2, none⟩ = some (.int .i64 b) ∧ w'.cell? ⟨w5.heap.size, 3, none⟩ = some (.int .i64 0))
          (first | go_keep | exact ⟨(hb8.cell HBB.out).trans c0, (hb8.cell HBB.out).trans c1, (hb8.cell HBB.out).trans c2, (hb8.cell HBB.out).trans c3⟩ | exact ⟨(hb9.cell HBB.out).trans c0, (hb9.cell HBB.out).trans c1, (hb9.cell HBB.out).trans c2, (hb9.cell HBB.out).trans c3⟩ | exact ⟨((hb9.trans (hb10.mono hb9.size)).cell HBB.out).trans c0, ((hb9.trans (hb10.mono hb9.size)).cell HBB.out).trans c1, ((hb9.trans (hb10.mono hb9.size)).cell HBB.out).trans c2, ((hb9.trans (hb10.mono hb9.size)).cell HBB.out).trans c3⟩)
          ((first
            | (refine step_append_rdw elS _ rfl (.tmp 37) (.tmp 38) rfl rfl hoE rfl hrdA (by simp; omega) (by simp) ?_; intro v8 w8 ho8 hg8 _; have hb8 := below_own (((Below.refl W7.heap.size W7).alloc (Nat.le_refl _) _).drew) hoE hg8 (Nat.le_refl _) (by simp))
            | (refine step_append_rdw elS _ rfl (.tmp 37) (.tmp 38) rfl rfl h2B.1 rfl hrdB (by simp; omega) (by simp; omega) ?_; intro v8 w8 ho8 hg8 _; have hb8 := below_own (((Below.refl W7.heap.size W7).alloc (Nat.le_refl _) _).alloc (by simp) _).drew h2B.1 hg8 (Nat.le_refl _) (by simp; omega); have hx8 := h2B.2.ne (row := some W7.heap.size) hg8 (by simp))
            | (refine step_append_rdw elS _ rfl (.tmp 37) (.tmp 38) rfl rfl h2C.1 rfl hrdC (by simp; omega) (by simp; omega) ?_; intro v8 w8 ho8 hg8 _; have hb8 := below_own (((Below.refl W7.heap.size W7).alloc (Nat.le_refl _) _).alloc (by simp) _).drew h2C.1 hg8 (Nat.le_refl _) (by simp; omega); have hx8 := h2C.2.ne (row := some (W7.heap.size + 1)) hg8 (by simp))
            | (refine step_append_rdw elS _ rfl (.tmp 39) (.tmp 41) rfl rfl ho8 rfl hx8 (by simp only [List.nil_append]; omega) (by have := hb8.size; omega) ?_; intro v9 w9 ho9 hg9 _; have hb9 := below_own hb8 ho8 hg9 (Nat.le_refl _) hb8.size; simp only [List.nil_append] at ho9; obtain ⟨A9, m9, c9, rfl, hc9, hr9⟩ := ho9.rdn elS.len (by simp; omega); clear ho8 ho9 hg8 hg9)
            | (refine step_append_rdw elS _ rfl (.tmp 39) (.tmp 41) rfl rfl (ho8.alloc (.cells #[.int .i64 a, .bool true, .int .i64 b, .int .i64 0] 32)) rfl (Rd_one w8 #[.int .i64 a, .bool true, .int .i64 b, .int .i64 0] 32 ⟨a, true, b, 0⟩ rfl) ?_ ?_ ?_
               · simp only [List.nil_append]; omega
               · have := hb8.size; simp only [World.size_alloc]; omega
               intro v9 w9 ho9 hg9 _
               have hb9 := below_own (hb8.alloc hb8.size (.cells #[.int .i64 a, .bool true, .int .i64 b, .int .i64 0] 32)) (ho8.alloc _) hg9 (Nat.le_refl _) (by have := hb8.size; simp only [World.size_alloc]; omega)
               simp only [List.nil_append] at ho9
               obtain ⟨A9, m9, c9, rfl, hc9, hr9⟩ := ho9.rdn elS.len (by simp; omega)
               clear ho8 ho9 hg8 hg9)
            | (go_simp; go_at_call 16; refine (validSteps_ex _ A9 m9 c9 (l ++ [⟨a, true, b, 0⟩]) _ hr9 (by have := hr9.len; simp at this; omega)).mono ?_; rintro e w10 ⟨vb, rfl, hb10⟩)))
        all_goals (
          have hB10 := hb9.trans (hb10.mono hb9.size)
          have e0 := (hB10.cell HBB.out).trans c0
          have e1 := (hB10.cell HBB.out).trans c1
          have e2 := (hB10.cell HBB.out).trans c2
          have e3 := (hB10.cell HBB.out).trans c3
          have ho10 := ho7.below hB10
          have hr10 := hr7.below hB10
          have hG10 := grown_below hG7 hB10
          clear c0 c1 c2 c3 h2B h2C hrdA hrdB hrdC hoE hrd7 ho7 hr7 hG7 hr9
          cases vb
          case false =>
            go_wp2_with fail
            go_roundw
            case rel => exact ⟨l, y - 1, q + 4, by go_num, by omega, by omega, ho10, hl16, by omega, hr10, hG10⟩
            case measure => simp [intOf]; omega
          case true =>
            go_wp2_with (at_builtin; refine wpList_append_rd elS _ rfl (.tmp 45) (.tmp 47) rfl rfl (ho10.alloc _) rfl (Rd_one w10 #[.int .i64 a, .bool true, .int .i64 b, .int .i64 0] 32 ⟨a, true, b, 0⟩ rfl) (by omega) (by have := hG10.size; simp; omega) ?_; intro v11 w11 ho11 hg11 _)
            go_roundw
            case rel => exact ⟨l ++ [⟨a, true, b, 0⟩], y - 1, q + 4, by go_num, by omega, by omega, ho11, by simp; omega, by omega, (hr10.alloc _).own (ho10.alloc (.cells #[.int .i64 a, .bool true, .int .i64 b, .int .i64 0] 32)) hg11 hRl, grown_own (grown_alloc hG10 _) (ho10.alloc (.cells #[.int .i64 a, .bool true, .int .i64 b, .int .i64 0] 32)) hg11 (Nat.le_refl _)⟩
            case measure => simp [intOf]; omega)
end Go.Proofs.YtcefgabdffipgaaDoor
