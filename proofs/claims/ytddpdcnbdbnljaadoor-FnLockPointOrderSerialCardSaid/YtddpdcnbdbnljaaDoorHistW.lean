/- The walks over isBehind, behindOf, SerialOrder. -/
import Derived.Test.YtddpdcnbdbnljaaDoorLockW2
import Derived.Test.YtddpdcnbdbnljaaDoorConfP
import Derived.Test.YtddpdcnbdbnljaaDoorLawStep
namespace Go.Proofs.YtddpdcnbdbnljaaDoor
open Go.RowKit

theorem bitO_all : ∀ m : Fin 16, ∀ k : Fin 4, bits .or .i64 (m.val : Int) (wrap64 ((2 : Int) ^ k.val)) = ((m.val ||| 2 ^ k.val : Nat) : Int) := by decide +kernel
theorem bitA_all : ∀ m : Fin 16, ∀ k : Fin 4, bits .and .i64 (m.val : Int) (wrap64 ((2 : Int) ^ k.val)) = if m.val.testBit k.val then ((2 ^ k.val : Nat) : Int) else 0 := by decide +kernel
theorem bitN_all : ∀ m : Fin 16, ∀ k : Fin 4, bits .andNot .i64 (m.val : Int) (wrap64 ((2 : Int) ^ k.val)) = ((m.val - (if m.val.testBit k.val then 2 ^ k.val else 0) : Nat) : Int) := by decide +kernel
theorem bitO {m k : Nat} (hm : m < 16) (hk : k < 4) : bits .or .i64 (m : Int) (wrap64 ((2 : Int) ^ k)) = ((m ||| 2 ^ k : Nat) : Int) := bitO_all ⟨m, hm⟩ ⟨k, hk⟩
theorem bitA_t {m k : Nat} (hm : m < 16) (hk : k < 4) (h : m.testBit k = true) : ∃ v : Int, bits .and .i64 (m : Int) (wrap64 ((2 : Int) ^ k)) = v ∧ (v != 0) = true := by
  have := bitA_all ⟨m, hm⟩ ⟨k, hk⟩
  simp only [h, if_true] at this
  refine ⟨_, this, ?_⟩
  have h2 : 0 < 2 ^ k := Nat.two_pow_pos k
  simp only [bne_iff_ne, ne_eq]
  omega
theorem bitA_f {m k : Nat} (hm : m < 16) (hk : k < 4) (h : m.testBit k = false) : bits .and .i64 (m : Int) (wrap64 ((2 : Int) ^ k)) = 0 := by
  have := bitA_all ⟨m, hm⟩ ⟨k, hk⟩
  simp only [h, Bool.false_eq_true, if_false] at this
  exact this
theorem bitN {m k : Nat} (hm : m < 16) (hk : k < 4) (h : m.testBit k = true) : bits .andNot .i64 (m : Int) (wrap64 ((2 : Int) ^ k)) = ((m - 2 ^ k : Nat) : Int) := by
  have := bitN_all ⟨m, hm⟩ ⟨k, hk⟩
  simp only [h, if_true] at this
  exact this
/-- Somebody of a set must come ahead of a transaction. -/
def behB (M : Nat → Nat) (s who : Nat) : Bool := ([0, 1, 2, 3] : List Nat).any fun o => s.testBit o && (M o).testBit who
theorem behB_f {M : Nat → Nat} {s who : Nat} (h : ∀ o : Nat, o < 4 → (s.testBit o && (M o).testBit who) = false) : behB M s who = false := by
  unfold behB
  rw [List.any_eq_false]
  intro o ho
  have : o < 4 := by simp at ho; omega
  rw [h o this]; simp
theorem behB_t {M : Nat → Nat} {s who o : Nat} (h4 : o < 4) (h : (s.testBit o && (M o).testBit who) = true) : behB M s who = true := by
  unfold behB
  rw [List.any_eq_true]
  exact ⟨o, by simp; omega, h⟩
theorem rows_at (M : Nat → Nat) {k : Nat} (hlt : k < 4) : (#[.int .i64 (M 0), .int .i64 (M 1), .int .i64 (M 2), .int .i64 (M 3)] : Array Value)[k]? = some (.int .i64 (M k)) := by
  match k, hlt with
  | 0, _ => rfl
  | 1, _ => rfl
  | 2, _ => rfl
  | 3, _ => rfl
theorem rows_set (M : Nat → Nat) {k : Nat} (hlt : k < 4) (v : Nat) : (#[.int .i64 (M 0), .int .i64 (M 1), .int .i64 (M 2), .int .i64 (M 3)] : Array Value).setIfInBounds k (.int .i64 v) =
    #[.int .i64 ((fun a => if a = k then v else M a) 0 : Nat), .int .i64 ((fun a => if a = k then v else M a) 1 : Nat), .int .i64 ((fun a => if a = k then v else M a) 2 : Nat), .int .i64 ((fun a => if a = k then v else M a) 3 : Nat)] := by
  match k, hlt with
  | 0, _ => rfl
  | 1, _ => rfl
  | 2, _ => rfl
  | 3, _ => rfl
set_option maxHeartbeats 1000000 in
theorem isBehind_any (M : Nat → Nat) (s who : Nat) (w : World) (hs : s < 16) (hw : who < 4) (hM : ∀ o, o < 4 → M o < 16) :
    Calls Tryd.prog 54 #[.agg #[.int .i64 (M 0), .int .i64 (M 1), .int .i64 (M 2), .int .i64 (M 3)], .int .i64 s, .int .i64 who] w fun e w' => e = .returned (.bool (behB M s who)) ∧ Below w.heap.size w w' := by
  generalize hR : behB M s who = R
  have HR := Lib.hid hR
  clear hR
  have hB0 := heap_alloc_new w (.cells #[.int .i64 (M 0), .int .i64 (M 1), .int .i64 (M 2), .int .i64 (M 3)] 71)
  have hbA := (Below.refl w.heap.size w).alloc (Nat.le_refl _) (.cells #[.int .i64 (M 0), .int .i64 (M 1), .int .i64 (M 2), .int .i64 (M 3)] 71)
  go_enter Tryd.func54, Tryd.ntmps54
  go_wp2_with fail
  go_loopw [8] (fun i wr => ∃ k : Nat, k ≤ 4 ∧ i = .int .i64 k ∧ Below w.heap.size w wr ∧ wr.heap[w.heap.size]? = some (.cells #[.int .i64 (M 0), .int .i64 (M 1), .int .i64 (M 2), .int .i64 (M 3)] 71 (0, 0)) ∧ ∀ o : Nat, o < k → (s.testBit o && (M o).testBit who) = false) (fun i _ => 4 - (intOf i).toNat)
  case atStart => exact ⟨0, Nat.zero_le _, rfl, hbA, hB0, fun o h => by omega⟩
  case round =>
    rename World => W1
    obtain ⟨k, hk, rfl, hbl, hB, hall⟩ := hrel
    have HALL := Lib.hid hall
    clear hall
    by_cases hlt : k < 4
    case neg =>
      have : R = false := by rw [← HR.out]; exact behB_f fun o ho => HALL.out o (by omega)
      subst this
      go_wp2_with fail
      go_ret
      exact ⟨rfl, hbl⟩
    have hc := blk_cell hB (rows_at M hlt)
    have HB := Lib.hid hB
    have hlt' : (k : Int) < 4 := by omega
    have a0 := aft hc
    have HNX : Hid ((s.testBit k && (M k).testBit who) = false → ∀ o : Nat, o < k + 1 → (s.testBit o && (M o).testBit who) = false) := fun h o ho => by
      by_cases e : o = k
      · rw [e]; exact h
      · exact HALL.out o (by omega)
    have HHT : Hid ((s.testBit k && (M k).testBit who) = true → R = true) := fun h => by rw [← HR.out]; exact behB_t hlt h
    clear hB
    cases h1 : s.testBit k with
    | false =>
      have HN := Lib.hid (HNX.out (by rw [h1]; rfl))
      have e1 := bitA_f hs hlt h1
      clear h1 HNX HHT
      go_wp2_with fail
      refine wp_region_after (by kernel_rfl) (by kernel_rfl) ?_
      repeat (go_big_quiet_step (fail))
      refine wpQuiet_nil ?_
      intro w7 hb7
      go_wp2_with fail
      go_roundw
      case rel => exact ⟨k + 1, by omega, by go_num, hbl.trans (hb7.mono hbl.size), blk_below HB.out hb7, HN.out⟩
      case measure => simp [intOf]; omega
    | true =>
      obtain ⟨v1, e1, f1⟩ := bitA_t hs hlt h1
      cases h2 : (M k).testBit who with
      | false =>
        have HN := Lib.hid (HNX.out (by rw [h1, h2]; rfl))
        have e2 := bitA_f (hM k hlt) hw h2
        clear h1 h2 HNX HHT
        go_wp2_with fail
        refine wp_region_after (by kernel_rfl) (by kernel_rfl) ?_
        repeat (go_big_quiet_step (fail))
        refine wpQuiet_nil ?_
        intro w7 hb7
        go_wp2_with fail
        go_roundw
        case rel => exact ⟨k + 1, by omega, by go_num, hbl.trans (hb7.mono hbl.size), blk_below HB.out hb7, HN.out⟩
        case measure => simp [intOf]; omega
      | true =>
        have : R = true := HHT.out (by rw [h1, h2]; rfl)
        subst this
        obtain ⟨v2, e2, f2⟩ := bitA_t (hM k hlt) hw h2
        clear h1 h2 HNX HHT
        go_wp2_with fail
        refine wp_region_after (by kernel_rfl) (by kernel_rfl) ?_
        repeat (go_big_quiet_step (fail))
        refine wpQuiet_nil ?_
        intro w7 hb7
        go_wp2_with fail
        go_ret
        exact ⟨rfl, hbl.trans (hb7.mono hbl.size)⟩
set_option maxHeartbeats 3200000 in
theorem behindOf_t (lo : Nat) (A : Option Addr) (n c : Nat) (h : List Ac) (w : World) (hr : Rd cA 3 w lo A n h) (hc : n ≤ c) (hv : VA h) :
    Calls Tryd.prog 53 #[.slice A n c] w fun e w' => (∃ M : Nat → Nat, e = .returned (.agg #[.int .i64 (M 0), .int .i64 (M 1), .int .i64 (M 2), .int .i64 (M 3)]) ∧ ∀ a : Nat, a < 4 → Row (fun b => Cf h (a : Int) b) (M a)) ∧ Below w.heap.size w w' := by
  have HL := Lib.hid hr.len
  have HV := Lib.hid hv.2
  have hn16 : n ≤ 16 := by have := hv.1; have := HL.out; omega
  clear hv
  have hB0 := heap_alloc_new (w.alloc (.cells #[.int .i64 0, .int .i64 0, .int .i64 0, .int .i64 0] 71)) (.cells #[.int .i64 0, .int .i64 0, .int .i64 0, .int .i64 0] 71)
  have hC0 := blk_alloc (heap_alloc_new w (.cells #[.int .i64 0, .int .i64 0, .int .i64 0, .int .i64 0] 71)) (.cells #[.int .i64 0, .int .i64 0, .int .i64 0, .int .i64 0] 71)
  have hbA := ((Below.refl w.heap.size w).alloc (Nat.le_refl _) (.cells #[.int .i64 0, .int .i64 0, .int .i64 0, .int .i64 0] 71)).alloc (by simp) (.cells #[.int .i64 0, .int .i64 0, .int .i64 0, .int .i64 0] 71)
  simp only [World.size_alloc] at hB0
  go_enter Tryd.func53, Tryd.ntmps53
  go_wp2_with fail
  go_loopw [10] (fun i wr => ∃ (j : Nat) (M : Nat → Nat), j ≤ n ∧ i = .int .i64 j ∧ Below w.heap.size w wr ∧ wr.heap[w.heap.size + 1]? = some (.cells #[.int .i64 (M 0), .int .i64 (M 1), .int .i64 (M 2), .int .i64 (M 3)] 71 (0, 0)) ∧
      wr.heap[w.heap.size]? = some (.cells #[.int .i64 0, .int .i64 0, .int .i64 0, .int .i64 0] 71 (0, 0)) ∧ ∀ a : Nat, a < 4 → Row (fun b => CfTo h j 0 (a : Int) b) (M a)) (fun i _ => n - (intOf i).toNat)
  case atStart => exact ⟨0, fun _ => 0, Nat.zero_le _, rfl, hbA, hB0, hC0, fun a _ => Row.zero fun b => CfTo_zero⟩
  case round =>
    rename World => W1
    obtain ⟨j, M, hj, rfl, hbl, hB, hC, hM⟩ := hrel
    have hs := hbl.size
    by_cases hlt : j < n
    case neg =>
      have HF : Hid (∀ a : Nat, a < 4 → Row (fun b => Cf h (a : Int) b) (M a)) := fun a ha => (hM a ha).congr fun b => by
        show _ ↔ _
        rw [← CfTo_all HL.out, show j = n by omega]
      have c0 := blk_cell (i := 0) hB rfl
      have c1 := blk_cell (i := 1) hB rfl
      have c2 := blk_cell (i := 2) hB rfl
      have c3 := blk_cell (i := 3) hB rfl
      have d0 := blk_cell (i := 0) hC rfl
      have d1 := blk_cell (i := 1) hC rfl
      have d2 := blk_cell (i := 2) hC rfl
      have d3 := blk_cell (i := 3) hC rfl
      have f0 := blk_free hC 0
      have f1 := blk_free hC 1
      have f2 := blk_free hC 2
      have f3 := blk_free hC 3
      have hgl := blk_lt hC
      have S1 := blk_set hC 0 (.int .i64 (M 0))
      have S2 := blk_set S1 1 (.int .i64 (M 1))
      have S3 := blk_set S2 2 (.int .i64 (M 2))
      have S4 := blk_set S3 3 (.int .i64 (M 3))
      have E0 := blk_cell (i := 0) S4 rfl
      have E1 := blk_cell (i := 1) S4 rfl
      have E2 := blk_cell (i := 2) S4 rfl
      have E3 := blk_cell (i := 3) S4 rfl
      have HBB := Lib.hid ((((hbl.setCell (p := ⟨w.heap.size, 0, none⟩) (Nat.le_refl _) (.int .i64 (M 0))).setCell (p := ⟨w.heap.size, 1, none⟩) (Nat.le_refl _) (.int .i64 (M 1))).setCell (p := ⟨w.heap.size, 2, none⟩) (Nat.le_refl _) (.int .i64 (M 2))).setCell (p := ⟨w.heap.size, 3, none⟩) (Nat.le_refl _) (.int .i64 (M 3)))
      clear hM S1 S2 S3 S4
      go_wp2_with fail
      refine bodyPost_ret (v := .agg #[.int .i64 (M 0), .int .i64 (M 1), .int .i64 (M 2), .int .i64 (M 3)]) (by simp [results, Tryd.results53, go_sem, E0, E1, E2, E3]) rfl ?_
      exact ⟨⟨M, rfl, HF.out⟩, HBB.out⟩
    obtain ⟨b, o, y, rfl, _, hb, hy, g0, g1, g2⟩ := (hr.below hbl).atA hlt
    obtain ⟨⟨y0, y3⟩, _⟩ := HV.out y (List.mem_of_getElem? hy)
    obtain ⟨yw, yn, ywr⟩ := y
    simp only at g0 g1 g2 y0 y3
    obtain ⟨ky, rfl⟩ := Int.eq_ofNat_of_zero_le y0
    have hky : ky < 4 := by omega
    have HY := Lib.hid hy
    have hjc : j ≤ c := by omega
    have hbA1 := hbl.alloc hs (.cells #[.int .i64 ky, .int .i64 yn, .bool ywr] 32)
    have hB1 := blk_alloc hB (.cells #[.int .i64 ky, .int .i64 yn, .bool ywr] 32)
    have hC1 := blk_alloc hC (.cells #[.int .i64 ky, .int .i64 yn, .bool ywr] 32)
    have hY1 := heap_alloc_new W1 (.cells #[.int .i64 ky, .int .i64 yn, .bool ywr] 32)
    have hGl := blk_lt hB
    clear hy hB hC
    go_wp2_with fail
    go_loopw [19] (fun v wr => ∃ (i' : Nat) (M' : Nat → Nat), i' ≤ j ∧ v = .int .i64 i' ∧ Below w.heap.size w wr ∧ wr.heap[w.heap.size + 1]? = some (.cells #[.int .i64 (M' 0), .int .i64 (M' 1), .int .i64 (M' 2), .int .i64 (M' 3)] 71 (0, 0)) ∧
        wr.heap[w.heap.size]? = some (.cells #[.int .i64 0, .int .i64 0, .int .i64 0, .int .i64 0] 71 (0, 0)) ∧ wr.heap[W1.heap.size]? = some (.cells #[.int .i64 ky, .int .i64 yn, .bool ywr] 32 (0, 0)) ∧ ∀ a : Nat, a < 4 → Row (fun b => CfTo h j i' (a : Int) b) (M' a)) (fun v _ => j - (intOf v).toNat)
    case atStart => exact ⟨0, M, Nat.zero_le _, rfl, hbA1, hB1, hC1, hY1, hM⟩
    case round =>
      rename World => W2
      clear hB1 hC1 hY1 hM hbA1
      obtain ⟨i', M', hi', rfl, hbl2, hB2, hC2, hY2, hM2⟩ := hrel
      have hs2 := hbl2.size
      by_cases hlt2 : i' < j
      case neg =>
        have HM3 : Hid (∀ a : Nat, a < 4 → Row (fun b => CfTo h (j + 1) 0 (a : Int) b) (M' a)) := fun a ha => (hM2 a ha).congr fun b => by
          show _ ↔ _
          rw [show i' = j by omega]; exact CfTo_next.symm
        clear hM2
        go_wp2_with fail
        go_roundw
        case rel => exact ⟨j + 1, M', by omega, by go_num, hbl2, hB2, hC2, HM3.out⟩
        case measure => simp [intOf]; omega
      obtain ⟨b', o', x, hA, _, _, hx, d0, d1, d2⟩ := (hr.below hbl2).atA (k := i') (by omega)
      injection hA with hA
      injection hA with e1 e2 _
      subst e1 e2
      obtain ⟨⟨x0, x3⟩, _⟩ := HV.out x (List.mem_of_getElem? hx)
      have HNF0 := Lib.hid (fun (hcf : ¬ CfAt x ⟨(ky : Int), yn, ywr⟩) (a : Nat) (ha : a < 4) => (hM2 a ha).congr fun b => CfTo_f (a := (a : Int)) (b := b) hx HY.out hcf)
      have HNT0 := Lib.hid (fun (hcf : CfAt x ⟨(ky : Int), yn, ywr⟩) (a : Nat) (b : Int) => CfTo_t (a := (a : Int)) (b := b) hlt2 hx HY.out hcf)
      obtain ⟨xw, xn, xwr⟩ := x
      simp only at d0 d1 d2 x0 x3
      obtain ⟨kx, rfl⟩ := Int.eq_ofNat_of_zero_le x0
      have hkx : kx < 4 := by omega
      have HNF : Hid (¬ CfAt ⟨(kx : Int), xn, xwr⟩ ⟨(ky : Int), yn, ywr⟩ → ∀ a : Nat, a < 4 → Row (fun b => CfTo h j (i' + 1) (a : Int) b) (M' a)) := HNF0.out
      have HNT : Hid (CfAt ⟨(kx : Int), xn, xwr⟩ ⟨(ky : Int), yn, ywr⟩ → ∀ a : Nat, a < 4 → Row (fun b => CfTo h j (i' + 1) (a : Int) b) ((fun a => if a = kx then (M' kx ||| 2 ^ ky) else M' a) a)) := fun hcf a ha => by
        show Row _ (if a = kx then _ else _)
        by_cases e : a = kx
        · subst e
          rw [if_pos rfl]
          exact (hM2 a ha).or hky fun b => (HNT0.out hcf a b).trans ⟨fun h => h.elim .inl fun h => .inr h.2, fun h => h.elim .inl fun h => .inr ⟨rfl, h⟩⟩
        · rw [if_neg e]
          exact (hM2 a ha).congr fun b => (HNT0.out hcf a b).trans ⟨fun h => h.elim id fun h => absurd (by have := h.1; simp only at this; omega) e, .inl⟩
      have hM16 : ∀ a : Nat, a < 4 → M' a < 16 := fun a ha => (hM2 a ha).1
      have hblA := hbl2.alloc hs2 (.cells #[.int .i64 kx, .int .i64 xn, .bool xwr] 32)
      have hBx := blk_alloc hB2 (.cells #[.int .i64 kx, .int .i64 xn, .bool xwr] 32)
      have hCx := blk_alloc hC2 (.cells #[.int .i64 kx, .int .i64 xn, .bool xwr] 32)
      have hYx := blk_alloc hY2 (.cells #[.int .i64 kx, .int .i64 xn, .bool xwr] 32)
      have y0' := blk_cell (i := 0) hYx rfl
      have y1' := blk_cell (i := 1) hYx rfl
      have y2' := blk_cell (i := 2) hYx rfl
      have ck := blk_cell hBx (rows_at M' hkx)
      have fk := blk_free hBx kx
      have hgl := blk_lt hBx
      have hkx' : (kx : Int) < 4 := by omega
      have hyl := blk_lt hY2
      clear hx hM2 hB2 hC2 hY2 HNF0 HNT0
      by_cases e1 : kx = ky
      · have w1 : ((kx : Int) != (ky : Int)) = false := by simp [e1]
        have HNF2 := Lib.hid (HNF.out (fun h => h.1 (by simp only; omega)))
        try clear e2
        try clear e1
        go_wp2_with fail
        go_roundw
        case rel => exact ⟨i' + 1, M', by omega, by go_num, hblA, hBx, hCx, hYx, HNF2.out⟩
        case measure => simp [intOf]; omega
      have w1 : ((kx : Int) != (ky : Int)) = true := by simp; omega
      by_cases e2 : xn = yn
      case neg =>
        have w2 : (xn == yn) = false := by simpa using e2
        have HNF2 := Lib.hid (HNF.out (fun h => e2 h.2.1))
        try clear e2
        try clear e1
        go_wp2_with fail
        go_roundw
        case rel => exact ⟨i' + 1, M', by omega, by go_num, hblA, hBx, hCx, hYx, HNF2.out⟩
        case measure => simp [intOf]; omega
      have w2 : (xn == yn) = true := by simpa using e2
      cases xwr with
      | true =>
        have HNT2 := Lib.hid (HNT.out ⟨by simp only; omega, e2, .inl rfl⟩)
        have k1 := bitO (hM16 kx hkx) hky
        clear e2
        go_wp2_with fail
        go_region
        all_goals (
          go_wp2_with fail
          go_roundw
          case rel => exact ⟨i' + 1, fun a => if a = kx then (M' kx ||| 2 ^ ky) else M' a, by omega, by go_num, (hblA.trans (Below.refl _ _).drew).setCell (p := ⟨w.heap.size + 1, kx, none⟩) (by show w.heap.size ≤ w.heap.size + 1; omega) _, by rw [← rows_set M' hkx]; exact blk_set (w := (W2.alloc (.cells #[.int .i64 kx, .int .i64 xn, .bool true] 32)).drew) hBx kx _, (Below.heap_setCell _ _ _ _ (by simp)).trans hCx, (Below.heap_setCell _ _ _ _ (by simp; omega)).trans hYx, HNT2.out⟩
          case measure => simp [intOf]; omega)
      | false =>
        cases ywr with
        | true =>
          have HNT2 := Lib.hid (HNT.out ⟨by simp only; omega, e2, .inr rfl⟩)
          have k1 := bitO (hM16 kx hkx) hky
          clear e2
          go_wp2_with fail
          go_region
          all_goals (
            go_wp2_with fail
            go_roundw
            case rel => exact ⟨i' + 1, fun a => if a = kx then (M' kx ||| 2 ^ ky) else M' a, by omega, by go_num, (hblA.trans (Below.refl _ _).drew).setCell (p := ⟨w.heap.size + 1, kx, none⟩) (by show w.heap.size ≤ w.heap.size + 1; omega) _, by rw [← rows_set M' hkx]; exact blk_set (w := (W2.alloc (.cells #[.int .i64 kx, .int .i64 xn, .bool false] 32)).drew) hBx kx _, (Below.heap_setCell _ _ _ _ (by simp)).trans hCx, (Below.heap_setCell _ _ _ _ (by simp; omega)).trans hYx, HNT2.out⟩
            case measure => simp [intOf]; omega)
        | false =>
          have HNF2 := Lib.hid (HNF.out (fun h => by rcases h.2.2 with h | h <;> cases h))
          try clear e2
          try clear e1
          go_wp2_with fail
          go_roundw
          case rel => exact ⟨i' + 1, M', by omega, by go_num, hblA, hBx, hCx, hYx, HNF2.out⟩
          case measure => simp [intOf]; omega
set_option maxRecDepth 100000 in
set_option maxHeartbeats 3200000 in
theorem SerialOrder_t (lo : Nat) (A : Option Addr) (n c : Nat) (h : List Ac) (w : World) (hr : Rd cA 3 w lo A n h) (hc : n ≤ c) (hv : VA h) (hsrc : Src (Cf h)) :
    Calls Tryd.prog 33 #[.slice A n c] w fun e w' => (∃ v, e = .returned (.tuple #[v, .bool true])) ∧ Below w.heap.size w w' := by
  have HL := Lib.hid hr.len
  have HV := Lib.hid hv.2
  have HVA := Lib.hid hv
  have HSRC := Lib.hid hsrc
  have hn16 : n ≤ 16 := by have := hv.1; have := HL.out; omega
  clear hv hsrc
  go_enter Tryd.func33, Tryd.ntmps33
  go_wp2_with fail
  refine (ValidAccesses_t _ A n c h _ hr HVA.out).mono ?_
  rintro e w1 ⟨rfl, hb1⟩
  have hr1 := hr.below hb1
  go_wp2_with fail
  refine (behindOf_t _ A n c h _ hr1 hc HVA.out).mono ?_
  rintro e w2 ⟨⟨M, rfl, hM⟩, hb2⟩
  have hB2 := hb1.trans (hb2.mono hb1.size)
  have hr2 := hr1.below hb2
  have HM := Lib.hid hM
  have hs0 := hB2.size
  clear hr hr1 hb1 hb2 hM
  go_wp2_with fail
  go_loopw [5, 18] (fun v i wr => ∃ (k L : Nat), k ≤ n ∧ i = .int .i64 k ∧ v = .int .i64 L ∧ L < 16 ∧ Below w2.heap.size w2 wr ∧ wr.heap[w2.heap.size]? = some (.cells #[.int .i64 (M 0), .int .i64 (M 1), .int .i64 (M 2), .int .i64 (M 3)] 71 (0, 0))) (fun _ i _ => n - (intOf i).toNat)
  case atStart => exact ⟨0, 0, Nat.zero_le _, rfl, rfl, by omega, (Below.refl _ _).alloc (Nat.le_refl _) _, heap_alloc_new w2 _⟩
  case round =>
    rename World => W1
    obtain ⟨k, L, hk, rfl, rfl, hL, hbl, hB⟩ := hrel
    have hs := hbl.size
    by_cases hlt : k < n
    case pos =>
      obtain ⟨b, o, x, rfl, _, hb, hx, g0, g1, g2⟩ := (hr2.below hbl).atA hlt
      obtain ⟨⟨x0, x3⟩, _⟩ := HV.out x (List.mem_of_getElem? hx)
      obtain ⟨xw, xn, xwr⟩ := x
      simp only at g0 g1 g2 x0 x3
      obtain ⟨kx, rfl⟩ := Int.eq_ofNat_of_zero_le x0
      have hkx : kx < 4 := by omega
      have k1 := bitO hL hkx
      have hkx' : (kx : Int) < 4 := by omega
      have HL2 : Hid (L ||| 2 ^ kx < 16) := Nat.or_lt_two_pow (n := 4) hL (by rw [Nat.pow_lt_pow_iff_right (by omega)]; exact hkx)
      clear hx
      go_wp2_with fail
      go_roundw
      case rel => exact ⟨k + 1, L ||| 2 ^ kx, by omega, by go_num, rfl, HL2.out, hbl.alloc hs _, blk_alloc hB _⟩
      case measure => simp [intOf]; omega
    go_wp2_with fail
    go_loopw [5, 8] (fun u v wr => ∃ (L : Nat) (l : List Int), u = .int .i64 L ∧ L < 16 ∧ Below w2.heap.size w2 wr ∧ wr.heap[w2.heap.size]? = some (.cells #[.int .i64 (M 0), .int .i64 (M 1), .int .i64 (M 2), .int .i64 (M 3)] 71 (0, 0)) ∧ Own cI 1 3 wr (w2.heap.size + 1) v l ∧ l.length + L ≤ 16) (fun u _ _ => (intOf u).toNat)
    case atStart => exact ⟨L, [], rfl, hL, hbl, hB, Own.nil _ _, by simp; omega⟩
    case round =>
      rename World => W2
      clear hbl hB hL hlt hk hs
      obtain ⟨L2, l, rfl, hL2, hbl, hB, ho, hll⟩ := hrel
      have hs := hbl.size
      by_cases hz : L2 = 0
      · subst hz
        go_wp2_with fail
        go_ret2
        exact ⟨⟨_, rfl⟩, hB2.trans (hbl.mono hB2.size)⟩
      obtain ⟨s, hs4, hbit, hno⟩ := HSRC.out.bits hL2 hz
      have HNO : Hid (behB M L2 s = false) := behB_f fun q hq => by
        cases h1 : L2.testBit q with
        | false => rfl
        | true =>
          cases h2 : (M q).testBit s with
          | false => rfl
          | true => exact absurd (((HM.out q hq).2 s hs4).1 h2) (hno q hq h1)
      have HBIT := Lib.hid hbit
      have hz' : ((L2 : Int) != 0) = true := by simp; omega
      obtain ⟨A5, m5, c5, rfl, hc5, _⟩ := ho.rdn elI.len (by omega)
      clear hbit hno
      go_wp2_with fail
      go_loopw [9, 10] (fun nx v wr => ∃ (y q : Int), v = .int .i64 y ∧ -1 ≤ y ∧ y ≤ 3 ∧ nx = .int .i64 q ∧ (q = -1 ∨ ∃ k : Nat, k < 4 ∧ q = k ∧ L2.testBit k = true) ∧ (y < s → q ≠ -1) ∧ Below w2.heap.size w2 wr ∧ wr.heap[w2.heap.size]? = some (.cells #[.int .i64 (M 0), .int .i64 (M 1), .int .i64 (M 2), .int .i64 (M 3)] 71 (0, 0)) ∧
          Own cI 1 3 wr (w2.heap.size + 1) (.slice A5 m5 c5) l) (fun _ v _ => (intOf v + 1).toNat)
      case atStart => exact ⟨3, -1, rfl, by omega, by omega, rfl, .inl rfl, fun h => by omega, hbl, hB, ho⟩
      case round =>
        rename World => W3
        clear hbl hB ho hs
        obtain ⟨y, q, rfl, y0, y3, rfl, hq, hqs, hbl, hB, ho⟩ := hrel
        have hs := hbl.size
        by_cases hy : 0 ≤ y
        case neg =>
          obtain rfl : y = -1 := by omega
          obtain ⟨k, hk4, rfl, hkb⟩ := hq.resolve_left (hqs (by omega))
          have k1 := bitN hL2 hk4 hkb
          have HLT := Lib.hid (bit_clear ⟨L2, hL2⟩ ⟨k, hk4⟩ hkb).1
          have hlt2 : L2 - 2 ^ k < L2 := HLT.out
          have hnk : ¬ (k : Int) < 0 := by omega
          clear hkb hqs hq HLT
          go_wp2_with (at_builtin; refine wpList_append_rd elI _ rfl (.tmp 49) (.tmp 51) rfl rfl (ho.alloc _) rfl (Rd_one W3 #[.int .i64 k] 3 (k : Int) rfl) (by omega) (by have := blk_lt hB; simp; omega) ?_; intro v8 w8 ho8 hg8 _)
          have hb8 := below_own (hbl.alloc hs _) (ho.alloc (.cells #[.int .i64 k] 3)) hg8 (by omega) (by simp; omega)
          have hB8 := (hg8.block w2.heap.size (by have := blk_lt hB; simp; omega) (fun e => by have := (ho.blk _ e.symm).1; omega)).trans (blk_alloc hB (.cells #[.int .i64 k] 3))
          go_roundw
          case rel => exact ⟨L2 - 2 ^ k, l ++ [(k : Int)], rfl, by omega, hb8, hB8, ho8, by simp; omega⟩
          case measure => simp [intOf]; omega
        obtain ⟨k, rfl⟩ := Int.eq_ofNat_of_zero_le hy
        have hk4 : k < 4 := by omega
        have hy' : (0 : Int) ≤ (k : Int) := by omega
        cases h1 : L2.testBit k with
        | false =>
          have e1 := bitA_f hL2 hk4 h1
          have HNE : Hid ((k : Int) - 1 < s → q ≠ -1) := fun h => by
            by_cases e : k = s
            · subst e; rw [HBIT.out] at h1; cases h1
            · exact hqs (by omega)
          clear h1 hqs
          go_wp2_with fail
          go_roundw
          case rel => exact ⟨(k : Int) - 1, q, by go_num, by omega, by omega, rfl, hq, HNE.out, hbl, hB, ho⟩
          case measure => simp [intOf]
        | true =>
          obtain ⟨v1, e1, f1⟩ := bitA_t hL2 hk4 h1
          have c0 := blk_cell (i := 0) hB rfl
          have c1 := blk_cell (i := 1) hB rfl
          have c2 := blk_cell (i := 2) hB rfl
          have c3 := blk_cell (i := 3) hB rfl
          have HIB := Lib.hid (isBehind_any M L2 k W3 hL2 hk4 fun a ha => (HM.out a ha).1)
          cases h2 : behB M L2 k with
          | true =>
            rw [h2] at HIB
            have HNE : Hid ((k : Int) - 1 < s → q ≠ -1) := fun h => by
              by_cases e : k = s
              · subst e; rw [HNO.out] at h2; cases h2
              · exact hqs (by omega)
            clear h1 h2 hqs
            go_wp2_with fail
            refine HIB.out.mono ?_
            rintro e w9 ⟨rfl, hb9⟩
            go_wp2_with fail
            go_roundw
            case rel => exact ⟨(k : Int) - 1, q, by go_num, by omega, by omega, rfl, hq, HNE.out, hbl.trans (hb9.mono hs), blk_below hB hb9, ho.below hb9⟩
            case measure => simp [intOf]
          | false =>
            rw [h2] at HIB
            have HK : Hid ((k : Int) = -1 ∨ ∃ k' : Nat, k' < 4 ∧ (k : Int) = k' ∧ L2.testBit k' = true) := .inr ⟨k, hk4, rfl, h1⟩
            clear h1 h2 hqs hq
            go_wp2_with fail
            refine HIB.out.mono ?_
            rintro e w9 ⟨rfl, hb9⟩
            go_wp2_with fail
            go_roundw
            case rel => exact ⟨(k : Int) - 1, (k : Int), by go_num, by omega, by omega, rfl, HK.out, fun _ => by omega, hbl.trans (hb9.mono hs), blk_below hB hb9, ho.below hb9⟩
            case measure => simp [intOf]
end Go.Proofs.YtddpdcnbdbnljaaDoor
