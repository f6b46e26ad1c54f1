/- The walks over what the exact laws do with records: szRecordS, toRecord, toRecordS, eqRecord, eqRecordS. -/
import Derived.Test.YtgmgmnigcikebaaExNode
namespace Go.Proofs.Ytgmgmnigcikebaa
open Go.RowKit

theorem Own.putR {e : TypeId} {w : World} {base g m cap k : Nat} {l : List Rc} (h : Own cR 4 e w base (.slice (some ⟨g, 0, none⟩) m cap) l) (hk : k < l.length) (x : Rc) :
    Own cR 4 e ((((w.setCell ⟨g, k * 4, none⟩ (.int .i64 x.who)).setCell ⟨g, k * 4 + 1, none⟩ (.int .i64 x.node)).setCell ⟨g, k * 4 + 2, none⟩ (.int .i64 x.val)).setCell ⟨g, k * 4 + 3, none⟩ (.bool x.fin)) base (.slice (some ⟨g, 0, none⟩) m cap) (l.set k x) := by
  have hz : l[k]? = some l[k] := List.getElem?_eq_getElem hk
  have h1 := h.set (x' := ⟨x.who, (l[k]).node, (l[k]).val, (l[k]).fin⟩) (u := .int .i64 x.who) (fun _ => rfl) hz rfl (j := 0) (by omega) (q := k * 4) (by omega)
  have h2 := h1.set (x := ⟨x.who, (l[k]).node, (l[k]).val, (l[k]).fin⟩) (x' := ⟨x.who, x.node, (l[k]).val, (l[k]).fin⟩) (u := .int .i64 x.node) (fun _ => rfl) (List.getElem?_set_self hk) rfl (j := 1) (by omega) (q := k * 4 + 1) (by omega)
  have h3 := h2.set (x := ⟨x.who, x.node, (l[k]).val, (l[k]).fin⟩) (x' := ⟨x.who, x.node, x.val, (l[k]).fin⟩) (u := .int .i64 x.val) (fun _ => rfl) (by rw [List.set_set]; exact List.getElem?_set_self hk) rfl (j := 2) (by omega) (q := k * 4 + 2) (by omega)
  have h4 := h3.set (x := ⟨x.who, x.node, x.val, (l[k]).fin⟩) (x' := x) (u := .bool x.fin) (fun _ => rfl) (by rw [List.set_set, List.set_set]; exact List.getElem?_set_self hk) rfl (j := 3) (by omega) (q := k * 4 + 3) (by omega)
  rw [List.set_set, List.set_set, List.set_set] at h4
  exact h4
theorem szRecordS_t (A : Option Addr) (n c : Nat) (left : Int) (w : World) (h0 : 0 ≤ left) (h1 : left ≤ 1048576) (h63 : n ≤ 9223372036854775807) :
    Calls Try.prog 5 #[.slice A n c, .int .i64 left] w fun e w' => e = .returned (.int .i64 (if left - (n : Int) < 0 then -1 else left - (n : Int))) ∧ Below w.heap.size w w' := by
  by_cases hn : left - (n : Int) < 0
  · rw [if_pos hn]
    go_enter Try.func5, Try.ntmps5
    go_wp2_with fail
    go_ret
    exact ⟨rfl, Below.refl _ _⟩
  · rw [if_neg hn]
    go_enter Try.func5, Try.ntmps5
    go_wp2_with fail
    go_ret
    exact ⟨rfl, Below.refl _ _⟩
theorem toRecord_t (x : Rc) (w : World) :
    Calls Try.prog 16 #[.agg #[.int .i64 x.who, .int .i64 x.node, .int .i64 x.val, .bool x.fin]] w fun e w' => e = .returned (.agg #[.int .i64 x.who, .int .i64 x.node, .int .i64 x.val, .bool x.fin]) ∧ Below w.heap.size w w' := by
  go_enter Try.func16, Try.ntmps16
  go_wp2_with fail
  have hB := blk_alloc (heap_alloc_new (w.alloc (.cells #[.int .i64 x.who, .int .i64 x.node, .int .i64 x.val, .bool x.fin] 43)) (.cells #[.int .i64 x.who, .int .i64 x.node, .int .i64 x.val, .bool x.fin] 41)) (.cells #[.int .i64 x.who, .int .i64 x.node, .int .i64 x.val, .bool x.fin] 41)
  rw [World.size_alloc] at hB
  have r0 := blk_cell hB (i := 0) rfl
  have r1 := blk_cell hB (i := 1) rfl
  have r2 := blk_cell hB (i := 2) rfl
  have r3 := blk_cell hB (i := 3) rfl
  refine bodyPost_ret (v := .agg #[.int .i64 x.who, .int .i64 x.node, .int .i64 x.val, .bool x.fin]) (by simp [results, Try.results16, go_sem, r0, r1, r2, r3]) rfl ⟨rfl, ?_⟩
  exact (((Below.refl w.heap.size w).alloc (Nat.le_refl _) _).alloc (by simp) _).alloc (by simp; omega) _
theorem eqRecord_t (x : Rc) (w : World) :
    Calls Try.prog 20 #[.agg #[.int .i64 x.who, .int .i64 x.node, .int .i64 x.val, .bool x.fin], .agg #[.int .i64 x.who, .int .i64 x.node, .int .i64 x.val, .bool x.fin]] w fun e w' => e = .returned (.bool true) ∧ Below w.heap.size w w' := by
  go_enter Try.func20, Try.ntmps20
  go_wp2_with fail
  go_ret
  exact ⟨rfl, ((Below.refl _ _).alloc (Nat.le_refl _) _).alloc (by simp) _⟩
theorem mkRecs (n : Nat) (hn : n ≤ 1048576) (W : World) : (Instr.makeSlice 29 (.int .i64 (n : Int)) (.int .i64 (n : Int))).run Try.prog W =
    .ok (.slice (some ⟨W.heap.size, 0, none⟩) n n) (W.alloc (.cells (madeCells #[.int .i64 0, .int .i64 0, .int .i64 0, .bool false] (n * 4)) 41)) :=
  make_at (z := .agg #[.int .i64 0, .int .i64 0, .int .i64 0, .bool false]) (bytes := 32) Try.underlying29 (by kernel_rfl) (by omega) n hn W
set_option maxHeartbeats 1000000 in
theorem toRecordS_t (lo : Nat) (A : Option Addr) (n c : Nat) (t : List Rc) (w : World) (hr : Rd cR 4 w lo A n t) (hn : n ≤ 1048576) :
    Calls Try.prog 8 #[.slice A n c] w fun e w' => e = .returned (.slice (some ⟨w.heap.size, 0, none⟩) n n) ∧ Own cR 4 41 w' w.heap.size (.slice (some ⟨w.heap.size, 0, none⟩) n n) t ∧ Below w.heap.size w w' := by
  have HL := Lib.hid hr.len
  have HMK := mkRecs n hn
  have hO := Own.made (cs := cR) (e := 41) (z := #[.int .i64 0, .int .i64 0, .int .i64 0, .bool false]) (x0 := ⟨0, 0, 0, false⟩) rfl (fun _ => rfl) (by omega : 0 < 4) n (by omega) w
  have hnI : (n : Int) ≤ 1048576 := by omega
  go_enter Try.func8, Try.ntmps8
  go_wp2_with fail
  go_loopw [4] (fun i wr => ∃ k : Nat, k ≤ n ∧ i = .int .i64 k ∧ Own cR 4 41 wr w.heap.size (.slice (some ⟨w.heap.size, 0, none⟩) n n) (fillF ⟨0, 0, 0, false⟩ t k) ∧ Below w.heap.size w wr) (fun i _ => n - (intOf i).toNat)
  case atStart => exact ⟨0, Nat.zero_le _, rfl, by rw [fillF_zero, HL.out]; exact hO, (Below.refl _ _).alloc (Nat.le_refl _) _⟩
  case round =>
    rename World => W1
    obtain ⟨k, hk, rfl, ho, hbl⟩ := hrel
    have hs := hbl.size
    by_cases hlt : k < n
    case neg =>
      obtain rfl : k = t.length := by have := HL.out; omega
      rw [fillF_all] at ho
      have HO := Lib.hid ho
      clear ho
      go_wp2_with fail
      go_ret
      exact ⟨rfl, HO.out, hbl⟩
    obtain ⟨b, o, x, rfl, _, hb, hx, g0, g1, g2, g3⟩ := (hr.below hbl).atR hlt
    have hkt : k < t.length := by have := HL.out; omega
    have HT := Lib.hid (toRecord_t x W1)
    have HFS := Lib.hid (fillF_set (⟨0, 0, 0, false⟩ : Rc) hx)
    have HFL : Hid (k < (fillF (⟨0, 0, 0, false⟩ : Rc) t k).length) := by show _ < _; rw [fillF_len _ _ (by omega)]; exact hkt
    have hkI : (k : Int) < (n : Int) := by omega
    have HO := Lib.hid ho
    clear hx ho
    go_wp2_with fail
    refine HT.out.mono ?_
    rintro e w3 ⟨rfl, hb3⟩
    have ho3 := HO.out.below hb3
    have hbN := bel_nx hbl hb3
    obtain ⟨_, hrd⟩ := ho3.rds (fun _ => rfl) (by rw [fillF_len _ _ (by omega)]; have := HL.out; omega)
    obtain ⟨bz, oz, z, ez, _, hbz, _, z0, z1, z2, z3⟩ := hrd.atR hlt
    simp only [Option.some.injEq, Addr.mk.injEq, and_true] at ez
    obtain ⟨rfl, rfl⟩ := ez
    simp only [Nat.zero_add] at z0 z1 z2 z3
    have zf := ho3.free
    have HP := Lib.hid (ho3.putR HFL.out x)
    have HBN := Lib.hid hbN
    clear hrd ho3
    go_wp2_with fail
    go_roundw
    case rel => exact ⟨k + 1, by omega, by go_num, by rw [← HFS.out]; exact HP.out, (((HBN.out.setCell (p := ⟨w.heap.size, k * 4, none⟩) (Nat.le_refl _) _).setCell (p := ⟨w.heap.size, k * 4 + 1, none⟩) (Nat.le_refl _) _).setCell (p := ⟨w.heap.size, k * 4 + 2, none⟩) (Nat.le_refl _) _).setCell (p := ⟨w.heap.size, k * 4 + 3, none⟩) (Nat.le_refl _) _⟩
    case measure => simp [intOf]; omega
theorem eqRecordS_t (lo lo2 : Nat) (A A2 : Option Addr) (n c n2 c2 : Nat) (l : List Rc) (w : World) (hr : Rd cR 4 w lo A n l) (hr2 : Rd cR 4 w lo2 A2 n2 l) :
    Calls Try.prog 11 #[.slice A n c, .slice A2 n2 c2] w fun e w' => e = .returned (.bool true) ∧ Below w.heap.size w w' := by
  have hn := hr.le
  obtain rfl : n2 = n := hr2.len.symm.trans hr.len
  go_enter Try.func11, Try.ntmps11
  go_wp2_with fail
  go_loopw [5] (fun i wr => ∃ k : Nat, k ≤ n2 ∧ i = .int .i64 k ∧ Below w.heap.size w wr) (fun i _ => n2 - (intOf i).toNat)
  case atStart => exact ⟨0, Nat.zero_le _, rfl, Below.refl _ _⟩
  case round =>
    rename World => W1
    obtain ⟨k, hk, rfl, hbl⟩ := hrel
    by_cases hlt : k < n2
    case neg =>
      go_wp2_with fail
      go_ret
      exact ⟨rfl, hbl⟩
    obtain ⟨b, o, x, rfl, _, hb, hx, g0, g1, g2, g3⟩ := (hr.below hbl).atR hlt
    obtain ⟨b2, o2, y, rfl, _, hb2, hy, d0, d1, d2, d3⟩ := (hr2.below hbl).atR hlt
    rw [hx] at hy
    injection hy with hy
    subst hy
    have a0 := aft g0
    have a1 := aft g1
    have a2 := aft g2
    have a3 := aft g3
    have b0 := aft d0
    have b1 := aft d1
    have b2' := aft d2
    have b3 := aft d3
    have HE := Lib.hid (fun w' => eqRecord_t x w')
    clear hx hr hr2
    go_wp2_with fail
    refine wp_region_after (by kernel_rfl) (by kernel_rfl) ?_
    repeat (go_big_quiet_step ((go_at_call 20; with_reducible exact aft_call (HE.out _))))
    refine wpQuiet_nil ?_
    intro w1 hb1
    go_wp2_with fail
    go_roundw
    case rel => exact ⟨k + 1, by omega, by go_num, bel_nx hbl hb1⟩
    case measure => simp [intOf]; omega
end Go.Proofs.Ytgmgmnigcikebaa
