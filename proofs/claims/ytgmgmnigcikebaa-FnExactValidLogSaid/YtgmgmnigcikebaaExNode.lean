/- The walks over what the exact laws do with nodes: szNode, szNodeS, toNode, toNodeS, eqNode, eqNodeS. -/
import Derived.Test.YtgmgmnigcikebaaExP
import Derived.Test.YtgmgmnigcikebaaElems
namespace Go.Proofs.Ytgmgmnigcikebaa
open Go.RowKit

theorem bel_nx {w w1 w2 : World} (h : Below w.heap.size w w1) (hb : Below w1.heap.size w1 w2) : Below w.heap.size w w2 := h.trans (hb.mono h.size)
theorem Own.putN {e : TypeId} {w : World} {base g m cap k : Nat} {l : List Nd} (h : Own cN 3 e w base (.slice (some ⟨g, 0, none⟩) m cap) l) (hk : k < l.length) (x : Nd) :
    Own cN 3 e (((w.setCell ⟨g, k * 3, none⟩ (.int .i64 x.par)).setCell ⟨g, k * 3 + 1, none⟩ (.string x.name)).setCell ⟨g, k * 3 + 2, none⟩ (.int .i64 x.val)) base (.slice (some ⟨g, 0, none⟩) m cap) (l.set k x) := by
  have hz : l[k]? = some l[k] := List.getElem?_eq_getElem hk
  have h1 := h.set (x' := ⟨x.par, (l[k]).name, (l[k]).val⟩) (u := .int .i64 x.par) (fun _ => rfl) hz rfl (j := 0) (by omega) (q := k * 3) (by omega)
  have h2 := h1.set (x := ⟨x.par, (l[k]).name, (l[k]).val⟩) (x' := ⟨x.par, x.name, (l[k]).val⟩) (u := .string x.name) (fun _ => rfl) (List.getElem?_set_self hk) rfl (j := 1) (by omega) (q := k * 3 + 1) (by omega)
  have h3 := h2.set (x := ⟨x.par, x.name, (l[k]).val⟩) (x' := x) (u := .int .i64 x.val) (fun _ => rfl) (by rw [List.set_set]; exact List.getElem?_set_self hk) rfl (j := 2) (by omega) (q := k * 3 + 2) (by omega)
  rw [List.set_set, List.set_set] at h3
  exact h3
theorem szNode_t (x : Nd) (left : Int) (w : World) (h0 : 0 ≤ left) (h1 : left ≤ 1048576) (hm : x.name.size ≤ 9223372036854775807) :
    Calls Try.prog 12 #[.agg #[.int .i64 x.par, .string x.name, .int .i64 x.val], .int .i64 left] w fun e w' => e = .returned (.int .i64 (if left - (x.name.size : Int) < 0 then -1 else left - (x.name.size : Int))) ∧ Below w.heap.size w w' := by
  have hm' : (x.name.size : Int) ≤ 9223372036854775807 := by omega
  by_cases hn : left - (x.name.size : Int) < 0
  · rw [if_pos hn]
    go_enter Try.func12, Try.ntmps12
    go_wp2_with fail
    go_ret
    exact ⟨rfl, (Below.refl _ _).alloc (Nat.le_refl _) _⟩
  · rw [if_neg hn]
    go_enter Try.func12, Try.ntmps12
    go_wp2_with fail
    go_ret
    exact ⟨rfl, (Below.refl _ _).alloc (Nat.le_refl _) _⟩
/-- Too many for the size that is left. -/
theorem szNodeS_big (A : Option Addr) (n c : Nat) (left : Int) (w : World) (h0 : 0 ≤ left) (h1 : left ≤ 1048576) (hn : left < n) (h63 : n ≤ 9223372036854775807) :
    Calls Try.prog 4 #[.slice A n c, .int .i64 left] w fun e w' => e = .returned (.int .i64 (-1)) ∧ Below w.heap.size w w' := by
  have hn' : left - (n : Int) < 0 := by omega
  go_enter Try.func4, Try.ntmps4
  go_wp2_with fail
  go_ret
  exact ⟨rfl, Below.refl _ _⟩
theorem szNodeS_t (lo : Nat) (A : Option Addr) (n c : Nat) (t : List Nd) (left : Int) (w : World) (hr : Rd cN 3 w lo A n t) (hm : NmM t) (h0 : 0 ≤ left) (h1 : left ≤ 1048576) (hn : (n : Int) ≤ left) :
    Calls Try.prog 4 #[.slice A n c, .int .i64 left] w fun e w' => e = .returned (.int .i64 (szF t (left - n))) ∧ Below w.heap.size w w' := by
  have hn' : ¬ left - (n : Int) < 0 := by omega
  have HL := Lib.hid hr.len
  obtain ⟨R, hR⟩ : ∃ R, R = szF t (left - n) := ⟨_, rfl⟩
  rw [← hR]
  have HR := Lib.hid hR
  clear hR
  go_enter Try.func4, Try.ntmps4
  go_wp2_with fail
  go_loopw [1, 5] (fun v i wr => ∃ (k : Nat) (l' : Int), k ≤ n ∧ i = .int .i64 k ∧ v = .int .i64 l' ∧ 0 ≤ l' ∧ l' ≤ 1048576 ∧ R = szF (t.drop k) l' ∧ Below w.heap.size w wr) (fun _ i _ => n - (intOf i).toNat)
  case atStart => exact ⟨0, left - n, Nat.zero_le _, rfl, rfl, by omega, by omega, HR.out, Below.refl _ _⟩
  case round =>
    rename World => W1
    obtain ⟨k, l', hk, rfl, rfl, hl0, hl1, hF, hbl⟩ := hrel
    by_cases hlt : k < n
    case neg =>
      have hd : t.drop k = [] := List.drop_eq_nil_of_le (by have := HL.out; omega)
      rw [hd] at hF
      have HF : Hid (R = l') := hF
      clear hF hd
      go_wp2_with fail
      go_ret
      exact ⟨ret_int HF.out.symm, hbl⟩
    obtain ⟨b, o, x, rfl, _, hb, hx, g0, g1, g2⟩ := (hr.below hbl).atN hlt
    have hxm := hm x (List.mem_of_getElem? hx)
    rw [szF_step hx] at hF
    have HSZ := Lib.hid (szNode_t x l' W1 hl0 hl1 hxm)
    obtain ⟨z, hz⟩ : ∃ z : Int, z = l' - (x.name.size : Int) := ⟨_, rfl⟩
    rw [← hz] at hF HSZ
    have hz1 : z ≤ l' := by omega
    clear hx hz
    by_cases hneg : z < 0
    · rw [if_pos hneg] at hF HSZ
      have HF := Lib.hid hF
      clear hF
      go_wp2_with fail
      refine HSZ.out.mono ?_
      rintro e w3 ⟨rfl, hb3⟩
      go_wp2_with fail
      go_ret
      exact ⟨ret_int HF.out.symm, bel_nx hbl hb3⟩
    · rw [if_neg hneg] at hF HSZ
      have HF := Lib.hid hF
      have hz0 : 0 ≤ z := by omega
      clear hF
      go_wp2_with fail
      refine HSZ.out.mono ?_
      rintro e w3 ⟨rfl, hb3⟩
      have hbN := bel_nx hbl hb3
      go_wp2_with fail
      go_roundw
      case rel => exact ⟨k + 1, z, by omega, by go_num, rfl, hz0, by omega, HF.out, hbN⟩
      case measure => simp [intOf]; omega
theorem toNode_t (x : Nd) (w : World) :
    Calls Try.prog 15 #[.agg #[.int .i64 x.par, .string x.name, .int .i64 x.val]] w fun e w' => e = .returned (.agg #[.int .i64 x.par, .string x.name, .int .i64 x.val]) ∧ Below w.heap.size w w' := by
  go_enter Try.func15, Try.ntmps15
  go_wp2_with fail
  have hB := blk_alloc (heap_alloc_new (w.alloc (.cells #[.int .i64 x.par, .string x.name, .int .i64 x.val] 36)) (.cells #[.int .i64 x.par, .string x.name, .int .i64 x.val] 38)) (.cells #[.int .i64 x.par, .string x.name, .int .i64 x.val] 38)
  rw [World.size_alloc] at hB
  have r0 := blk_cell hB (i := 0) rfl
  have r1 := blk_cell hB (i := 1) rfl
  have r2 := blk_cell hB (i := 2) rfl
  refine bodyPost_ret (v := .agg #[.int .i64 x.par, .string x.name, .int .i64 x.val]) (by simp [results, Try.results15, go_sem, r0, r1, r2]) rfl ⟨rfl, ?_⟩
  exact (((Below.refl w.heap.size w).alloc (Nat.le_refl _) _).alloc (by simp) _).alloc (by simp; omega) _
theorem eqNode_t (x : Nd) (w : World) :
    Calls Try.prog 19 #[.agg #[.int .i64 x.par, .string x.name, .int .i64 x.val], .agg #[.int .i64 x.par, .string x.name, .int .i64 x.val]] w fun e w' => e = .returned (.bool true) ∧ Below w.heap.size w w' := by
  go_enter Try.func19, Try.ntmps19
  go_wp2_with fail
  go_ret
  exact ⟨rfl, ((Below.refl _ _).alloc (Nat.le_refl _) _).alloc (by simp) _⟩
theorem mkNodes (n : Nat) (hn : n ≤ 1048576) (W : World) : (Instr.makeSlice 27 (.int .i64 (n : Int)) (.int .i64 (n : Int))).run Try.prog W =
    .ok (.slice (some ⟨W.heap.size, 0, none⟩) n n) (W.alloc (.cells (madeCells #[.int .i64 0, .string ⟨#[]⟩, .int .i64 0] (n * 3)) 38)) :=
  make_at (z := .agg #[.int .i64 0, .string ⟨#[]⟩, .int .i64 0]) (bytes := 32) Try.underlying27 (by kernel_rfl) (by omega) n hn W
set_option maxHeartbeats 1000000 in
theorem toNodeS_t (lo : Nat) (A : Option Addr) (n c : Nat) (t : List Nd) (w : World) (hr : Rd cN 3 w lo A n t) (hn : n ≤ 1048576) :
    Calls Try.prog 7 #[.slice A n c] w fun e w' => e = .returned (.slice (some ⟨w.heap.size, 0, none⟩) n n) ∧ Own cN 3 38 w' w.heap.size (.slice (some ⟨w.heap.size, 0, none⟩) n n) t ∧ Below w.heap.size w w' := by
  have HL := Lib.hid hr.len
  have HMK := mkNodes n hn
  have hO := Own.made (cs := cN) (e := 38) (z := #[.int .i64 0, .string ⟨#[]⟩, .int .i64 0]) (x0 := ⟨0, ⟨#[]⟩, 0⟩) rfl (fun _ => rfl) (by omega : 0 < 3) n (by omega) w
  have hnI : (n : Int) ≤ 1048576 := by omega
  go_enter Try.func7, Try.ntmps7
  go_wp2_with fail
  go_loopw [4] (fun i wr => ∃ k : Nat, k ≤ n ∧ i = .int .i64 k ∧ Own cN 3 38 wr w.heap.size (.slice (some ⟨w.heap.size, 0, none⟩) n n) (fillF ⟨0, ⟨#[]⟩, 0⟩ t k) ∧ Below w.heap.size w wr) (fun i _ => n - (intOf i).toNat)
  case atStart => exact ⟨0, Nat.zero_le _, rfl, by rw [fillF_zero, HL.out]; exact hO, (Below.refl _ _).alloc (Nat.le_refl _) _⟩
  case round =>
    rename World => W1
    obtain ⟨k, hk, rfl, ho, hbl⟩ := hrel
    have hs := hbl.size
    by_cases hlt : k < n
    case neg =>
      obtain rfl : k = t.length := by have := HL.out; omega
      rw [fillF_all] at ho
      have HO := Lib.hid ho
      clear ho
      go_wp2_with fail
      go_ret
      exact ⟨rfl, HO.out, hbl⟩
    obtain ⟨b, o, x, rfl, _, hb, hx, g0, g1, g2⟩ := (hr.below hbl).atN hlt
    have hkt : k < t.length := by have := HL.out; omega
    have HT := Lib.hid (toNode_t x W1)
    have HFS := Lib.hid (fillF_set (⟨0, ⟨#[]⟩, 0⟩ : Nd) hx)
    have HFL : Hid (k < (fillF (⟨0, ⟨#[]⟩, 0⟩ : Nd) t k).length) := by show _ < _; rw [fillF_len _ _ (by omega)]; exact hkt
    have hkI : (k : Int) < (n : Int) := by omega
    have HO := Lib.hid ho
    clear hx ho
    go_wp2_with fail
    refine HT.out.mono ?_
    rintro e w3 ⟨rfl, hb3⟩
    have ho3 := HO.out.below hb3
    have hbN := bel_nx hbl hb3
    obtain ⟨_, hrd⟩ := ho3.rds (fun _ => rfl) (by rw [fillF_len _ _ (by omega)]; have := HL.out; omega)
    obtain ⟨bz, oz, z, ez, _, hbz, _, z0, z1, z2⟩ := hrd.atN hlt
    simp only [Option.some.injEq, Addr.mk.injEq, and_true] at ez
    obtain ⟨rfl, rfl⟩ := ez
    simp only [Nat.zero_add] at z0 z1 z2
    have zf := ho3.free
    have HP := Lib.hid (ho3.putN HFL.out x)
    have HBN := Lib.hid hbN
    clear hrd ho3
    go_wp2_with fail
    go_roundw
    case rel => exact ⟨k + 1, by omega, by go_num, by rw [← HFS.out]; exact HP.out, ((HBN.out.setCell (p := ⟨w.heap.size, k * 3, none⟩) (Nat.le_refl _) _).setCell (p := ⟨w.heap.size, k * 3 + 1, none⟩) (Nat.le_refl _) _).setCell (p := ⟨w.heap.size, k * 3 + 2, none⟩) (Nat.le_refl _) _⟩
    case measure => simp [intOf]; omega
theorem eqNodeS_t (lo lo2 : Nat) (A A2 : Option Addr) (n c n2 c2 : Nat) (l : List Nd) (w : World) (hr : Rd cN 3 w lo A n l) (hr2 : Rd cN 3 w lo2 A2 n2 l) :
    Calls Try.prog 10 #[.slice A n c, .slice A2 n2 c2] w fun e w' => e = .returned (.bool true) ∧ Below w.heap.size w w' := by
  have hn := hr.le
  obtain rfl : n2 = n := hr2.len.symm.trans hr.len
  go_enter Try.func10, Try.ntmps10
  go_wp2_with fail
  go_loopw [5] (fun i wr => ∃ k : Nat, k ≤ n2 ∧ i = .int .i64 k ∧ Below w.heap.size w wr) (fun i _ => n2 - (intOf i).toNat)
  case atStart => exact ⟨0, Nat.zero_le _, rfl, Below.refl _ _⟩
  case round =>
    rename World => W1
    obtain ⟨k, hk, rfl, hbl⟩ := hrel
    by_cases hlt : k < n2
    case neg =>
      go_wp2_with fail
      go_ret
      exact ⟨rfl, hbl⟩
    obtain ⟨b, o, x, rfl, _, hb, hx, g0, g1, g2⟩ := (hr.below hbl).atN hlt
    obtain ⟨b2, o2, y, rfl, _, hb2, hy, d0, d1, d2⟩ := (hr2.below hbl).atN hlt
    rw [hx] at hy
    injection hy with hy
    subst hy
    have a0 := aft g0
    have a1 := aft g1
    have a2 := aft g2
    have b0 := aft d0
    have b1 := aft d1
    have b2' := aft d2
    have HE := Lib.hid (fun w' => eqNode_t x w')
    clear hx hr hr2
    go_wp2_with fail
    refine wp_region_after (by kernel_rfl) (by kernel_rfl) ?_
    repeat (go_big_quiet_step ((go_at_call 19; with_reducible exact aft_call (HE.out _))))
    refine wpQuiet_nil ?_
    intro w1 hb1
    go_wp2_with fail
    go_roundw
    case rel => exact ⟨k + 1, by omega, by go_num, bel_nx hbl hb1⟩
    case measure => simp [intOf]; omega
end Go.Proofs.Ytgmgmnigcikebaa
