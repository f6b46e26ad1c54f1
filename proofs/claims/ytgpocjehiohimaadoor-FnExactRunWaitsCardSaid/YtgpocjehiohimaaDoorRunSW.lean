/- The walks over the reference's runs: FreeLocks, start, pick. -/
import Derived.Test.YtgpocjehiohimaaDoorRunW
import Derived.Test.YtgpocjehiohimaaDoorGrainS
import Derived.Test.YtgpocjehiohimaaDoorTabS2
import Derived.Deep.RegionLaw
namespace Go.Proofs.YtgpocjehiohimaaDoor
open Go.RowKit

theorem bel_next {w w1 w2 : World} (h : Below w.heap.size w w1) (hb : Below w1.heap.size w1 w2) : Below w.heap.size w w2 := h.trans (hb.mono h.size)
theorem bel_alloc {w w1 : World} (h : Below w.heap.size w w1) (o : Obj) : Below w.heap.size w (w1.alloc o) := h.alloc h.size o
theorem bel_drew {w w1 : World} (h : Below w.heap.size w w1) : Below w.heap.size w w1.drew := h.drew
theorem rd_empty {α : Type} {cs : α → List Value} {sz : Nat} (w : World) (lo : Nat) (A : Option Addr) : Rd cs sz w lo A 0 ([] : List α) := ⟨rfl, by omega, fun h => absurd h (by omega)⟩

set_option maxHeartbeats 1000000 in
theorem FreeLocksS_t (lo : Nat) (A : Option Addr) (n c : Nat) (l : List Lk) (who : Int) (w : World) (hr : Rd cL 3 w lo A n l) (h : VTb l) :
    Calls Tryd.prog 77 #[.slice A n c, .int .i64 who] w (LksP w (freeF l who)) := by
  have hn48 : n ≤ 48 := by have := h.1; rw [hr.len] at this; exact this
  have HL := Lib.hid hr.len
  have hbA := (Below.refl w.heap.size w).alloc (Nat.le_refl _) (.cells #[] 67)
  have hoE := Own.empty (cs := cL) (sz := 3) (e := 67) w elL.len
  have HC := Lib.hid (validTable_t lo A n c l (w.alloc (.cells #[] 67)) (hr.alloc _) h)
  clear h
  go_enter Tryd.func77, Tryd.ntmps77
  go_wp2_with fail
  refine HC.out.mono ?_
  rintro e w1 ⟨rfl, hb1⟩
  go_wp2_with fail
  go_loopw [5, 6] (fun v i wr => ∃ k : Nat, k ≤ n ∧ i = .int .i64 k ∧ Below w.heap.size w wr ∧ Own cL 3 67 wr w.heap.size v (freeF (l.take k) who)) (fun _ i _ => n - (intOf i).toNat)
  case atStart => exact ⟨0, Nat.zero_le _, rfl, hbA.trans (hb1.mono hbA.size), hoE.below hb1⟩
  case round =>
    rename World => W1
    obtain ⟨k, hk, rfl, hbl, ho⟩ := hrel
    have hs := hbl.size
    by_cases hlt : k < n
    case neg =>
      rw [List.take_of_length_le (by have := HL.out; omega)] at ho
      go_wp2_with fail
      go_ret
      exact ⟨_, rfl, ho, hbl⟩
    obtain ⟨b, o, x, rfl, _, hb, hx, g0, g1, g2⟩ := (hr.below hbl).atL hlt
    have HS := freeF_step (who := who) hx
    have hfl : (freeF (l.take k) who).length ≤ 48 := by
      unfold freeF
      refine Nat.le_trans (List.length_filter_le _ _) ?_
      rw [List.length_take]; omega
    obtain ⟨xw, xn, xm⟩ := x
    simp only at HS g0 g1 g2
    clear hx
    by_cases e1 : xw = who
    · rw [if_pos e1, List.append_nil] at HS
      have HSS := Lib.hid HS
      subst e1
      clear HS
      go_wp2_with fail
      go_roundw
      case rel => exact ⟨k + 1, by omega, by go_num, hbl, by rw [HSS.out]; exact ho⟩
      case measure => simp [intOf]; omega
    · rw [if_neg e1] at HS
      have HSS := Lib.hid HS
      have e2 : (xw != who) = true := by simpa using e1
      clear HS e1
      go_wp2_with (at_builtin; refine wpList_append_rd elL _ rfl (.tmp 24) (.tmp 29) rfl rfl (ho.alloc _) rfl (Rd_one W1 #[.int .i64 xw, .int .i64 xn, .int .i64 xm] 67 ⟨xw, xn, xm⟩ rfl) (by omega) (by simp; omega) ?_; intro v5 w5 ho5 hg5 _)
      have hb5 := below_own (hbl.alloc hs _) (ho.alloc (.cells #[.int .i64 xw, .int .i64 xn, .int .i64 xm] 67)) hg5 (Nat.le_refl _) (by simp; omega)
      go_roundw
      case rel => exact ⟨k + 1, by omega, by go_num, hb5, by rw [HSS.out]; exact ho5⟩
      case measure => simp [intOf]; omega
theorem lay6 (W : World) (o0 o1 o2 o3 o4 o5 : Obj) : ((((((W.alloc o0).alloc o1).alloc o2).alloc o3).alloc o4).alloc o5).heap[W.heap.size]? = some o0 ∧ ((((((W.alloc o0).alloc o1).alloc o2).alloc o3).alloc o4).alloc o5).heap[W.heap.size + 1 + 1 + 1]? = some o3 ∧
    ((((((W.alloc o0).alloc o1).alloc o2).alloc o3).alloc o4).alloc o5).heap[W.heap.size + 1 + 1 + 1 + 1 + 1]? = some o5 ∧ Below W.heap.size W ((((((W.alloc o0).alloc o1).alloc o2).alloc o3).alloc o4).alloc o5) := by
  have h0 := blk_alloc (blk_alloc (blk_alloc (blk_alloc (blk_alloc (heap_alloc_new W o0) o1) o2) o3) o4) o5
  have h3 := blk_alloc (blk_alloc (heap_alloc_new (((W.alloc o0).alloc o1).alloc o2) o3) o4) o5
  have h5 := heap_alloc_new (((((W.alloc o0).alloc o1).alloc o2).alloc o3).alloc o4) o5
  simp only [World.size_alloc] at h3 h5
  exact ⟨h0, h3, h5, bel_alloc (bel_alloc (bel_alloc (bel_alloc (bel_alloc (bel_alloc (Below.refl W.heap.size W) o0) o1) o2) o3) o4) o5⟩
/-- What the reference's start lays, as it is filled. -/
structure StS (w : World) (b k : Nat) (vv : Value) (l : List Int) : Prop where
  r : w.heap[b]? = some (.cells #[.slice none 0 0, .slice none 0 0, .slice none 0 0, .slice none 0 0] 55 (0, 0))
  m : w.heap[b + 1 + 1 + 1 + 1 + 1]? = some (.cells #[vv, .slice (some ⟨b + 1 + 1, 0, none⟩) 0 0, .slice (some ⟨b + 1 + 1 + 1, 0, none⟩) k k, .slice (some ⟨b + 1 + 1 + 1 + 1, 0, none⟩) 0 0] 55 (0, 0))
  p : w.heap[b + 1 + 1 + 1]? = some (.cells (zer k) 3 (0, 0))
  v : Own cI 1 3 w b vv l
  ap : vv.ownBlock ≠ some (b + 1 + 1 + 1)
theorem StS.step {w w8 : World} {b k : Nat} {vv v8 : Value} {l l8 : List Int} (h : StS w b k vv l) (hg : w.grownBy w8 vv.ownBlock) (ho : Own cI 1 3 w8 b v8 l8) (hap : v8.ownBlock = vv.ownBlock ∨ v8.ownBlock = some w.heap.size) : StS (w8.setCell ⟨b + 1 + 1 + 1 + 1 + 1, 0, none⟩ v8) b k v8 l8 := by
  have h1 := blk_keep h.r hg (h.v.ap_blk h.r (by decide))
  have h2 := blk_keep h.m hg (h.v.ap_blk h.m (by decide))
  have h3 := blk_keep h.p hg h.ap
  have l3 := blk_lt h.p
  exact ⟨blk_setne h1 (by omega) _ _, (blk_set h2 0 v8).trans (by rfl), blk_setne h3 (by omega) _ _, ho.keepb h2 (by decide) _ _, by
    rcases hap with e | e
    · rw [e]; exact h.ap
    · rw [e]; intro e'; injection e' with e'; omega⟩
theorem StS.below {w w' : World} {b k : Nat} {vv : Value} {l : List Int} (h : StS w b k vv l) (hb : Below w.heap.size w w') : StS w' b k vv l :=
  ⟨blk_below h.r hb, blk_below h.m hb, blk_below h.p hb, h.v.below hb, h.ap⟩
set_option maxRecDepth 100000 in
set_option maxHeartbeats 3200000 in
theorem start_t (lo lo2 : Nat) (A A2 : Option Addr) (n c n2 c2 : Nat) (t : List Nd) (sc : List (List Dd)) (w : World) (hr : Rd cN 3 w lo A n t) (hr2 : Rds cD 2 w lo2 A2 n2 sc) (hn : n ≤ 1000) (hn2 : n2 ≤ 1000) :
    Calls Tryd.prog 57 #[.slice A n c, .slice A2 n2 c2] w fun e w' => ∃ v1 v2 v3 v4, e = .returned (.agg #[v1, v4, v2, v3]) ∧ MacR w' w.heap.size v1 v2 v3 v4 (startM t sc) ∧ Below w.heap.size w w' := by
  have HL := Lib.hid hr.len
  have HL2 := Lib.hid hr2.len
  have HMK := mk_ints n2 hn2
  go_enter Tryd.func57, Tryd.ntmps57
  go_wp2_with fail
  go_loopw [6] (fun i wr => ∃ (j : Nat) (vv : Value), j ≤ n ∧ i = .int .i64 j ∧ StS wr w.heap.size n2 vv ((t.map Nd.val).take j) ∧ Below w.heap.size w wr) (fun i _ => n - (intOf i).toNat)
  case atStart =>
    obtain ⟨h0, h3, h5, hb⟩ := lay6 w (.cells #[.slice none 0 0, .slice none 0 0, .slice none 0 0, .slice none 0 0] 55) (.cells #[] 3) (.cells #[] 67) (.cells (zer n2) 3) (.cells #[] 3) (.cells #[.slice (some ⟨w.heap.size + 1, 0, none⟩) 0 0, .slice (some ⟨w.heap.size + 1 + 1, 0, none⟩) 0 0, .slice (some ⟨w.heap.size + 1 + 1 + 1, 0, none⟩) n2 n2, .slice (some ⟨w.heap.size + 1 + 1 + 1 + 1, 0, none⟩) 0 0] 55)
    have ho := (((((Own.emptyg (cs := cI) (sz := 1) (e := 3) (w.alloc (.cells #[.slice none 0 0, .slice none 0 0, .slice none 0 0, .slice none 0 0] 55)) elI.len (w.heap.size + 1) (by simp)).alloc (.cells #[] 67)).alloc (.cells (zer n2) 3)).alloc (.cells #[] 3)).alloc (.cells #[.slice (some ⟨w.heap.size + 1, 0, none⟩) 0 0, .slice (some ⟨w.heap.size + 1 + 1, 0, none⟩) 0 0, .slice (some ⟨w.heap.size + 1 + 1 + 1, 0, none⟩) n2 n2, .slice (some ⟨w.heap.size + 1 + 1 + 1 + 1, 0, none⟩) 0 0] 55)).low (base' := w.heap.size) (by omega)
    exact ⟨0, _, Nat.zero_le _, rfl, ⟨h0, h5, h3, ho, by simp [Value.ownBlock]⟩, hb⟩
  case round =>
    rename World => W1
    obtain ⟨j, vv, hj, rfl, hS, hbl⟩ := hrel
    have hs := hbl.size
    by_cases hlt : j < n
    case neg =>
      obtain rfl : j = n := by omega
      have hall : (t.map Nd.val).take j = t.map Nd.val := List.take_of_length_le (by rw [List.length_map]; have := HL.out; omega)
      obtain ⟨Bv, kv, dv, rfl, hdv, hrv⟩ := hS.v.rdn elI.len (by rw [List.length_take]; omega)
      have e0 := blk_cell hS.m (i := 0) rfl
      have e1 := blk_cell hS.m (i := 1) rfl
      have e2 := blk_cell hS.m (i := 2) rfl
      have e3 := blk_cell hS.m (i := 3) rfl
      have q0 := blk_cell hS.r (i := 0) rfl
      have q1 := blk_cell hS.r (i := 1) rfl
      have q2 := blk_cell hS.r (i := 2) rfl
      have q3 := blk_cell hS.r (i := 3) rfl
      have qf := blk_free hS.r
      have hP : W1.heap[w.heap.size + 1 + 1 + 1]? = some (.cells (iA (List.replicate n2 0)) 3 (0, 0)) := by rw [hS.p]; unfold zer; rw [iA_zero]
      have HMAC : Hid (MacR W1 (w.heap.size + 1) (.slice Bv kv dv) (.slice (some ⟨w.heap.size + 1 + 1 + 1, 0, none⟩) n2 n2) (.slice (some ⟨w.heap.size + 1 + 1 + 1 + 1, 0, none⟩) 0 0) (.slice (some ⟨w.heap.size + 1 + 1, 0, none⟩) 0 0) (startM t sc) ∨ True) := .inr trivial
      clear HMAC
      have hrp : Rd cI 1 W1 (w.heap.size + 1) (some ⟨w.heap.size + 1 + 1 + 1, 0, none⟩) n2 (List.replicate sc.length 0) := by
        have := rd_iA hP (lo := w.heap.size + 1) (by omega) (by simp; omega)
        rw [List.length_replicate] at this
        rw [HL2.out]; exact this
      rw [hall] at hrv
      have HRV := Lib.hid hrv
      have HRP := Lib.hid hrp
      have hR := Lib.hid hS.r
      have hap0 : Hid ((Value.slice Bv kv dv).ownBlock ≠ some w.heap.size) := hS.v.ap_blk hS.r (by decide)
      have HOV := Lib.hid hS.v
      clear hS hP hrp hrv
      go_wp2_with fail
      have E0 := blk_set (blk_set (blk_set (blk_set hR.out 0 (.slice Bv kv dv)) 1 (.slice (some ⟨w.heap.size + 1 + 1, 0, none⟩) 0 0)) 2 (.slice (some ⟨w.heap.size + 1 + 1 + 1, 0, none⟩) n2 n2)) 3 (.slice (some ⟨w.heap.size + 1 + 1 + 1 + 1, 0, none⟩) 0 0)
      have r0 := blk_cell E0 (i := 0) rfl
      have r1 := blk_cell E0 (i := 1) rfl
      have r2 := blk_cell E0 (i := 2) rfl
      have r3 := blk_cell E0 (i := 3) rfl
      refine bodyPost_ret (v := .agg #[.slice Bv kv dv, .slice (some ⟨w.heap.size + 1 + 1, 0, none⟩) 0 0, .slice (some ⟨w.heap.size + 1 + 1 + 1, 0, none⟩) n2 n2, .slice (some ⟨w.heap.size + 1 + 1 + 1 + 1, 0, none⟩) 0 0]) (by simp [results, Tryd.results57, go_sem, r0, r1, r2, r3]) rfl ?_
      refine ⟨_, _, _, _, rfl, ⟨⟨_, _, _, rfl, hdv, ?_⟩, ⟨_, _, _, rfl, Nat.le_refl _, ?_⟩, ⟨_, _, _, rfl, Nat.le_refl _, rd_empty _ _ _⟩, ⟨_, _, _, rfl, Nat.le_refl _, rd_empty _ _ _⟩⟩, ?_⟩
      · have h4 := ((((HOV.out.keepc hap0.out 0 (.slice Bv kv dv)).keepc hap0.out 1 (.slice (some ⟨w.heap.size + 1 + 1, 0, none⟩) 0 0)).keepc hap0.out 2 (.slice (some ⟨w.heap.size + 1 + 1 + 1, 0, none⟩) n2 n2)).keepc hap0.out 3 (.slice (some ⟨w.heap.size + 1 + 1 + 1 + 1, 0, none⟩) 0 0)).rds elI.len (by rw [List.length_take]; omega)
        have h5 := h4.2
        rw [hall] at h5
        exact h5
      · refine (HRP.out.keep (by simp) fun b hb1 hb2 => ?_).low (by omega)
        rw [Below.heap_setCell _ _ _ _ (by show b ≠ w.heap.size; omega), Below.heap_setCell _ _ _ _ (by show b ≠ w.heap.size; omega), Below.heap_setCell _ _ _ _ (by show b ≠ w.heap.size; omega), Below.heap_setCell _ _ _ _ (by show b ≠ w.heap.size; omega)]
      · exact ((((hbl.setCell (p := ⟨w.heap.size, 0, none⟩) (Nat.le_refl _) _).setCell (p := ⟨w.heap.size, 1, none⟩) (Nat.le_refl _) _).setCell (p := ⟨w.heap.size, 2, none⟩) (Nat.le_refl _) _).setCell (p := ⟨w.heap.size, 3, none⟩) (Nat.le_refl _) _)
    obtain ⟨b, o, x, rfl, _, hb, hx, p0, p1, p2⟩ := (hr.below hbl).atN hlt
    have HTS : Hid ((t.map Nd.val).take (j + 1) = (t.map Nd.val).take j ++ [x.val]) := take_snoc (by rw [List.getElem?_map, hx]; rfl)
    have hlj : ((t.map Nd.val).take j).length ≤ 1000 := by rw [List.length_take]; omega
    have hSA : StS (W1.alloc (.cells #[.int .i64 x.val] 3)).drew w.heap.size n2 vv ((t.map Nd.val).take j) := hS.below ((Below.refl W1.heap.size W1).alloc (Nat.le_refl _) (.cells #[.int .i64 x.val] 3)).drew
    have hrA : Rd cI 1 (W1.alloc (.cells #[.int .i64 x.val] 3)).drew W1.heap.size (some ⟨W1.heap.size, 0, none⟩) 1 [x.val] := (Rd_one W1 #[.int .i64 x.val] 3 x.val rfl).drew
    have hbA := (hbl.alloc hs (.cells #[.int .i64 x.val] 3)).drew
    have e0 := blk_cell hS.m (i := 0) rfl
    have e0A := blk_cell hSA.m (i := 0) rfl
    have hbs : w.heap.size ≤ (W1.alloc (.cells #[.int .i64 x.val] 3)).drew.heap.size := hbA.size
    have HSA := Lib.hid hSA
    have HBA := Lib.hid hbA
    clear hx hS
    go_wp2_with fail
    (go_region_law ((refine step_append_rd elI _ rfl (.tmp 21) (.tmp 27) rfl rfl hSA.v rfl hrA (by omega) hbs ?_; intro v8 w8 ho8 hg8 hap8; obtain ⟨g8, m8, c8, rfl, -, -, -, -⟩ := id (ho8.form (by simp)); have hS8 := HSA.out.step hg8 ho8 hap8; have hb8 := below_own HBA.out HSA.out.v hg8 (Nat.le_refl _) hbs; have k0 := blk_cell (blk_keep HSA.out.m hg8 (HSA.out.v.ap_blk HSA.out.m (by decide))) (i := 0) rfl; have k1 := blk_free (blk_keep HSA.out.m hg8 (HSA.out.v.ap_blk HSA.out.m (by decide))) 0)))
    all_goals (
      go_wp2_with fail
      go_roundw
      case rel => exact ⟨j + 1, _, by omega, by go_num, by rw [HTS.out]; exact hS8, hb8.setCell (p := ⟨w.heap.size + 1 + 1 + 1 + 1 + 1, 0, none⟩) (show w.heap.size ≤ w.heap.size + 1 + 1 + 1 + 1 + 1 by omega) _⟩
      case measure => simp [intOf]; omega)
end Go.Proofs.YtgpocjehiohimaaDoor
