/- The walks over alongSteps, DrawAlongFault, DrawGoesAlong, DrawNextAlong. -/
import Derived.Test.YtcefgabdffipgaaDoorPickV
import Derived.Deep.Cut
import Derived.Deep.CutRange
import Derived.Deep.RegionLaw
namespace Go.Proofs.YtcefgabdffipgaaDoor
open Go.RowKit

theorem VS_ofB {list : List St} (h : vsB list = true) : VS list := Classical.byContradiction fun hc => by rw [vsB_f hc] at h; cases h
set_option maxRecDepth 100000 in
set_option maxHeartbeats 25600000 in
theorem alongSteps_any (R p lo : Nat) (A : Option Addr) (n c : Nat) (t : List Nd) (w : World) (hr : Rdr w R p) (hp : p ≤ 500000000) (hrt : Rd cN 3 w lo A n t) (hlo : R < lo) (hc : n ≤ c) (hz : NmB t) (_ : n ≤ 13) :
    Calls Tryd.prog 30 #[.pointer (some ⟨R, 0, none⟩), .slice A n c] w (StepsD w R p 120) := by
  have hRl := hr.lt
  go_enter Tryd.func30, Tryd.ntmps30
  go_wp2_with fail
  refine (one_any R p _ _ 6 6 [8, 12, 5, 16, 3, 0] _ ((hr.alloc _).alloc _) (by omega) (Rd_newIg (w.alloc (.cells #[] 32)) _ _ _ _ (by simp) (by simp) rfl) (by omega) (by omega)).mono ?_
  rintro e w2 ⟨z, rfl, ⟨kz, hkz⟩, hr2, hg2⟩
  have hz0 : 0 ≤ z ∧ z ≤ 16 := by
    have hm := List.mem_of_getElem? hkz
    simp only [List.mem_cons, List.not_mem_nil, or_false] at hm
    omega
  obtain ⟨z0, z16⟩ := hz0
  clear hkz
  have hs2 := hg2.size
  go_wp2_with fail
  go_loopw [5, 6] (fun v i wr => ∃ (l : List St) (y : Int) (q : Nat), i = .int .i64 y ∧ 0 ≤ y ∧ l.length + y ≤ 16 ∧ Own cS 4 32 wr w.heap.size v l ∧ VS l ∧
      (q : Int) + 7 * y ≤ p + 115 ∧ Rdr wr R q ∧ w.grownBy wr (some R)) (fun _ i _ => (intOf i).toNat)
  case atStart =>
    refine ⟨[], z, p + 1, rfl, z0, by simp; omega, ?_, VS_nil, by omega, hr2, ?_⟩
    · exact ((Own.empty (cs := cS) (sz := 4) w elS.len).alloc _).grown hg2 hRl
    · exact grown_trans (grown_of_below (((Below.refl _ _).alloc (Nat.le_refl _) _).alloc (by simp) _)) hg2
  case round =>
    rename World => W1
    obtain ⟨l, y, q, rfl, y0, hly, ho, hvs, hq, hrr, hgg⟩ := hrel
    have hsr := hgg.size
    obtain ⟨A0, m0, c0, rfl, hc0, hr0⟩ := ho.rdn elS.len (by omega)
    obtain rfl : m0 = l.length := hr0.len.symm
    by_cases hy : 0 < y
    case neg =>
      have hy' : y ≤ 0 := by omega
      go_wp2_with fail
      go_ret
      exact ⟨_, l, rfl, ho, by omega, ⟨q, by omega, hrr⟩, hgg⟩
    have HVL := Lib.hid hvs
    clear hvs
    go_wp2_with fail
    refine (pick_any R q 3 _ hrr (by omega) (by omega)).mono ?_
    rintro e w3 ⟨a, rfl, _, _, _, hr3, hg3⟩
    have hG3 := grown_trans hgg hg3
    have ho3 := ho.grown hg3 hRl
    have hrd3 := hr0.grown hg3 hRl
    have hrt3 := hrt.grown hG3 hlo
    have hs3 := hG3.size
    have HNX := Lib.hid (NextAlongS_any _ _ A A0 n c l.length c0 t l a w3 hrt3 hc hz hrd3 (by omega))
    have hnl := naI_len t l a
    clear ho hr0 hrr hgg hg3
    go_wp2_with fail
    refine HNX.out.mono ?_
    rintro e w4 ⟨v4, rfl, ho4, hb4⟩
    obtain ⟨A8, n8, c8, rfl, hc8, hr8⟩ := ho4.rdn elI.len (by omega)
    have hn8 : n8 ≤ 12 := by have := hr8.len; omega
    have hG4 := grown_below hG3 hb4
    have ho4' := ho3.below hb4
    have hr4 := hr3.below hb4
    have hs4 := hG4.size
    generalize naI t l a = NS at *
    clear ho4 hb4 ho3 hr3 hG3 hrt3 hrd3 HNX hnl
    go_wp2_with fail
    refine (pick_any R (q + 1) 12 _ hr4 (by omega) (by omega)).mono ?_
    rintro e w5 ⟨b, rfl, _, _, _, hr5, hg5⟩
    have hG5 := grown_trans hG4 hg5
    have ho5 := ho4'.grown hg5 hRl
    have hr85 := hr8.grown hg5 (by have := hr4.lt; have := hG4.size; omega)
    have hs5 := hG5.size
    clear ho4' hr4 hr8 hG4 hg5
    have hRg : R < w5.heap.size := by omega
    have HBLK : Hid (∀ kk, (Value.slice A0 l.length c0).ownBlock = some kk → kk < w5.heap.size) := fun kk h => (ho5.blk kk h).2
    have hbA := (Below.refl w5.heap.size w5).alloc (Nat.le_refl _) (.cells #[.int .i64 a, .bool false, .int .i64 b, .int .i64 5] 32)
    have hBA := heap_alloc_new w5 (.cells #[.int .i64 a, .bool false, .int .i64 b, .int .i64 5] 32)
    go_upto_if 33 with fail
    go_cut [9] from 17 to 91 (fun v9 wx => ∃ (b' : Int) (q' : Nat), v9 = .pointer (some ⟨w5.heap.size, 0, none⟩) ∧ wx.heap[w5.heap.size]? = some (.cells #[.int .i64 a, .bool false, .int .i64 b', .int .i64 5] 32 (0, 0)) ∧
      Own cS 4 32 wx w.heap.size (.slice A0 l.length c0) l ∧ Rdr wx R q' ∧ q' ≤ q + 3 ∧ w.grownBy wx (some R))
    case first =>
      by_cases hn0 : 0 < n8
      case neg =>
        go_wp2_with fail
        go_meet
        exact ⟨b, q + 2, rfl, hBA, ho5.below hbA, hr5.below hbA, by omega, grown_below hG5 hbA⟩
      have hn0' : (0 : Int) < (n8 : Int) := by omega
      go_wp2_with fail
      refine (pick_any R (q + 2) (n8 : Int) _ (hr5.below hbA) (by omega) (by omega)).mono ?_
      rintro e w6 ⟨i6, rfl, i60, _, i62, hr6, hg6⟩
      obtain ⟨i6, rfl⟩ := Int.eq_ofNat_of_zero_le i60
      have hi6 : i6 < n8 := by have := i62 (by omega); omega
      obtain ⟨b8, o8, x8, rfl, _, hb8, hx8, p8⟩ := ((hr85.below hbA).grown hg6 (by have := hr5.lt; omega)).atI hi6
      have hB6 := (hg6.block w5.heap.size (by simp) (by intro e; injection e with e; omega)).trans hBA
      have hG6 := grown_trans (grown_below hG5 hbA) hg6
      have ho6 := (ho5.below hbA).grown hg6 hRl
      have k2 := blk_cell (i := 2) hB6 rfl
      have f2 := blk_free hB6 2
      have hl6 := blk_lt hB6
      clear hx8
      go_wp2_with fail
      go_meet
      have hgs := grown_set (World.grownBy.refl w6 (some w5.heap.size)) (p := ⟨w5.heap.size, 2, none⟩) (.inl rfl) (.int .i64 x8)
      exact ⟨x8, q + 3, rfl, by rw [blk_set hB6]; rfl, ho6.grown' hgs (.inr fun e => by have := HBLK.out _ e; omega), hr6.grown hgs hRg, by omega, grown_set hG6 (.inr (by simp; omega)) _⟩
    case rest =>
    obtain ⟨b', q1, rfl, hBc, hoc, hrc, hq1, hGc⟩ := hcut
    have hsc := hGc.size
    have hgc := blk_lt hBc
    obtain ⟨mm, hmm⟩ := HVL.out.ex
    have HTA := Lib.hid (tableAfterS_any _ A0 l.length c0 l wc (hoc.rds elS.len (by omega)).2 (by omega) HVL.out.ok)
    rw [(tabF_some hmm).2] at HTA
    have hvm := tabF_VTb hmm
    clear hmm hG5 ho5 hr5 hr85 hbA hBA
    go_wp2_with fail
    refine HTA.out.mono ?_
    rintro e w7 ⟨v7, rfl, ho7, hb7⟩
    obtain ⟨A7, n7, c7, rfl, hc7, hr7⟩ := ho7.rdn elL.len (by have := hvm.1; omega)
    have hn7 : n7 ≤ 48 := by have := hr7.len; have := hvm.1; omega
    have hB7 := blk_below hBc hb7
    have hoc7 := hoc.below hb7
    have hrc7 := hrc.below hb7
    have hGc7 := grown_below hGc hb7
    have hr77 := hr7.low (lo' := w5.heap.size) (by omega)
    clear HTA ho7 hBc hoc hrc hGc hvm
    go_upto_region 11 with fail
    go_cut [54] from 17 to 91 (fun v54 wx => ∃ (bb : Bool) (q' : Nat), v54 = .bool bb ∧ (bb = true → 0 < n7) ∧ wx.heap[w5.heap.size]? = some (.cells #[.int .i64 a, .bool false, .int .i64 b', .int .i64 5] 32 (0, 0)) ∧
      Own cS 4 32 wx w.heap.size (.slice A0 l.length c0) l ∧ Rd cL 3 wx w5.heap.size A7 n7 mm ∧ Rdr wx R q' ∧ q' ≤ q + 4 ∧ w.grownBy wx (some R))
    case first =>
      by_cases hn0 : 0 < n7
      case neg =>
        go_wp2_with fail
        go_meet
        exact ⟨false, q1, rfl, (fun h => by cases h), hB7, hoc7, hr77, hrc7, by omega, hGc7⟩
      have hn0' : (0 : Int) < (n7 : Int) := by omega
      go_wp2_with fail
      refine (pick_any R q1 3 _ hrc7 (by omega) (by omega)).mono ?_
      rintro e w8 ⟨z8, rfl, _, _, _, hr8, hg8⟩
      have hB8 := (hg8.block w5.heap.size (blk_lt hB7) (by intro e; injection e with e; omega)).trans hB7
      go_wp2_with fail
      go_meet
      exact ⟨z8 == 0, q1 + 1, rfl, fun _ => hn0, hB8, hoc7.grown hg8 hRl, hr77.grown hg8 hRg, hr8, by omega, grown_trans hGc7 hg8⟩
    case rest =>
    obtain ⟨bb, q2, rfl, hbb, hB8, ho8, hr78, hr8, hq2, hG8⟩ := hcut
    have hs8 := hG8.size
    have hg8 := blk_lt hB8
    clear hB7 hoc7 hrc7 hGc7 hr77 hr7 hb7 hsc hgc
    go_upto_if 54 with fail
    go_cut [9] from 17 to 91 (fun v9 wx => ∃ (a' : Int) (fr : Bool) (b'' md : Int) (q' : Nat), v9 = .pointer (some ⟨w5.heap.size, 0, none⟩) ∧ wx.heap[w5.heap.size]? = some (.cells #[.int .i64 a', .bool fr, .int .i64 b'', .int .i64 md] 32 (0, 0)) ∧
      Own cS 4 32 wx w.heap.size (.slice A0 l.length c0) l ∧ Rdr wx R q' ∧ q' ≤ q + 5 ∧ w.grownBy wx (some R))
    case first =>
      cases bb with
      | false =>
        go_wp2_with fail
        go_meet
        exact ⟨a, false, b', 5, q2, rfl, hB8, ho8, hr8, by omega, hG8⟩
      | true =>
        have hn0 := hbb rfl
        have hn0' : (0 : Int) < (n7 : Int) := by omega
        go_wp2_with fail
        refine (pick_any R q2 (n7 : Int) _ hr8 (by omega) (by omega)).mono ?_
        rintro e w9 ⟨i9, rfl, i90, _, i92, hr9, hg9⟩
        obtain ⟨i9, rfl⟩ := Int.eq_ofNat_of_zero_le i90
        have hi9 : i9 < n7 := by have := i92 (by omega); omega
        obtain ⟨b9, o9, x9, rfl, _, hb9, hx9, p0, p1, p2⟩ := (hr78.grown hg9 hRg).atL hi9
        have hB9 := (hg9.block w5.heap.size hg8 (by intro e; injection e with e; omega)).trans hB8
        have hG9 := grown_trans hG8 hg9
        have ho9 := ho8.grown hg9 hRl
        have k0 := blk_cell (i := 0) hB9 rfl
        have k1 := blk_cell (i := 1) hB9 rfl
        have k2 := blk_cell (i := 2) hB9 rfl
        have k3 := blk_cell (i := 3) hB9 rfl
        have f0 := blk_free hB9 0
        have f1 := blk_free hB9 1
        have f2 := blk_free hB9 2
        have f3 := blk_free hB9 3
        have hl9 := blk_lt hB9
        clear hx9
        go_wp2_with fail
        go_meet
        have B1 := blk_set hB9 0 (.int .i64 x9.who)
        have B2 := blk_set B1 1 (.bool true)
        have B3 := blk_set B2 2 (.int .i64 x9.node)
        have B4 := blk_set B3 3 (.int .i64 0)
        have B5 := blk_alloc B4 (.cells #[.int .i64 x9.who, .int .i64 x9.node, .int .i64 x9.mode] 37)
        have g1 := grown_set (World.grownBy.refl w9 (some w5.heap.size)) (p := ⟨w5.heap.size, 0, none⟩) (.inl rfl) (.int .i64 x9.who)
        have g2 := grown_set g1 (p := ⟨w5.heap.size, 1, none⟩) (.inl rfl) (.bool true)
        have g3 := grown_set g2 (p := ⟨w5.heap.size, 2, none⟩) (.inl rfl) (.int .i64 x9.node)
        have g4 := grown_set g3 (p := ⟨w5.heap.size, 3, none⟩) (.inl rfl) (.int .i64 0)
        have g5 := grown_alloc g4 (.cells #[.int .i64 x9.who, .int .i64 x9.node, .int .i64 x9.mode] 37)
        have G1 := grown_set hG9 (p := ⟨w5.heap.size, 0, none⟩) (.inr (by show w.heap.size ≤ w5.heap.size; omega)) (.int .i64 x9.who)
        have G2 := grown_set G1 (p := ⟨w5.heap.size, 1, none⟩) (.inr (by show w.heap.size ≤ w5.heap.size; omega)) (.bool true)
        have G3 := grown_set G2 (p := ⟨w5.heap.size, 2, none⟩) (.inr (by show w.heap.size ≤ w5.heap.size; omega)) (.int .i64 x9.node)
        have G4 := grown_set G3 (p := ⟨w5.heap.size, 3, none⟩) (.inr (by show w.heap.size ≤ w5.heap.size; omega)) (.int .i64 0)
        exact ⟨x9.who, true, x9.node, 0, q2 + 1, rfl, B5.trans rfl, ho9.grown' g5 (.inr fun e => by have := HBLK.out _ e; omega), hr9.grown g5 hRg, by omega, grown_alloc G4 _⟩
    case rest =>
    obtain ⟨a', fr, b'', md, q3, rfl, hBt, hot, hrt', hq3, hGt⟩ := hcut
    rename World => w12
    have hs12 := hGt.size
    clear hB8 ho8 hr78 hr8 hG8 hs8 hg8 hbb
    go_upto_region 14 with fail
    go_cut [87] from 17 to 91 (fun v87 wx => ∃ (bb : Bool) (q' : Nat), v87 = .bool bb ∧ (bb = true → VS (l ++ [⟨a', fr, b'', md⟩])) ∧ wx.heap[w5.heap.size]? = some (.cells #[.int .i64 a', .bool fr, .int .i64 b'', .int .i64 md] 32 (0, 0)) ∧
      Own cS 4 32 wx w.heap.size (.slice A0 l.length c0) l ∧ Rdr wx R q' ∧ q' ≤ q + 6 ∧ w.grownBy wx (some R))
    case first =>
      by_cases hn0 : 0 < n8
      case pos =>
        have hn0' : (0 : Int) < (n8 : Int) := by omega
        have hd1 : decide ((0 : Int) < (n8 : Int)) = true := decide_eq_true hn0'
        have hd2 : decide (0 < n8) = true := decide_eq_true hn0
        have c0 : w12.cell? ⟨w5.heap.size, 0, none⟩ = some (.int .i64 a') := blk_cell hBt (i := 0) rfl
        have c1 : w12.cell? ⟨w5.heap.size, 1, none⟩ = some (.bool fr) := blk_cell hBt (i := 1) rfl
        have c2 : w12.cell? ⟨w5.heap.size, 2, none⟩ = some (.int .i64 b'') := blk_cell hBt (i := 2) rfl
        have c3 : w12.cell? ⟨w5.heap.size, 3, none⟩ = some (.int .i64 md) := blk_cell hBt (i := 3) rfl
        have HBB := Lib.hid (blk_lt hBt)
        have hrd7 := (hot.rds elS.len (by omega)).2
        have hoE : Own cS 4 32 (w12.alloc (.cells #[] 32)).drew w12.heap.size (.slice (some ⟨w12.heap.size, 0, none⟩) 0 0) ([] : List St) := (Own.empty w12 elS.len).drew
        have hrdA := (hrd7.alloc (.cells #[] 32)).drew
        have h2B := two_B (cs := cS) (sz := 4) (e := 32) w12 #[.int .i64 a', .bool fr, .int .i64 b'', .int .i64 md] (⟨a', fr, b'', md⟩ : St) elS.len rfl
        have h2C := two_C (cs := cS) (sz := 4) (e := 32) w12 #[.int .i64 a', .bool fr, .int .i64 b'', .int .i64 md] (⟨a', fr, b'', md⟩ : St) elS.len rfl
        have hrdB := ((hrd7.alloc (.cells #[] 32)).alloc (.cells #[.int .i64 a', .bool fr, .int .i64 b'', .int .i64 md] 32)).drew
        have hrdC := ((hrd7.alloc (.cells #[.int .i64 a', .bool fr, .int .i64 b'', .int .i64 md] 32)).alloc (.cells #[] 32)).drew
        have kA0 : (w12.alloc (.cells #[] 32)).drew.cell? ⟨w5.heap.size, 0, none⟩ = some (.int .i64 a') := (((Below.refl w12.heap.size w12).alloc (Nat.le_refl _) (.cells #[] 32)).cell HBB.out).trans c0
        have kA1 : (w12.alloc (.cells #[] 32)).drew.cell? ⟨w5.heap.size, 1, none⟩ = some (.bool fr) := (((Below.refl w12.heap.size w12).alloc (Nat.le_refl _) (.cells #[] 32)).cell HBB.out).trans c1
        have kA2 : (w12.alloc (.cells #[] 32)).drew.cell? ⟨w5.heap.size, 2, none⟩ = some (.int .i64 b'') := (((Below.refl w12.heap.size w12).alloc (Nat.le_refl _) (.cells #[] 32)).cell HBB.out).trans c2
        have kA3 : (w12.alloc (.cells #[] 32)).drew.cell? ⟨w5.heap.size, 3, none⟩ = some (.int .i64 md) := (((Below.refl w12.heap.size w12).alloc (Nat.le_refl _) (.cells #[] 32)).cell HBB.out).trans c3
        first | (go_region_law
            ((first
              | (refine step_append_rdw elS _ rfl (.tmp 80) (.tmp 81) rfl rfl hoE rfl hrdA (by simp; omega) (by simp) ?_; intro v8 w8 ho8 hg8 _; have hb8 := below_own (((Below.refl w12.heap.size w12).alloc (Nat.le_refl _) _).drew) hoE hg8 (Nat.le_refl _) (by simp); have k0 := (hb8.cell HBB.out).trans c0; have k1 := (hb8.cell HBB.out).trans c1; have k2 := (hb8.cell HBB.out).trans c2; have k3 := (hb8.cell HBB.out).trans c3)
              | (refine step_append_rdw elS _ rfl (.tmp 80) (.tmp 81) rfl rfl h2B.1 rfl hrdB (by simp; omega) (by simp; omega) ?_; intro v8 w8 ho8 hg8 _; have hb8 := below_own (((Below.refl w12.heap.size w12).alloc (Nat.le_refl _) _).alloc (by simp) _).drew h2B.1 hg8 (Nat.le_refl _) (by simp; omega); have hx8 := h2B.2.ne (row := some w12.heap.size) hg8 (by simp))
              | (refine step_append_rdw elS _ rfl (.tmp 80) (.tmp 81) rfl rfl h2C.1 rfl hrdC (by simp; omega) (by simp; omega) ?_; intro v8 w8 ho8 hg8 _; have hb8 := below_own (((Below.refl w12.heap.size w12).alloc (Nat.le_refl _) _).alloc (by simp) _).drew h2C.1 hg8 (Nat.le_refl _) (by simp; omega); have hx8 := h2C.2.ne (row := some (w12.heap.size + 1)) hg8 (by simp))
              | (refine step_append_rdw elS _ rfl (.tmp 82) (.tmp 84) rfl rfl ho8 rfl hx8 (by simp only [List.nil_append]; omega) (by have := hb8.size; omega) ?_; intro v9 w9 ho9 hg9 _; have hb9 := below_own hb8 ho8 hg9 (Nat.le_refl _) hb8.size; simp only [List.nil_append] at ho9; obtain ⟨A9, m9, c9, rfl, hc9, hr9⟩ := ho9.rdn elS.len (by simp; omega); clear ho8 ho9 hg8 hg9)
              | (refine step_append_rdw elS _ rfl (.tmp 82) (.tmp 84) rfl rfl (ho8.alloc (.cells #[.int .i64 a', .bool fr, .int .i64 b'', .int .i64 md] 32)) rfl (Rd_one w8 #[.int .i64 a', .bool fr, .int .i64 b'', .int .i64 md] 32 (⟨a', fr, b'', md⟩ : St) rfl) ?_ ?_ ?_
                 · simp only [List.nil_append]; omega
                 · have := hb8.size; simp only [World.size_alloc]; omega
                 intro v9 w9 ho9 hg9 _
                 have hb9 := below_own (hb8.alloc hb8.size (.cells #[.int .i64 a', .bool fr, .int .i64 b'', .int .i64 md] 32)) (ho8.alloc _) hg9 (Nat.le_refl _) (by have := hb8.size; simp only [World.size_alloc]; omega)
                 simp only [List.nil_append] at ho9
                 obtain ⟨A9, m9, c9, rfl, hc9, hr9⟩ := ho9.rdn elS.len (by simp; omega)
                 clear ho8 ho9 hg8 hg9)
              | (go_simp; go_at_call 16; refine (validSteps_any _ A9 m9 c9 (l ++ [(⟨a', fr, b'', md⟩ : St)]) _ hr9 (by have := hr9.len; simp at this; omega)).mono ?_; rintro e w10 ⟨rfl, hb10⟩)))) | fail
        all_goals (
          have hB10 := hb9.trans (hb10.mono hb9.size)
          go_wp2_with fail
          go_meet
          exact ⟨vsB (l ++ [(⟨a', fr, b'', md⟩ : St)]), q3, rfl, (fun h => VS_ofB h), blk_below hBt hB10, hot.below hB10, hrt'.below hB10, by omega, grown_below hGt hB10⟩)
      obtain rfl : n8 = 0 := by omega
      have hd1 : decide ((0 : Int) < ((0 : Nat) : Int)) = false := rfl
      cases fr with
      | true =>
        have c0 : w12.cell? ⟨w5.heap.size, 0, none⟩ = some (.int .i64 a') := blk_cell hBt (i := 0) rfl
        have c1 : w12.cell? ⟨w5.heap.size, 1, none⟩ = some (.bool true) := blk_cell hBt (i := 1) rfl
        have c2 : w12.cell? ⟨w5.heap.size, 2, none⟩ = some (.int .i64 b'') := blk_cell hBt (i := 2) rfl
        have c3 : w12.cell? ⟨w5.heap.size, 3, none⟩ = some (.int .i64 md) := blk_cell hBt (i := 3) rfl
        have HBB := Lib.hid (blk_lt hBt)
        have hrd7 := (hot.rds elS.len (by omega)).2
        have hoE : Own cS 4 32 (w12.alloc (.cells #[] 32)).drew w12.heap.size (.slice (some ⟨w12.heap.size, 0, none⟩) 0 0) ([] : List St) := (Own.empty w12 elS.len).drew
        have hrdA := (hrd7.alloc (.cells #[] 32)).drew
        have h2B := two_B (cs := cS) (sz := 4) (e := 32) w12 #[.int .i64 a', .bool true, .int .i64 b'', .int .i64 md] (⟨a', true, b'', md⟩ : St) elS.len rfl
        have h2C := two_C (cs := cS) (sz := 4) (e := 32) w12 #[.int .i64 a', .bool true, .int .i64 b'', .int .i64 md] (⟨a', true, b'', md⟩ : St) elS.len rfl
        have hrdB := ((hrd7.alloc (.cells #[] 32)).alloc (.cells #[.int .i64 a', .bool true, .int .i64 b'', .int .i64 md] 32)).drew
        have hrdC := ((hrd7.alloc (.cells #[.int .i64 a', .bool true, .int .i64 b'', .int .i64 md] 32)).alloc (.cells #[] 32)).drew
        have kA0 : (w12.alloc (.cells #[] 32)).drew.cell? ⟨w5.heap.size, 0, none⟩ = some (.int .i64 a') := (((Below.refl w12.heap.size w12).alloc (Nat.le_refl _) (.cells #[] 32)).cell HBB.out).trans c0
        have kA1 : (w12.alloc (.cells #[] 32)).drew.cell? ⟨w5.heap.size, 1, none⟩ = some (.bool true) := (((Below.refl w12.heap.size w12).alloc (Nat.le_refl _) (.cells #[] 32)).cell HBB.out).trans c1
        have kA2 : (w12.alloc (.cells #[] 32)).drew.cell? ⟨w5.heap.size, 2, none⟩ = some (.int .i64 b'') := (((Below.refl w12.heap.size w12).alloc (Nat.le_refl _) (.cells #[] 32)).cell HBB.out).trans c2
        have kA3 : (w12.alloc (.cells #[] 32)).drew.cell? ⟨w5.heap.size, 3, none⟩ = some (.int .i64 md) := (((Below.refl w12.heap.size w12).alloc (Nat.le_refl _) (.cells #[] 32)).cell HBB.out).trans c3
        first | (go_region_law
            ((first
              | (refine step_append_rdw elS _ rfl (.tmp 80) (.tmp 81) rfl rfl hoE rfl hrdA (by simp; omega) (by simp) ?_; intro v8 w8 ho8 hg8 _; have hb8 := below_own (((Below.refl w12.heap.size w12).alloc (Nat.le_refl _) _).drew) hoE hg8 (Nat.le_refl _) (by simp); have k0 := (hb8.cell HBB.out).trans c0; have k1 := (hb8.cell HBB.out).trans c1; have k2 := (hb8.cell HBB.out).trans c2; have k3 := (hb8.cell HBB.out).trans c3)
              | (refine step_append_rdw elS _ rfl (.tmp 80) (.tmp 81) rfl rfl h2B.1 rfl hrdB (by simp; omega) (by simp; omega) ?_; intro v8 w8 ho8 hg8 _; have hb8 := below_own (((Below.refl w12.heap.size w12).alloc (Nat.le_refl _) _).alloc (by simp) _).drew h2B.1 hg8 (Nat.le_refl _) (by simp; omega); have hx8 := h2B.2.ne (row := some w12.heap.size) hg8 (by simp))
              | (refine step_append_rdw elS _ rfl (.tmp 80) (.tmp 81) rfl rfl h2C.1 rfl hrdC (by simp; omega) (by simp; omega) ?_; intro v8 w8 ho8 hg8 _; have hb8 := below_own (((Below.refl w12.heap.size w12).alloc (Nat.le_refl _) _).alloc (by simp) _).drew h2C.1 hg8 (Nat.le_refl _) (by simp; omega); have hx8 := h2C.2.ne (row := some (w12.heap.size + 1)) hg8 (by simp))
              | (refine step_append_rdw elS _ rfl (.tmp 82) (.tmp 84) rfl rfl ho8 rfl hx8 (by simp only [List.nil_append]; omega) (by have := hb8.size; omega) ?_; intro v9 w9 ho9 hg9 _; have hb9 := below_own hb8 ho8 hg9 (Nat.le_refl _) hb8.size; simp only [List.nil_append] at ho9; obtain ⟨A9, m9, c9, rfl, hc9, hr9⟩ := ho9.rdn elS.len (by simp; omega); clear ho8 ho9 hg8 hg9)
              | (refine step_append_rdw elS _ rfl (.tmp 82) (.tmp 84) rfl rfl (ho8.alloc (.cells #[.int .i64 a', .bool true, .int .i64 b'', .int .i64 md] 32)) rfl (Rd_one w8 #[.int .i64 a', .bool true, .int .i64 b'', .int .i64 md] 32 (⟨a', true, b'', md⟩ : St) rfl) ?_ ?_ ?_
                 · simp only [List.nil_append]; omega
                 · have := hb8.size; simp only [World.size_alloc]; omega
                 intro v9 w9 ho9 hg9 _
                 have hb9 := below_own (hb8.alloc hb8.size (.cells #[.int .i64 a', .bool true, .int .i64 b'', .int .i64 md] 32)) (ho8.alloc _) hg9 (Nat.le_refl _) (by have := hb8.size; simp only [World.size_alloc]; omega)
                 simp only [List.nil_append] at ho9
                 obtain ⟨A9, m9, c9, rfl, hc9, hr9⟩ := ho9.rdn elS.len (by simp; omega)
                 clear ho8 ho9 hg8 hg9)
              | (go_simp; go_at_call 16; refine (validSteps_any _ A9 m9 c9 (l ++ [(⟨a', true, b'', md⟩ : St)]) _ hr9 (by have := hr9.len; simp at this; omega)).mono ?_; rintro e w10 ⟨rfl, hb10⟩)))) | fail
        all_goals (
          have hB10 := hb9.trans (hb10.mono hb9.size)
          go_wp2_with fail
          go_meet
          exact ⟨vsB (l ++ [(⟨a', true, b'', md⟩ : St)]), q3, rfl, (fun h => VS_ofB h), blk_below hBt hB10, hot.below hB10, hrt'.below hB10, by omega, grown_below hGt hB10⟩)
      | false =>
        obtain ⟨z10, _, HPK⟩ := pick_val R q3 12 w12.drew (hrt'.below (Below.refl _ _).drew) (by omega) (by omega)
        have HF1 : Hid (∀ w10, w12.drew.grownBy w10 (some R) → w10.heap[w5.heap.size]? = some (.cells #[.int .i64 a', .bool false, .int .i64 b'', .int .i64 md] 32 (0, 0)) ∧ Own cS 4 32 w10 w.heap.size (.slice A0 l.length c0) l ∧ w.grownBy w10 (some R)) := fun w10 hg10 =>
          ⟨(hg10.block w5.heap.size (blk_lt hBt) (by intro e; injection e with e; omega)).trans hBt, hot.drew.grown hg10 hRl, grown_trans (grown_below hGt (Below.refl _ _).drew) hg10⟩
        by_cases hz10 : z10 = 0
        case neg =>
          have hz10' : (z10 == 0) = false := by simpa using hz10
          have c0 := blk_cell (i := 0) hBt rfl
          have c1 := blk_cell (i := 1) hBt rfl
          have c2 := blk_cell (i := 2) hBt rfl
          have c3 := blk_cell (i := 3) hBt rfl
          clear hz10
          first | (go_region_law (first | (go_simp; go_at_call 28; refine HPK.mono ?_; rintro e w10 ⟨rfl, hr10, hg10⟩))) | fail
          all_goals (
            go_wp2_with fail
            go_meet
            exact ⟨false, q3 + 1, rfl, (fun h => by cases h), (hg10.block w5.heap.size (blk_lt hBt) (by intro e; injection e with e; omega)).trans hBt, hot.drew.grown hg10 hRl, hr10, by omega, grown_trans (grown_below hGt (Below.refl _ _).drew) hg10⟩)
        have hz10' : (z10 == 0) = true := by simpa using hz10
        have c0 := blk_cell (i := 0) hBt rfl
        have c1 := blk_cell (i := 1) hBt rfl
        have c2 := blk_cell (i := 2) hBt rfl
        have c3 := blk_cell (i := 3) hBt rfl
        clear hz10
        first | (go_region_law
            ((first
            | (go_simp; go_at_call 28; refine HPK.mono ?_; rintro e w10 ⟨rfl, hr10, hg10⟩; obtain ⟨hBt10, hot10, hG10⟩ := HF1.out w10 hg10; have hs10 := hG10.size; obtain ⟨c0, c1, c2, c3, hgl10, hoE, hrdA, h2B1, h2B2, h2C1, h2C2, hrdB, hrdC, kA0, kA1, kA2, kA3⟩ := tail_facts hBt10 hot10 (by omega))
              | (refine step_append_rdw elS _ rfl (.tmp 80) (.tmp 81) rfl rfl hoE rfl hrdA (by simp; omega) (by simp) ?_; intro v8 w8 ho8 hg8 _; have hb8 := below_own ((Below.refl w10.heap.size w10).alloc (Nat.le_refl _) _) hoE hg8 (Nat.le_refl _) (by simp); have k0 := (hb8.cell hgl10).trans c0; have k1 := (hb8.cell hgl10).trans c1; have k2 := (hb8.cell hgl10).trans c2; have k3 := (hb8.cell hgl10).trans c3)
              | (refine step_append_rdw elS _ rfl (.tmp 80) (.tmp 81) rfl rfl h2B1 rfl hrdB (by simp; omega) (by simp; omega) ?_; intro v8 w8 ho8 hg8 _; have hb8 := below_own (((Below.refl w10.heap.size w10).alloc (Nat.le_refl _) _).alloc (by simp) _) h2B1 hg8 (Nat.le_refl _) (by simp; omega); have hx8 := h2B2.ne (row := some w10.heap.size) hg8 (by simp))
              | (refine step_append_rdw elS _ rfl (.tmp 80) (.tmp 81) rfl rfl h2C1 rfl hrdC (by simp; omega) (by simp; omega) ?_; intro v8 w8 ho8 hg8 _; have hb8 := below_own (((Below.refl w10.heap.size w10).alloc (Nat.le_refl _) _).alloc (by simp) _) h2C1 hg8 (Nat.le_refl _) (by simp; omega); have hx8 := h2C2.ne (row := some (w10.heap.size + 1)) hg8 (by simp))
              | (refine step_append_rdw elS _ rfl (.tmp 82) (.tmp 84) rfl rfl ho8 rfl hx8 (by simp only [List.nil_append]; omega) (by have := hb8.size; omega) ?_; intro v9 w9 ho9 hg9 _; have hb9 := below_own hb8 ho8 hg9 (Nat.le_refl _) hb8.size; simp only [List.nil_append] at ho9; obtain ⟨A9, m9, c9, rfl, hc9, hr9⟩ := ho9.rdn elS.len (by simp; omega); clear ho8 ho9 hg8 hg9)
              | (refine step_append_rdw elS _ rfl (.tmp 82) (.tmp 84) rfl rfl (ho8.alloc (.cells #[.int .i64 a', .bool false, .int .i64 b'', .int .i64 md] 32)) rfl (Rd_one w8 #[.int .i64 a', .bool false, .int .i64 b'', .int .i64 md] 32 (⟨a', false, b'', md⟩ : St) rfl) ?_ ?_ ?_
                 · simp only [List.nil_append]; omega
                 · have := hb8.size; simp only [World.size_alloc]; omega
                 intro v9 w9 ho9 hg9 _
                 have hb9 := below_own (hb8.alloc hb8.size (.cells #[.int .i64 a', .bool false, .int .i64 b'', .int .i64 md] 32)) (ho8.alloc _) hg9 (Nat.le_refl _) (by have := hb8.size; simp only [World.size_alloc]; omega)
                 simp only [List.nil_append] at ho9
                 obtain ⟨A9, m9, c9, rfl, hc9, hr9⟩ := ho9.rdn elS.len (by simp; omega)
                 clear ho8 ho9 hg8 hg9)
              | (go_simp; go_at_call 16; refine (validSteps_any _ A9 m9 c9 (l ++ [(⟨a', false, b'', md⟩ : St)]) _ hr9 (by have := hr9.len; simp at this; omega)).mono ?_; rintro e w11 ⟨rfl, hb11⟩)))) | fail
        all_goals (
          have hB10 := hb9.trans (hb11.mono hb9.size)
          go_wp2_with fail
          go_meet
          exact ⟨vsB (l ++ [(⟨a', false, b'', md⟩ : St)]), q3 + 1, rfl, (fun h => VS_ofB h), blk_below hBt10 hB10, hot10.below hB10, hr10.below hB10, by omega, grown_below hG10 hB10⟩)
    case rest =>
    obtain ⟨bb, q4, rfl, hvb, hB13, ho13, hr13, hq4, hG13⟩ := hcut
    rename World => w13
    have hs13 := hG13.size
    clear hBt hot hrt' hGt hs12
    cases bb with
    | false =>
      go_wp2_with fail
      go_roundw
      case rel => exact ⟨l, y - 1, q4, by go_num, by omega, by omega, ho13, HVL.out, by omega, hr13, hG13⟩
      case measure => simp [intOf]; omega
    | true =>
      have HVB := Lib.hid (hvb rfl)
      have c0 := blk_cell hB13 (i := 0) rfl
      have c1 := blk_cell hB13 (i := 1) rfl
      have c2 := blk_cell hB13 (i := 2) rfl
      have c3 := blk_cell hB13 (i := 3) rfl
      clear hvb
      go_wp2_with (at_builtin; refine wpList_append_rd elS _ rfl (.tmp 88) (.tmp 90) rfl rfl (ho13.alloc _) rfl (Rd_one w13 #[.int .i64 a', .bool fr, .int .i64 b'', .int .i64 md] 32 (⟨a', fr, b'', md⟩ : St) rfl) (by omega) (by simp; omega) ?_; intro v14 w14 ho14 hg14 _)
      go_roundw
      case rel => exact ⟨l ++ [⟨a', fr, b'', md⟩], y - 1, q4, by go_num, by omega, by simp; omega, ho14, HVB.out, by omega, (hr13.alloc _).own (ho13.alloc (.cells #[.int .i64 a', .bool fr, .int .i64 b'', .int .i64 md] 32)) hg14 hRl, grown_own (grown_alloc hG13 _) (ho13.alloc (.cells #[.int .i64 a', .bool fr, .int .i64 b'', .int .i64 md] 32)) hg14 (Nat.le_refl _)⟩
      case measure => simp [intOf]; omega
end Go.Proofs.YtcefgabdffipgaaDoor
