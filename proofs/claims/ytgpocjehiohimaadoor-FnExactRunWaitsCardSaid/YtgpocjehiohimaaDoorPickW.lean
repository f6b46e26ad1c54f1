/- The walks over the program's runs: locksOf, pick, runAll, RunValues, RunOrder, RunLocks. -/
import Derived.Test.YtgpocjehiohimaaDoorRunP4
import Derived.Test.YtgpocjehiohimaaDoorScrW
import Derived.Test.YtgpocjehiohimaaDoorWords7
import Derived.Test.YtgpocjehiohimaaDoorGrainW
import Derived.Test.YtgpocjehiohimaaDoorTabW3
import Derived.Test.YtgpocjehiohimaaDoorTabS3
import Derived.Test.YtgpocjehiohimaaDoorPlaceW
import Derived.Deep.DeepCutAuto
import Derived.Deep.RegionHeld3
namespace Go.Proofs.YtgpocjehiohimaaDoor
open Go.RowKit

theorem locksOf_t (lo : Nat) (A : Option Addr) (n c : Nat) (t : List Nd) (who : Int) (d : Dd) (w : World) (hr : Rd cN 3 w lo A n t) (hc : n ≤ c) (h1 : IsNd t d.node) (h2 : OkAsk who d.node (modeF d)) :
    Calls Tryd.prog 50 #[.slice A n c, .int .i64 who, .agg #[.int .i64 d.node, .int .i64 d.add]] w (LksP w (lkF t who d.node (modeF d))) := by
  have hbA := (Below.refl w.heap.size w).alloc (Nat.le_refl _) (.cells #[.int .i64 d.node, .int .i64 d.add] 73)
  have HL := Lib.hid (LocksFor_t lo A n c t who d.node (modeF d) (w.alloc (.cells #[.int .i64 d.node, .int .i64 d.add] 73)) (hr.alloc _) hc h1 h2)
  clear h1 h2
  by_cases h0 : d.add = 0
  · rw [show modeF d = 3 by unfold modeF; rw [if_pos h0]] at HL ⊢
    obtain ⟨dn, da⟩ := d
    simp only at h0 HL hbA ⊢
    subst h0
    go_enter Tryd.func50, Tryd.ntmps50
    go_wp2_with fail
    refine HL.out.mono ?_
    rintro e w2 ⟨v, rfl, ho, hb⟩
    go_wp2_with fail
    go_ret
    exact ⟨v, rfl, ho.low hbA.size, hbA.trans (hb.mono hbA.size)⟩
  · rw [show modeF d = 5 by unfold modeF; rw [if_neg h0]] at HL ⊢
    obtain ⟨dn, da⟩ := d
    simp only at h0 HL hbA ⊢
    have h0' : (da == 0) = false := by simpa using h0
    clear h0
    go_enter Tryd.func50, Tryd.ntmps50
    go_wp2_with fail
    refine HL.out.mono ?_
    rintro e w2 ⟨v, rfl, ho, hb⟩
    go_wp2_with fail
    go_ret
    exact ⟨v, rfl, ho.low hbA.size, hbA.trans (hb.mono hbA.size)⟩

/-- How far the program's run has come: four lists behind one pointer. -/
structure RunS (w : World) (base gr gv gn n k : Nat) (vo vt : Value) (m : Mc) : Prop where
  hr : w.heap[gr]? = some (.cells #[.slice (some ⟨gv, 0, none⟩) n n, .slice (some ⟨gn, 0, none⟩) k k, vo, vt] 62 (0, 0))
  hv : w.heap[gv]? = some (.cells (iA m.vals) 3 (0, 0))
  hn : w.heap[gn]? = some (.cells (iA m.place) 3 (0, 0))
  ne : gv ≠ gn
  lr : base ≤ gr
  lv : base ≤ gv
  ln : base ≤ gn
  order : Own cI 1 3 w base vo m.fin
  apv : vo.ownBlock ≠ some gv
  apn : vo.ownBlock ≠ some gn
  tab : Own cL 3 67 w base vt m.tab
theorem RunS.below {w w' : World} {base gr gv gn n k : Nat} {vo vt : Value} {m : Mc} (h : RunS w base gr gv gn n k vo vt m) (hb : Below w.heap.size w w') : RunS w' base gr gv gn n k vo vt m :=
  ⟨blk_below h.hr hb, blk_below h.hv hb, blk_below h.hn hb, h.ne, h.lr, h.lv, h.ln, h.order.below hb, h.apv, h.apn, h.tab.below hb⟩

theorem RunS.drew {w : World} {base gr gv gn n k : Nat} {vo vt : Value} {m : Mc} (h : RunS w base gr gv gn n k vo vt m) : RunS w.drew base gr gv gn n k vo vt m :=
  ⟨h.hr, h.hv, h.hn, h.ne, h.lr, h.lv, h.ln, h.order.drew, h.apv, h.apn, h.tab.drew⟩
section
variable {w w1 : World} {base gr gv gn n k : Nat} {vo vt : Value} {m : Mc}
theorem RunS.setTab {vt' : Value} {l : List Lk} (h : RunS w base gr gv gn n k vo vt m) (ho : Own cL 3 67 w base vt' l) : RunS (w.setCell ⟨gr, 3, none⟩ vt') base gr gv gn n k vo vt' { m with tab := l } :=
  ⟨(blk_set h.hr 3 vt').trans (by rfl), blk_setne h.hv (blk_ne h.hv h.hr (by decide)) _ _, blk_setne h.hn (blk_ne h.hn h.hr (by decide)) _ _, h.ne, h.lr, h.lv, h.ln, h.order.keepb h.hr (by decide) _ _, h.apv, h.apn, ho.keepb h.hr (by decide) _ _⟩
theorem RunS.setVal (h : RunS w base gr gv gn n k vo vt m) (i : Nat) (x : Int) : RunS (w.setCell ⟨gv, i, none⟩ (.int .i64 x)) base gr gv gn n k vo vt { m with vals := m.vals.set i x } :=
  ⟨blk_setne h.hr (blk_ne h.hr h.hv (by decide)) _ _, (blk_set h.hv i _).trans (by rw [iA_set]), blk_setne h.hn h.ne.symm _ _, h.ne, h.lr, h.lv, h.ln, h.order.keepc h.apv _ _, h.apv, h.apn, h.tab.keepb h.hv (by decide) _ _⟩
theorem RunS.setPlace (h : RunS w base gr gv gn n k vo vt m) (i : Nat) (x : Int) : RunS (w.setCell ⟨gn, i, none⟩ (.int .i64 x)) base gr gv gn n k vo vt { m with place := m.place.set i x } :=
  ⟨blk_setne h.hr (blk_ne h.hr h.hn (by decide)) _ _, blk_setne h.hv h.ne _ _, (blk_set h.hn i _).trans (by rw [iA_set]), h.ne, h.lr, h.lv, h.ln, h.order.keepc h.apn _ _, h.apv, h.apn, h.tab.keepb h.hn (by decide) _ _⟩
theorem RunS.setOrd {vo' : Value} {l : List Int} (h : RunS w base gr gv gn n k vo vt m) (hg : w.grownBy w1 vo.ownBlock) (ho : Own cI 1 3 w1 base vo' l) (hap : vo'.ownBlock = vo.ownBlock ∨ vo'.ownBlock = some w.heap.size) :
    RunS (w1.setCell ⟨gr, 2, none⟩ vo') base gr gv gn n k vo' vt { m with fin := l } := by
  have h1 := blk_keep h.hr hg (h.order.ap_blk h.hr (by decide))
  have h2 := blk_keep h.hv hg h.apv
  have h3 := blk_keep h.hn hg h.apn
  have l2 := blk_lt h.hv
  have l3 := blk_lt h.hn
  exact ⟨(blk_set h1 2 vo').trans (by rfl), blk_setne h2 (blk_ne h2 h1 (by decide)) _ _, blk_setne h3 (blk_ne h3 h1 (by decide)) _ _, h.ne, h.lr, h.lv, h.ln, ho.keepb h1 (by decide) _ _, (by
    rcases hap with e | e
    · rw [e]; exact h.apv
    · rw [e]; intro e'; injection e' with e'; omega), (by
    rcases hap with e | e
    · rw [e]; exact h.apn
    · rw [e]; intro e'; injection e' with e'; omega), (h.tab.grown' hg (h.tab.ap h.order (by decide))).keepb h1 (by decide) _ _⟩
end
def PickP (w : World) (base gr gv gn n k : Nat) (m : Mc) (e : Ending) (w' : World) : Prop := e = .returned (.tuple #[]) ∧ ∃ vo vt, RunS w' base gr gv gn n k vo vt m ∧ Below base w w'
set_option maxRecDepth 100000 in
set_option maxHeartbeats 6400000 in
theorem pick_t (base lo lo2 gr gv gn n k : Nat) (vo vt : Value) (m : Mc) (t : List Nd) (sc : List (List Dd)) (who : Nat) (A A2 : Option Addr) (c m2 c2 : Nat) (w : World) (hvt : VT t) (hsc : VSc t sc) (hI : Inv t sc m) (hw : who < sc.length) (hn : t.length = n) (hk : sc.length = k)
    (hS : RunS w base gr gv gn n k vo vt m) (hrt : Rd cN 3 w lo A n t) (hc : n ≤ c) (hrs : Rd cD 2 w lo2 A2 m2 (scr sc who)) (hT : Tb w) (hb2 : 2 ≤ base) :
    Calls Tryd.prog 62 #[.pointer (some ⟨gr, 0, none⟩), .slice A n c, .slice A2 m2 c2, .int .i64 (who : Int)] w (PickP w base gr gv gn n k (pickM t sc m who)) := by
  have HM2 := Lib.hid hrs.len
  have hpw : who < m.place.length := by rw [hI.plen]; exact hw
  have hwk : (who : Int) < (k : Int) := by omega
  have hwk' : who < k := by omega
  obtain ⟨hp0, hp1⟩ := hI.prange who hw
  obtain ⟨pn, hpn⟩ := Int.eq_ofNat_of_zero_le hp0
  have hsz := hS.lr
  have hszl := blk_lt hS.hr
  have hbsz : base ≤ w.heap.size := by omega
  have HS := Lib.hid hS
  have e0 := blk_cell hS.hr (i := 0) rfl
  have e1 := blk_cell hS.hr (i := 1) rfl
  have e2 := blk_cell hS.hr (i := 2) rfl
  have e3 := blk_cell hS.hr (i := 3) rfl
  have p0 : w.cell? ⟨gn, who, none⟩ = some (.int .i64 (plc m who)) := blk_cell hS.hn (iA_get (plc_get hpw))
  have hpm : pn ≤ m2 := by have := HM2.out; omega
  have HPN := Lib.hid hpn
  have hm3 : (m2 : Int) ≤ 3 := by have := (hsc.scr hw).1.2; have := HM2.out; omega
  rw [hpn] at p0
  by_cases hd : pn = m2
  case pos =>
    have HE : Hid (pickM t sc m who = m) := pickM_none (nextD_end (by rw [hpn, hd]; have := HM2.out; omega))
    subst hd
    clear hS hp0 hp1 hpn hI hvt hsc hrt hrs hT
    go_enter Tryd.func62, Tryd.ntmps62
    go_wp2_with fail
    (try simp only [Exit.inBlock, Exit.then])
    refine bodyPost_ret (results_none rfl _ _ _) rfl ?_
    exact ⟨rfl, vo, vt, by rw [HE.out]; exact HS.out, Below.refl _ _⟩
  have hd' : (pn : Int) < (m2 : Int) := by omega
  have hdn : ((pn : Int) == (m2 : Int)) = false := by simp; omega
  obtain ⟨bs, os, d, rfl, _, hbs, hx, q0, q1⟩ := hrs.atD (k := pn) (by omega)
  have hnd := nextD_of hpn hx
  obtain ⟨hisn, hask, hok⟩ := do_ok hvt hsc hw hnd
  have HND := Lib.hid hnd
  have HASK := Lib.hid hask
  have HISN := Lib.hid hisn
  have hdn0 := hok.1.1
  have hdn1 := hok.1.2
  have hda0 := hok.2.1
  have hda1 := hok.2.2
  obtain ⟨v, hv⟩ : ∃ v, m.vals[d.node.toNat]? = some v := ⟨_, List.getElem?_eq_getElem (by rw [hI.vlen]; omega)⟩
  have hvb := hI.vbd hvt hsc hv
  have HV := Lib.hid hv
  obtain ⟨At, mt, ct, hvt', hct, hrtab⟩ := hS.tab.rdn elL.len (by have := hI.tab.1; omega)
  subst hvt'
  have HTAB := Lib.hid hI.tab
  have HI2 := Lib.hid (hI.pick hvt hsc hw)
  have HTA : Hid (∀ (w' : World) (lo3 : Nat) (A3 : Option Addr) (n3 c3 : Nat), Below w.heap.size w w' → Rd cL 3 w' lo3 A3 n3 (lkF t who d.node (modeF d)) → Calls Tryd.prog 79 #[.slice At mt ct, .slice A3 n3 c3] w' (LksO w' (takeL m.tab (lkF t who d.node (modeF d))))) := fun w' lo3 A3 n3 c3 hb hr3 => by
    have := TakeAll_any base lo3 At A3 mt ct n3 c3 m.tab _ w' (hrtab.below hb) hct hr3 (hT.below hb)
    rwa [takeAllF_yes' HTAB.out] at this
  have HLO : Hid (∀ w' : World, Below w.heap.size w w' → Calls Tryd.prog 50 #[.slice A n c, .int .i64 (who : Int), .agg #[.int .i64 d.node, .int .i64 d.add]] w' (LksP w' (lkF t who d.node (modeF d)))) := fun w' hb => locksOf_t lo A n c t who d w' (hrt.below hb) hc HISN.out HASK.out
  have hLl : (lkF t who d.node (modeF d)).length ≤ 5 := lkF_len HISN.out
  have hHT := Lib.hid hT
  have hfl : m.fin.length ≤ 4 := by have := hI.finl; have := hsc.1; omega
  obtain ⟨dn, da⟩ := d
  simp only at hdn0 hdn1 hda0 hda1 q0 q1 hv HV
  obtain ⟨nd, rfl⟩ := Int.eq_ofNat_of_zero_le hdn0
  have hnd1 : (nd : Int) < (n : Int) := by omega
  have f0 : w.cell? ⟨gv, nd, none⟩ = some (.int .i64 v) := blk_cell hS.hv (iA_get (by simpa using hv))
  generalize hL : lkF t (who : Int) (nd : Int) (modeF ⟨(nd : Int), da⟩) = L at *
  cases htk : takeL m.tab L with
  | none =>
    rw [htk] at HTA
    have HE : Hid (pickM t sc m who = m) := pickM_block HND.out (by rw [hL]; exact htk)
    clear hS hp0 hp1 hpn hI hvt hsc hrt hrs hT hx hnd hisn hask hok hv htk hrtab
    have hbA := (Below.refl w.heap.size w).alloc (Nat.le_refl _) (.cells #[.int .i64 nd, .int .i64 da] 73)
    have HDB := Lib.hid (heap_alloc_new w (.cells #[.int .i64 nd, .int .i64 da] 73))
    have HL3 : gr < (w.alloc (.cells #[.int .i64 nd, .int .i64 da] 73)).drew.heap.size := by show gr < (w.alloc (.cells #[.int .i64 nd, .int .i64 da] 73)).heap.size; simp; omega
    have HLD : w.heap.size < (w.alloc (.cells #[.int .i64 nd, .int .i64 da] 73)).drew.heap.size := by show w.heap.size < (w.alloc (.cells #[.int .i64 nd, .int .i64 da] 73)).heap.size; simp
    have c3 : (w.alloc (.cells #[.int .i64 nd, .int .i64 da] 73)).drew.cell? ⟨gr, 3, none⟩ = some (.slice At mt ct) := (hbA.cell (p := ⟨gr, 3, none⟩) hszl).trans e3
    have c0 : (w.alloc (.cells #[.int .i64 nd, .int .i64 da] 73)).drew.cell? ⟨w.heap.size, 0, none⟩ = some (.int .i64 nd) := blk_cell HDB.out (i := 0) rfl
    have c1 : (w.alloc (.cells #[.int .i64 nd, .int .i64 da] 73)).drew.cell? ⟨w.heap.size, 1, none⟩ = some (.int .i64 da) := blk_cell HDB.out (i := 1) rfl
    go_enter Tryd.func62, Tryd.ntmps62
    go_wp2_with fail
    go_region_held3 (fun w' => w'.cell? ⟨gr, 3, none⟩ = some (.slice At mt ct) ∧ w'.cell? ⟨w.heap.size, 0, none⟩ = some (.int .i64 nd) ∧ w'.cell? ⟨w.heap.size, 1, none⟩ = some (.int .i64 da))
      (first | exact ⟨(hb56.cell HL3).trans c3, (hb56.cell HLD).trans c0, (hb56.cell HLD).trans c1⟩ | exact ⟨(hb5.cell HL3).trans c3, (hb5.cell HLD).trans c0, (hb5.cell HLD).trans c1⟩ | go_keep)
      ((first
        | (go_simp; go_at_call 50; refine (HLO.out (w.alloc (.cells #[.int .i64 nd, .int .i64 da] 73)).drew hbA.drew).mono ?_; rintro e w5 ⟨v5, rfl, ho5, hb5⟩; have hB5 := hbA.drew.trans (hb5.mono hbA.drew.size); obtain ⟨A5, m5, c5, rfl, hc5, hr5⟩ := ho5.rdn elL.len (by omega))
        | (go_simp; go_at_call 79; refine (HTA.out w5 _ A5 m5 c5 hB5 hr5).mono ?_; rintro e w6 ⟨rfl, hb6⟩; have hB6 := hB5.trans (hb6.mono hB5.size); have hb56 := hb5.trans (hb6.mono hb5.size))))
    all_goals (
      go_wp2_with fail
      first | go_end0 | ((try simp only [Exit.inBlock, Exit.then]); refine bodyPost_ret (results_none rfl _ _ _) rfl ?_)
      exact ⟨rfl, vo, _, by rw [HE.out]; exact HS.out.below hB6, hB6.mono hbsz⟩)
  | some l =>
    rw [htk] at HTA
    have hlv := takeL_VTb _ _ _ HTAB.out htk
    have HE : Hid (pickM t sc m who = endM sc who (stepM m who ⟨nd, da⟩ l)) := pickM_step HND.out (by rw [hL]; exact htk)
    have HPL : Hid (plc (stepM m who ⟨nd, da⟩ l) who = plc m who + 1) := stepM_plc hpw
    have HLV := Lib.hid hlv
    clear hS hp0 hp1 hpn hI hvt hsc hrt hrs hT hx hnd hisn hask hok hv htk hrtab hlv
    have hbA := (Below.refl w.heap.size w).alloc (Nat.le_refl _) (.cells #[.int .i64 nd, .int .i64 da] 73)
    have HDB := Lib.hid (heap_alloc_new w (.cells #[.int .i64 nd, .int .i64 da] 73))
    have HL3 : gr < (w.alloc (.cells #[.int .i64 nd, .int .i64 da] 73)).drew.heap.size := by show gr < (w.alloc (.cells #[.int .i64 nd, .int .i64 da] 73)).heap.size; simp; omega
    have HLD : w.heap.size < (w.alloc (.cells #[.int .i64 nd, .int .i64 da] 73)).drew.heap.size := by show w.heap.size < (w.alloc (.cells #[.int .i64 nd, .int .i64 da] 73)).heap.size; simp
    have c3 : (w.alloc (.cells #[.int .i64 nd, .int .i64 da] 73)).drew.cell? ⟨gr, 3, none⟩ = some (.slice At mt ct) := (hbA.cell (p := ⟨gr, 3, none⟩) hszl).trans e3
    have c0 : (w.alloc (.cells #[.int .i64 nd, .int .i64 da] 73)).drew.cell? ⟨w.heap.size, 0, none⟩ = some (.int .i64 nd) := blk_cell HDB.out (i := 0) rfl
    have c1 : (w.alloc (.cells #[.int .i64 nd, .int .i64 da] 73)).drew.cell? ⟨w.heap.size, 1, none⟩ = some (.int .i64 da) := blk_cell HDB.out (i := 1) rfl
    go_enter Tryd.func62, Tryd.ntmps62
    go_upto_region 2 with fail
    go_region_held3 (fun w' => w'.cell? ⟨gr, 3, none⟩ = some (.slice At mt ct) ∧ w'.cell? ⟨w.heap.size, 0, none⟩ = some (.int .i64 nd) ∧ w'.cell? ⟨w.heap.size, 1, none⟩ = some (.int .i64 da))
      (first | exact ⟨(hb56.cell HL3).trans c3, (hb56.cell HLD).trans c0, (hb56.cell HLD).trans c1⟩ | exact ⟨(hb5.cell HL3).trans c3, (hb5.cell HLD).trans c0, (hb5.cell HLD).trans c1⟩ | go_keep)
      ((first
        | (go_simp; go_at_call 50; refine (HLO.out (w.alloc (.cells #[.int .i64 nd, .int .i64 da] 73)).drew hbA.drew).mono ?_; rintro e w5 ⟨v5, rfl, ho5, hb5⟩; have hB5 := hbA.drew.trans (hb5.mono hbA.drew.size); obtain ⟨A5, m5, c5, rfl, hc5, hr5⟩ := ho5.rdn elL.len (by omega))
        | (go_simp; go_at_call 79; refine (HTA.out w5 _ A5 m5 c5 hB5 hr5).mono ?_; rintro e w6 ⟨v6, rfl, ho6, hb6⟩; have hB6 := hB5.trans (hb6.mono hB5.size); have hb56 := hb5.trans (hb6.mono hb5.size))))
    all_goals (
      obtain ⟨A6, m6, c6, rfl, hc6, _⟩ := id (ho6.rdn elL.len (by have := HLV.out.1; omega))
      have hs56 := hB5.size
      have hS7 := (HS.out.below hB6).setTab (ho6.low (by omega))
      have hD7 := blk_setne (blk_below (w := (w.alloc (.cells #[.int .i64 nd, .int .i64 da] 73)).drew) HDB.out hb56) (blk_ne (blk_below (w := (w.alloc (.cells #[.int .i64 nd, .int .i64 da] 73)).drew) HDB.out hb56) (HS.out.below hB6).hr (by decide)) 3 (.slice A6 m6 c6)
      have hB7 := (hB6.mono hbsz).setCell (p := ⟨gr, 3, none⟩) hsz (.slice A6 m6 c6)
      have z3 := blk_cell (HS.out.below hB6).hr (i := 3) rfl
      have zf := blk_free (HS.out.below hB6).hr 3
      clear e0 e1 e2 e3 p0 f0 hr5 ho5 ho6
      go_upto_region 5 with fail
      generalize hW7 : w6.setCell ⟨gr, 3, none⟩ (.slice A6 m6 c6) = W7 at *
      have a0 := blk_cell hS7.hr (i := 0) rfl
      have a1 := blk_cell hD7 (i := 0) rfl
      have a2 := blk_cell hD7 (i := 1) rfl
      have a3 : W7.cell? ⟨gv, nd, none⟩ = some (.int .i64 v) := blk_cell hS7.hv (iA_get (by have := HV.out; simpa using this))
      have a4 := blk_free hS7.hv nd
      have hS8 := (hS7.setVal nd (v + da)).drew
      have hB8 := (hB7.setCell (p := ⟨gv, nd, none⟩) HS.out.lv (.int .i64 (v + da))).drew
      have hwv : IntKind.i64.wrap (v + da) = v + da := IntWalk.i64_in _ (by omega)
      clear z3 zf hD7 hB7 hW7
      go_region
      all_goals (
        generalize hW8 : (W7.setCell ⟨gv, nd, none⟩ (.int .i64 (v + da))).drew = W8 at *
        have b1 := blk_cell hS8.hr (i := 1) rfl
        have b2 : W8.cell? ⟨gn, who, none⟩ = some (.int .i64 pn) := (blk_cell hS8.hn (iA_get (plc_get hpw))).trans (congrArg (fun z => some (Value.int IntKind.i64 z)) HPN.out)
        have b3 := blk_free hS8.hn who
        have hS9 := hS8.setPlace who ((pn : Int) + 1)
        have hB9 := hB8.setCell (p := ⟨gn, who, none⟩) HS.out.ln (.int .i64 ((pn : Int) + 1))
        clear a0 a1 a2 a3 a4 hS7 hS8 hB8 hW8
        go_upto_region 7 with fail
        generalize hW9 : W8.setCell ⟨gn, who, none⟩ (.int .i64 ((pn : Int) + 1)) = W9 at *
        have d1 := blk_cell hS9.hr (i := 1) rfl
        have d2 : W9.cell? ⟨gn, who, none⟩ = some (.int .i64 ((pn : Int) + 1)) := blk_cell hS9.hn (iA_get (by simp [hpw]))
        have HST : Hid (stepM m who ⟨nd, da⟩ l = { vals := m.vals.set nd (v + da), place := m.place.set who ((pn : Int) + 1), fin := m.fin, tab := l }) := by
          show _ = _
          unfold stepM
          have h1 := HV.out
          simp only [Int.toNat_natCast] at h1 ⊢
          rw [h1, HPN.out]
          rfl
        clear b1 b2 b3 hW9
        by_cases hl : pn + 1 = m2
        case neg =>
          have hl' : ((pn : Int) + 1 == (m2 : Int)) = false := by simp; omega
          have HEE : Hid (pickM t sc m who = { vals := m.vals.set nd (v + da), place := m.place.set who ((pn : Int) + 1), fin := m.fin, tab := l }) := by
            show _ = _
            rw [HE.out, endM_no (by rw [HPL.out, HPN.out]; have := HM2.out; omega), HST.out]
          clear hl
          go_wp2_with fail
          first | go_end0 | ((try simp only [Exit.inBlock, Exit.then]); refine bodyPost_ret (results_none rfl _ _ _) rfl ?_)
          exact ⟨rfl, _, _, by rw [HEE.out]; exact hS9, hB9⟩
        have hl' : ((pn : Int) + 1 == (m2 : Int)) = true := by simp; omega
        have HEE : Hid (pickM t sc m who = { vals := m.vals.set nd (v + da), place := m.place.set who ((pn : Int) + 1), fin := m.fin ++ [(who : Int)], tab := freeF l who }) := by
          show _ = _
          rw [HE.out, endM_yes (by rw [HPL.out, HPN.out]; have := HM2.out; omega), HST.out]
        have d3 := blk_cell hS9.hr (i := 3) rfl
        have hT9 : Tb W9 := hHT.out.keep (by have := hB9.size; omega) fun b hb => hB9.block b (by omega)
        have HFR := Lib.hid (FreeLocks_t base A6 m6 c6 l who W9 (hS9.tab.rds elL.len (by show l.length ≤ _; have := HLV.out.1; omega)).2 hc6 hT9 HLV.out)
        clear hl hT9
        go_wp2_with fail
        refine HFR.out.mono ?_
        rintro e w10 ⟨v10, rfl, ho10, hb10⟩
        obtain ⟨A10, m10, c10, rfl, hc10, _⟩ := id (ho10.rdn elL.len (by have := (freeF_VTb HLV.out who).1; omega))
        have hs9 := hB9.size
        have hS10 := hS9.below hb10
        have hB10 := hB9.trans (hb10.mono (by omega))
        have hS11 := hS10.setTab (ho10.low (by omega))
        have hB11 := hB10.setCell (p := ⟨gr, 3, none⟩) hsz (.slice A10 m10 c10)
        have g3 := blk_cell hS10.hr (i := 3) rfl
        have gf := blk_free hS10.hr 3
        clear d1 d2 d3 hS9 hB9
        go_upto_region 9 with fail
        generalize hW11 : w10.setCell ⟨gr, 3, none⟩ (.slice A10 m10 c10) = W11 at *
        have k2 := blk_cell hS11.hr (i := 2) rfl
        have hS12 := hS11.below ((Below.refl W11.heap.size W11).alloc (Nat.le_refl _) (.cells #[.int .i64 who] 3))
        have hs11 := hB11.size
        have hB12 := hB11.alloc (by omega) (.cells #[.int .i64 who] 3)
        clear g3 gf hS10 hB10 hW11
        go_wp2_with (at_builtin; refine wpList_append_rd elI _ rfl (.tmp 93) (.tmp 95) rfl rfl hS12.order rfl (Rd_one W11 #[.int .i64 who] 3 (who : Int) rfl) (by show (m.fin.length + 1) * 8 ≤ _; omega) (by simp; omega) ?_; intro v13 w13 ho13 hg13 hap13; obtain ⟨g13, m13, cap13, rfl, -, -, -, -⟩ := id (ho13.form (by simp)); have hS14 := hS12.setOrd hg13 ho13 hap13; have m0 := blk_cell (blk_keep hS12.hr hg13 (hS12.order.ap_blk hS12.hr (by decide))) (i := 2) rfl; have m1 := blk_free (blk_keep hS12.hr hg13 (hS12.order.ap_blk hS12.hr (by decide))) 2)
        first | go_end0 | ((try simp only [Exit.inBlock, Exit.then]); refine bodyPost_ret (results_none rfl _ _ _) rfl ?_)
        exact ⟨rfl, _, _, by rw [HEE.out]; exact hS14, (below_own hB12 hS12.order hg13 (Nat.le_refl _) (by simp; omega)).setCell (p := ⟨gr, 2, none⟩) hsz _⟩))
end Go.Proofs.YtgpocjehiohimaaDoor
