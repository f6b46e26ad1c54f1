/- The walk over the reference's pick. -/
import Derived.Test.YtgpocjehiohimaaDoorRunSW
namespace Go.Proofs.YtgpocjehiohimaaDoor
open Go.RowKit

/-- The reference's machine as it is made anew: lists of its own behind one block. -/
structure OutS (w : World) (base gm ga gb n k ca cb : Nat) (vc vt : Value) (m : Mc) : Prop where
  hm : w.heap[gm]? = some (.cells #[.slice (some ⟨ga, 0, none⟩) n ca, vt, .slice (some ⟨gb, 0, none⟩) k cb, vc] 55 (0, 0))
  oa : Own cI 1 3 w base (.slice (some ⟨ga, 0, none⟩) n ca) m.vals
  ob : Own cI 1 3 w base (.slice (some ⟨gb, 0, none⟩) k cb) m.place
  oc : Own cI 1 3 w base vc m.fin
  ne : ga ≠ gb
  apa : vc.ownBlock ≠ some ga
  apb : vc.ownBlock ≠ some gb
  tab : Own cL 3 67 w base vt m.tab
  lm : base ≤ gm
section
variable {w w1 : World} {base gm ga gb n k ca cb : Nat} {vc vt : Value} {m : Mc}
theorem OutS.below {w' : World} (h : OutS w base gm ga gb n k ca cb vc vt m) (hb : Below w.heap.size w w') : OutS w' base gm ga gb n k ca cb vc vt m :=
  ⟨blk_below h.hm hb, h.oa.below hb, h.ob.below hb, h.oc.below hb, h.ne, h.apa, h.apb, h.tab.below hb, h.lm⟩
theorem OutS.drew (h : OutS w base gm ga gb n k ca cb vc vt m) : OutS w.drew base gm ga gb n k ca cb vc vt m := ⟨h.hm, h.oa.drew, h.ob.drew, h.oc.drew, h.ne, h.apa, h.apb, h.tab.drew, h.lm⟩
theorem own_at {g cap q : Nat} {v : Value} (h : v = .slice (some ⟨g, 0, none⟩) q cap) : v.ownBlock = some g := by rw [h]; rfl
theorem OutS.apm (h : OutS w base gm ga gb n k ca cb vc vt m) : ga ≠ gm ∧ gb ≠ gm := by
  have h1 := h.oa.ap_blk h.hm (by decide)
  have h2 := h.ob.ap_blk h.hm (by decide)
  exact ⟨fun e => h1 (by rw [← e]; rfl), fun e => h2 (by rw [← e]; rfl)⟩
theorem OutS.setVal (h : OutS w base gm ga gb n k ca cb vc vt m) {i : Nat} (x v : Int) (hi : m.vals[i]? = some v) : OutS (w.setCell ⟨ga, i, none⟩ (.int .i64 x)) base gm ga gb n k ca cb vc vt { m with vals := m.vals.set i x } :=
  ⟨blk_setne h.hm h.apm.1.symm _ _, h.oa.set (u := .int .i64 x) (x' := x) (j := 0) (fun _ => rfl) hi rfl (by omega) (by omega), h.ob.keepc (by simp only [Value.ownBlock, ne_eq, Option.some.injEq]; exact h.ne.symm) _ _, h.oc.keepc h.apa _ _, h.ne, h.apa, h.apb, h.tab.keepc (by
    rcases h.tab.ap h.oa (by decide) with e | e
    · rw [e]; simp
    · exact e) _ _, h.lm⟩
theorem OutS.setPlace (h : OutS w base gm ga gb n k ca cb vc vt m) {i : Nat} (x v : Int) (hi : m.place[i]? = some v) : OutS (w.setCell ⟨gb, i, none⟩ (.int .i64 x)) base gm ga gb n k ca cb vc vt { m with place := m.place.set i x } :=
  ⟨blk_setne h.hm h.apm.2.symm _ _, h.oa.keepc (by simp only [Value.ownBlock, ne_eq, Option.some.injEq]; exact h.ne) _ _, h.ob.set (u := .int .i64 x) (x' := x) (j := 0) (fun _ => rfl) hi rfl (by omega) (by omega), h.oc.keepc h.apb _ _, h.ne, h.apa, h.apb, h.tab.keepc (by
    rcases h.tab.ap h.ob (by decide) with e | e
    · rw [e]; simp
    · exact e) _ _, h.lm⟩
theorem OutS.setTab {vt' : Value} {l : List Lk} (h : OutS w base gm ga gb n k ca cb vc vt m) (ho : Own cL 3 67 w base vt' l) : OutS (w.setCell ⟨gm, 1, none⟩ vt') base gm ga gb n k ca cb vc vt' { m with tab := l } :=
  ⟨(blk_set h.hm 1 vt').trans (by rfl), h.oa.keepb h.hm (by decide) _ _, h.ob.keepb h.hm (by decide) _ _, h.oc.keepb h.hm (by decide) _ _, h.ne, h.apa, h.apb, ho.keepb h.hm (by decide) _ _, h.lm⟩
theorem OutS.setFin {vc' : Value} {l : List Int} (h : OutS w base gm ga gb n k ca cb vc vt m) (hg : w.grownBy w1 vc.ownBlock) (ho : Own cI 1 3 w1 base vc' l) (hap : vc'.ownBlock = vc.ownBlock ∨ vc'.ownBlock = some w.heap.size) :
    OutS (w1.setCell ⟨gm, 3, none⟩ vc') base gm ga gb n k ca cb vc' vt { m with fin := l } := by
  have h1 := blk_keep h.hm hg (h.oc.ap_blk h.hm (by decide))
  have la := (h.oa.blk ga rfl).2
  have lb := (h.ob.blk gb rfl).2
  refine ⟨(blk_set h1 3 vc').trans (by rfl), (h.oa.grown' hg (.inr fun e => h.apa e.symm)).keepb h1 (by decide) _ _, (h.ob.grown' hg (.inr fun e => h.apb e.symm)).keepb h1 (by decide) _ _, ho.keepb h1 (by decide) _ _, h.ne, ?_, ?_, (h.tab.grown' hg (h.tab.ap h.oc (by decide))).keepb h1 (by decide) _ _, h.lm⟩
  · rcases hap with e | e
    · rw [e]; exact h.apa
    · rw [e]; intro e'; injection e' with e'; omega
  · rcases hap with e | e
    · rw [e]; exact h.apb
    · rw [e]; intro e'; injection e' with e'; omega
end
theorem keep3 {w6 w' : World} {p0 p2 p3 : Addr} {v0 v2 v3 : Value} (h : Below w6.heap.size w6 w') (k0 : p0.block < w6.heap.size) (k2 : p2.block < w6.heap.size) (k3 : p3.block < w6.heap.size) (f0 : w6.cell? p0 = some v0) (f2 : w6.cell? p2 = some v2) (f3 : w6.cell? p3 = some v3) :
    w'.cell? p0 = some v0 ∧ w'.cell? p2 = some v2 ∧ w'.cell? p3 = some v3 := ⟨(h.cell k0).trans f0, (h.cell k2).trans f2, (h.cell k3).trans f3⟩
theorem out_new {w : World} {base ga gb n k ca cb : Nat} {vc vt : Value} {m : Mc} (oa : Own cI 1 3 w base (.slice (some ⟨ga, 0, none⟩) n ca) m.vals) (ob : Own cI 1 3 w base (.slice (some ⟨gb, 0, none⟩) k cb) m.place) (oc : Own cI 1 3 w base vc m.fin) (tab : Own cL 3 67 w base vt m.tab)
    (ne : ga ≠ gb) (apa : vc.ownBlock ≠ some ga) (apb : vc.ownBlock ≠ some gb) (hb : base ≤ w.heap.size) : OutS (w.alloc (.cells #[.slice (some ⟨ga, 0, none⟩) n ca, vt, .slice (some ⟨gb, 0, none⟩) k cb, vc] 55)) base w.heap.size ga gb n k ca cb vc vt m :=
  ⟨heap_alloc_new _ _, oa.alloc _, ob.alloc _, oc.alloc _, ne, apa, apb, tab.alloc _, hb⟩
theorem out_set4 {w : World} {base gm ga gb n k ca cb : Nat} {vc vt a0 a1 a2 a3 : Value} {m : Mc} (hm : w.heap[gm]? = some (.cells #[a0, a1, a2, a3] 55 (0, 0))) (oa : Own cI 1 3 w base (.slice (some ⟨ga, 0, none⟩) n ca) m.vals) (ob : Own cI 1 3 w base (.slice (some ⟨gb, 0, none⟩) k cb) m.place) (oc : Own cI 1 3 w base vc m.fin) (tab : Own cL 3 67 w base vt m.tab)
    (ne : ga ≠ gb) (apa : vc.ownBlock ≠ some ga) (apb : vc.ownBlock ≠ some gb) (hb : base ≤ gm) : OutS ((((w.setCell ⟨gm, 0, none⟩ (.slice (some ⟨ga, 0, none⟩) n ca)).setCell ⟨gm, 1, none⟩ vt).setCell ⟨gm, 2, none⟩ (.slice (some ⟨gb, 0, none⟩) k cb)).setCell ⟨gm, 3, none⟩ vc) base gm ga gb n k ca cb vc vt m := by
  have h1 := blk_set hm 0 (.slice (some ⟨ga, 0, none⟩) n ca)
  have h2 := blk_set h1 1 vt
  have h3 := blk_set h2 2 (.slice (some ⟨gb, 0, none⟩) k cb)
  have h4 := blk_set h3 3 vc
  exact ⟨h4.trans (by rfl), (((oa.keepb hm (by decide) 0 _).keepb h1 (by decide) 1 _).keepb h2 (by decide) 2 _).keepb h3 (by decide) 3 _, (((ob.keepb hm (by decide) 0 _).keepb h1 (by decide) 1 _).keepb h2 (by decide) 2 _).keepb h3 (by decide) 3 _,
    (((oc.keepb hm (by decide) 0 _).keepb h1 (by decide) 1 _).keepb h2 (by decide) 2 _).keepb h3 (by decide) 3 _, ne, apa, apb, (((tab.keepb hm (by decide) 0 _).keepb h1 (by decide) 1 _).keepb h2 (by decide) 2 _).keepb h3 (by decide) 3 _, hb⟩
section
variable {w : World} {base gm ga gb n k ca cb : Nat} {vc vt : Value} {m : Mc}
theorem OutS.valAt (h : OutS w base gm ga gb n k ca cb vc vt m) {i : Nat} {v : Int} (hi : m.vals[i]? = some v) (hl : m.vals.length ≤ 1000) : w.cell? ⟨ga, i, none⟩ = some (.int .i64 v) ∧ w.frozen? ⟨ga, i, none⟩ = false := by
  obtain ⟨_, hr⟩ := h.oa.rds elI.len (by omega)
  obtain ⟨b, o, x, e, _, _, hx, hc⟩ := hr.atI (k := i) (by have := (List.getElem?_eq_some_iff.1 hi).1; have := hr.len; omega)
  simp only [Option.some.injEq, Addr.mk.injEq, and_true] at e
  obtain ⟨rfl, rfl⟩ := e
  rw [hi] at hx
  injection hx with hx
  subst hx
  exact ⟨by simpa using hc, h.oa.free i⟩
theorem OutS.placeAt (h : OutS w base gm ga gb n k ca cb vc vt m) {i : Nat} {v : Int} (hi : m.place[i]? = some v) (hl : m.place.length ≤ 1000) : w.cell? ⟨gb, i, none⟩ = some (.int .i64 v) ∧ w.frozen? ⟨gb, i, none⟩ = false := by
  obtain ⟨_, hr⟩ := h.ob.rds elI.len (by omega)
  obtain ⟨b, o, x, e, _, _, hx, hc⟩ := hr.atI (k := i) (by have := (List.getElem?_eq_some_iff.1 hi).1; have := hr.len; omega)
  simp only [Option.some.injEq, Addr.mk.injEq, and_true] at e
  obtain ⟨rfl, rfl⟩ := e
  rw [hi] at hx
  injection hx with hx
  subst hx
  exact ⟨by simpa using hc, h.ob.free i⟩
theorem OutS.mac4 (h : OutS w base gm ga gb n k ca cb vc vt m) {r : Nat} {a0 a1 a2 a3 : Value} (hr : w.heap[r]? = some (.cells #[a0, a1, a2, a3] 55 (0, 0))) (u0 u1 u2 u3 : Value) (h1 : m.vals.length ≤ 1000) (h2 : m.place.length ≤ 1000) (h3 : m.fin.length ≤ 1000) (h4 : m.tab.length ≤ 1000) :
    MacR ((((w.setCell ⟨r, 0, none⟩ u0).setCell ⟨r, 1, none⟩ u1).setCell ⟨r, 2, none⟩ u2).setCell ⟨r, 3, none⟩ u3) base (.slice (some ⟨ga, 0, none⟩) n ca) (.slice (some ⟨gb, 0, none⟩) k cb) vc vt m := by
  have k1 := blk_set hr 0 u0
  have k2 := blk_set k1 1 u1
  have k3 := blk_set k2 2 u2
  exact ⟨((((h.oa.keepb hr (by decide) 0 u0).keepb k1 (by decide) 1 u1).keepb k2 (by decide) 2 u2).keepb k3 (by decide) 3 u3).rdn elI.len (by omega), ((((h.ob.keepb hr (by decide) 0 u0).keepb k1 (by decide) 1 u1).keepb k2 (by decide) 2 u2).keepb k3 (by decide) 3 u3).rdn elI.len (by omega),
    ((((h.oc.keepb hr (by decide) 0 u0).keepb k1 (by decide) 1 u1).keepb k2 (by decide) 2 u2).keepb k3 (by decide) 3 u3).rdn elI.len (by omega), ((((h.tab.keepb hr (by decide) 0 u0).keepb k1 (by decide) 1 u1).keepb k2 (by decide) 2 u2).keepb k3 (by decide) 3 u3).rdn elL.len (by omega)⟩
end
/-- What the reference's pick hands back. -/
def PickO (w : World) (lo : Nat) (m : Mc) (e : Ending) (w' : World) : Prop := ∃ u1 u2 u3 u4, e = .returned (.agg #[u1, u4, u2, u3]) ∧ MacR w' lo u1 u2 u3 u4 m ∧ Below w.heap.size w w'

set_option maxRecDepth 100000 in
set_option maxHeartbeats 12800000 in
theorem pickS_t (lo lo1 lo2 : Nat) (v1 v2 v3 v4 : Value) (m : Mc) (t : List Nd) (sc : List (List Dd)) (who : Nat) (A A2 : Option Addr) (n c n2 c2 : Nat) (w : World) (hvt : VT t) (hsc : VSc t sc) (hI : Inv t sc m) (hw : who < sc.length)
    (hM : MacR w lo v1 v2 v3 v4 m) (hlo : lo ≤ w.heap.size) (hrt : Rd cN 3 w lo1 A n t) (hrs : Rds cD 2 w lo2 A2 n2 sc) :
    Calls Tryd.prog 58 #[.slice A n c, .slice A2 n2 c2, .agg #[v1, v4, v2, v3], .int .i64 (who : Int)] w (PickO w lo (pickM t sc m who)) := by
  obtain ⟨⟨B1, k1, d1, rfl, hd1, hr1⟩, ⟨B2, k2, d2, rfl, hd2, hr2⟩, ⟨B3, k3, d3, rfl, hd3, hr3⟩, ⟨B4, k4, d4, rfl, hd4, hr4⟩⟩ := id hM
  have HM := Lib.hid hM
  have HLS := Lib.hid hrs.len
  have hwn : (who : Int) < (n2 : Int) := by have := HLS.out; omega
  have hwk : (who : Int) < (k2 : Int) := by have := hr2.len; have := hI.plen; omega
  have hwk' : who < k2 := by omega
  have hwn' : who < n2 := by omega
  obtain ⟨bs, os, A', m2, c2', s, rfl, _, hbs, hsx, g0, hmc, hrsw⟩ := hrs.get hwn'
  have hse : s = scr sc who := by rw [scr_get hw] at hsx; injection hsx with hsx; exact hsx.symm
  subst hse
  have HM2 := Lib.hid hrsw.len
  have hpw : who < m.place.length := by rw [hI.plen]; exact hw
  obtain ⟨hp0, hp1⟩ := hI.prange who hw
  obtain ⟨pn, hpn⟩ := Int.eq_ofNat_of_zero_le hp0
  obtain ⟨b2, o2, x2, rfl, _, hb2, hx2, p0⟩ := hr2.atI hwk'
  have hxe : x2 = pn := by rw [plc_get hpw] at hx2; injection hx2 with hx2; rw [← hx2]; exact hpn
  subst hxe
  have HPN := Lib.hid hpn
  have hpm : pn ≤ m2 := by have := HM2.out; omega
  have hm3 : (m2 : Int) ≤ 3 := by have := (hsc.scr hw).1.2; have := HM2.out; omega
  have hMA := heap_alloc_new w (.cells #[.slice B1 k1 d1, .slice B4 k4 d4, .slice (some ⟨b2, o2, none⟩) k2 d2, .slice B3 k3 d3] 55)
  have hMB := blk_alloc hMA (.cells #[.slice none 0 0, .slice none 0 0, .slice none 0 0, .slice none 0 0] 55)
  have hRB := heap_alloc_new (w.alloc (.cells #[.slice B1 k1 d1, .slice B4 k4 d4, .slice (some ⟨b2, o2, none⟩) k2 d2, .slice B3 k3 d3] 55)) (.cells #[.slice none 0 0, .slice none 0 0, .slice none 0 0, .slice none 0 0] 55)
  rw [World.size_alloc] at hRB
  have hbA := bel_alloc (bel_alloc (Below.refl w.heap.size w) (.cells #[.slice B1 k1 d1, .slice B4 k4 d4, .slice (some ⟨b2, o2, none⟩) k2 d2, .slice B3 k3 d3] 55)) (.cells #[.slice none 0 0, .slice none 0 0, .slice none 0 0, .slice none 0 0] 55)
  clear hMA hx2 hsx
  go_enter Tryd.func58, Tryd.ntmps58
  go_upto_region 1 with fail
  generalize hW : (w.alloc (.cells #[.slice B1 k1 d1, .slice B4 k4 d4, .slice (some ⟨b2, o2, none⟩) k2 d2, .slice B3 k3 d3] 55)).alloc (.cells #[.slice none 0 0, .slice none 0 0, .slice none 0 0, .slice none 0 0] 55) = W at *
  clear hW
  have hsA := hbA.size
  have e2 := blk_cell hMB (i := 2) rfl
  have g1 := (hbA.cell (p := ⟨bs, os + who, none⟩) hbs).trans g0
  have p1 := (hbA.cell (p := ⟨b2, o2 + who, none⟩) hb2).trans p0
  have aa := aft e2
  have ab := aft g1
  have ac := aft p1
  have HG0 := Lib.hid g0
  clear g0 p0
  refine wp_region_after (by kernel_rfl) (by kernel_rfl) ?_
  repeat (go_big_quiet_step (fail))
  refine wpQuiet_nil ?_
  intro w7 hb7
  have hB7 := bel_next hbA hb7
  have hs7 := hB7.size
  have hM7 := blk_below hMB hb7
  have hR7 := blk_below hRB hb7
  have g7 := (hb7.cell (p := ⟨bs, os + who, none⟩) (World.block_lt_of_cell? _ _ g1)).trans g1
  have p7 := (hb7.cell (p := ⟨b2, o2 + who, none⟩) (World.block_lt_of_cell? _ _ p1)).trans p1
  have f0 := blk_cell hM7 (i := 0) rfl
  have f1 := blk_cell hM7 (i := 1) rfl
  have f2 := blk_cell hM7 (i := 2) rfl
  have f3 := blk_cell hM7 (i := 3) rfl
  have q0 := blk_cell hR7 (i := 0) rfl
  have q1 := blk_cell hR7 (i := 1) rfl
  have q2 := blk_cell hR7 (i := 2) rfl
  have q3 := blk_cell hR7 (i := 3) rfl
  have qf := blk_free hR7
  have hR7l := blk_lt hR7
  clear aa ab ac e2 g1 p1 hMB hRB hb7
  by_cases hd : pn = m2
  case pos =>
    have HE : Hid (pickM t sc m who = m) := pickM_none (nextD_end (by rw [hpn, hd]; have := HM2.out; omega))
    subst hd
    have HR7 := Lib.hid hR7
    have HM7 := Lib.hid (HM.out.below hB7)
    clear hI hvt hsc hrt hrs hM hr1 hr2 hr3 hr4 hrsw hM7
    go_wp2_with fail
    have E0 := blk_set (blk_set (blk_set (blk_set HR7.out 0 (.slice B1 k1 d1)) 1 (.slice B4 k4 d4)) 2 (.slice (some ⟨b2, o2, none⟩) k2 d2)) 3 (.slice B3 k3 d3)
    have r0 := blk_cell E0 (i := 0) rfl
    have r1 := blk_cell E0 (i := 1) rfl
    have r2 := blk_cell E0 (i := 2) rfl
    have r3 := blk_cell E0 (i := 3) rfl
    refine bodyPost_ret (v := .agg #[.slice B1 k1 d1, .slice B4 k4 d4, .slice (some ⟨b2, o2, none⟩) k2 d2, .slice B3 k3 d3]) (by simp [results, Tryd.results58, go_sem, r0, r1, r2, r3]) rfl ?_
    have HBZ : Below w.heap.size w ((((w7.setCell ⟨w.heap.size + 1, 0, none⟩ (.slice B1 k1 d1)).setCell ⟨w.heap.size + 1, 1, none⟩ (.slice B4 k4 d4)).setCell ⟨w.heap.size + 1, 2, none⟩ (.slice (some ⟨b2, o2, none⟩) k2 d2)).setCell ⟨w.heap.size + 1, 3, none⟩ (.slice B3 k3 d3)) :=
      (((hB7.setCell (p := ⟨w.heap.size + 1, 0, none⟩) (Nat.le_succ _) _).setCell (p := ⟨w.heap.size + 1, 1, none⟩) (Nat.le_succ _) _).setCell (p := ⟨w.heap.size + 1, 2, none⟩) (Nat.le_succ _) _).setCell (p := ⟨w.heap.size + 1, 3, none⟩) (Nat.le_succ _) _
    exact ⟨_, _, _, _, rfl, by rw [HE.out]; exact HM.out.below HBZ, HBZ⟩
  have hdn : ((pn : Int) == (m2 : Int)) = false := by simp; omega
  have hd' : (pn : Int) < (m2 : Int) := by omega
  obtain ⟨bx, ox, d, rfl, _, hbx, hx, x0, x1⟩ := (hrsw.below hB7).atD (k := pn) (by omega)
  have hnd := nextD_of hpn hx
  obtain ⟨hisn, hask, hok⟩ := do_ok hvt hsc hw hnd
  have HND := Lib.hid hnd
  have HISN := Lib.hid hisn
  have HMOD := Lib.hid hask.isM
  have hdn0 := hok.1.1
  have hdn1 := hok.1.2
  have hda0 := hok.2.1
  have hda1 := hok.2.2
  obtain ⟨v, hv⟩ : ∃ v, m.vals[d.node.toNat]? = some v := ⟨_, List.getElem?_eq_getElem (by rw [hI.vlen]; omega)⟩
  have hvb := hI.vbd hvt hsc hv
  have hfl : m.fin.length ≤ 4 := by have := hI.finl; have := hsc.1; omega
  have hvl : m.vals.length ≤ 12 := by rw [hI.vlen]; exact hvt.2.1
  have hpl : m.place.length ≤ 4 := by rw [hI.plen]; exact hsc.1
  have HV := Lib.hid hv
  have HTAB := Lib.hid hI.tab
  have hk1 : k1 = m.vals.length := hr1.len.symm
  have hk2 : k2 = m.place.length := hr2.len.symm
  have HK1 := Lib.hid hk1
  have HK2 := Lib.hid hk2
  have HVL : Hid (d.node.toNat < m.vals.length) := by show _ < _; rw [hI.vlen]; omega
  have HPW := Lib.hid hpw
  obtain ⟨dn, da⟩ := d
  simp only at hdn0 hdn1 hda0 hda1 x0 x1 hv HV HVL
  obtain ⟨nd, rfl⟩ := Int.eq_ofNat_of_zero_le hdn0
  rw [Int.toNat_natCast] at HVL HV
  have HTA : Hid (∀ (w' : World) (lo3 : Nat) (A3 : Option Addr) (n3 c3 : Nat), Below w.heap.size w w' → Rd cL 3 w' lo3 A3 n3 (lkF t who nd (modeF ⟨nd, da⟩)) → Calls Tryd.prog 75 #[.slice B4 k4 d4, .slice A3 n3 c3] w' (LksO w' (takeL m.tab (lkF t who nd (modeF ⟨nd, da⟩))))) := fun w' lo3 A3 n3 c3 hb hr3 =>
    takeAll_any lo lo3 B4 A3 k4 d4 n3 c3 m.tab _ w' (hr4.below hb) hd4 hr3 HTAB.out
  have HLF : Hid (∀ w' : World, Below w.heap.size w w' → Calls Tryd.prog 45 #[.slice A n c, .int .i64 (who : Int), .int .i64 (nd : Int), .int .i64 (modeF ⟨nd, da⟩)] w' (LksP w' (lkF t who nd (modeF ⟨nd, da⟩)))) := fun w' hb => locksForS_t lo1 A n c t who nd _ w' (hrt.below hb) HISN.out HMOD.out
  have hLl : (lkF t who nd (modeF ⟨nd, da⟩)).length ≤ 5 := lkF_len HISN.out
  have HC1 : Hid (∀ w' : World, Below w.heap.size w w' → Calls Tryd.prog 76 #[.slice B1 k1 d1] w' (IntsP w' m.vals)) := fun w' hb => copyInts_any lo B1 k1 d1 m.vals w' (hr1.below hb) (by omega)
  have HC2 : Hid (∀ w' : World, Below w.heap.size w w' → Calls Tryd.prog 76 #[.slice (some ⟨b2, o2, none⟩) k2 d2] w' (IntsP w' m.place)) := fun w' hb => copyInts_any lo _ k2 d2 m.place w' (hr2.below hb) (by omega)
  have HC3 : Hid (∀ w' : World, Below w.heap.size w w' → Calls Tryd.prog 76 #[.slice B3 k3 d3] w' (IntsP w' m.fin)) := fun w' hb => copyInts_any lo B3 k3 d3 m.fin w' (hr3.below hb) (by have := hr3.len; omega)
  have HHM := Lib.hid hM
  generalize hmode : modeF ⟨(nd : Int), da⟩ = md at *
  generalize hL : lkF t (who : Int) (nd : Int) md = L at *
  have HMD := Lib.hid hmode
  have HR7 := Lib.hid hR7
  have HM7 := Lib.hid hM7
  have n1 := World.new_ne w7 _ g7
  have n2' := World.new_ne w7 _ p7
  have n3' := World.new_ne w7 _ x0
  have n4 := World.new_ne w7 _ f2
  simp only at n1 n2' n3' n4
  clear hI hvt hsc hrt hrs hM hr1 hr2 hr3 hr4 hrsw hM7 hR7 hnd hisn hask hok hv hx hk1 hk2 hmode
  go_upto_region 3 with fail
  go_region_held3 (fun w' => w'.cell? ⟨bs, os + who, none⟩ = some (.slice (some ⟨bx, ox, none⟩) m2 c2') ∧ w'.cell? ⟨w.heap.size, 2, none⟩ = some (.slice (some ⟨b2, o2, none⟩) k2 d2) ∧ w'.cell? ⟨b2, o2 + who, none⟩ = some (.int .i64 pn) ∧ w'.cell? ⟨bx, ox + pn * 2, none⟩ = some (.int .i64 nd) ∧ w'.cell? ⟨bx, ox + pn * 2 + 1, none⟩ = some (.int .i64 da)) (go_keep) (fail)
  have hB8 := (bel_alloc hB7 (.cells #[.int .i64 nd, .int .i64 da] 73)).drew
  have hD8 := heap_alloc_new w7 (.cells #[.int .i64 nd, .int .i64 da] 73)
  have hR8 := blk_alloc HR7.out (.cells #[.int .i64 nd, .int .i64 da] 73)
  have hM8 := blk_alloc HM7.out (.cells #[.int .i64 nd, .int .i64 da] 73)
  have HD8 := Lib.hid hD8
  have HR8 := Lib.hid hR8
  have HM8 := Lib.hid hM8
  clear f0 f1 f2 f3 q0 q1 q2 q3 qf g7 p7 x0 x1 n1 n2' n3' n4 hD8 hR8 hM8 hR7l
  have dc1 : (w7.alloc (.cells #[.int .i64 nd, .int .i64 da] 73)).drew.cell? ⟨w7.heap.size, 1, none⟩ = some (.int .i64 da) := blk_cell HD8.out (i := 1) rfl
  go_upto_if 39 with fail
  obtain ⟨W8, hW8⟩ : ∃ X, X = (w7.alloc (.cells #[.int .i64 nd, .int .i64 da] 73)).drew := ⟨_, rfl⟩
  rw [← hW8] at hB8 dc1 ⊢
  have hD8 : W8.heap[w7.heap.size]? = some (.cells #[.int .i64 nd, .int .i64 da] 73 (0, 0)) := by rw [hW8]; exact HD8.out
  have hR8 : W8.heap[w.heap.size + 1]? = some (.cells #[.slice none 0 0, .slice none 0 0, .slice none 0 0, .slice none 0 0] 55 (0, 0)) := by rw [hW8]; exact HR8.out
  have hM8 : W8.heap[w.heap.size]? = some (.cells #[.slice B1 k1 d1, .slice B4 k4 d4, .slice (some ⟨b2, o2, none⟩) k2 d2, .slice B3 k3 d3] 55 (0, 0)) := by rw [hW8]; exact HM8.out
  clear hW8 HD8 HR8 HM8 HR7 HM7
  have HD8 := Lib.hid hD8
  have HR8 := Lib.hid hR8
  have HM8 := Lib.hid hM8
  clear hD8 hR8 hM8
  go_cut [10] (fun v10 wx => v10 = .int .i64 md ∧ wx = W8)
  case first =>
    by_cases h0 : da = 0
    · have hm : Hid (md = 3) := by show _ = _; rw [← HMD.out]; unfold modeF; rw [if_pos h0]
      subst h0
      go_wp2_with fail
      go_meet
      exact ⟨by rw [hm.out], rfl⟩
    · have hm : Hid (md = 5) := by show _ = _; rw [← HMD.out]; unfold modeF; rw [if_neg h0]
      have h0' : (da == 0) = false := by simpa using h0
      clear h0
      go_wp2_with fail
      go_meet
      exact ⟨by rw [hm.out], rfl⟩
  case rest =>
  obtain ⟨rfl, rfl⟩ := hcut
  have hs8 := hB8.size
  have f1 := blk_cell HM8.out (i := 1) rfl
  have dc0 := blk_cell HD8.out (i := 0) rfl
  have HL1 : w.heap.size < wc.drew.heap.size := by show w.heap.size < wc.heap.size; exact blk_lt HM8.out
  have HLD : w7.heap.size < wc.drew.heap.size := by show w7.heap.size < wc.heap.size; exact blk_lt HD8.out
  have c1 : wc.drew.cell? ⟨w.heap.size, 1, none⟩ = some (.slice B4 k4 d4) := f1
  have c0 : wc.drew.cell? ⟨w7.heap.size, 0, none⟩ = some (.int .i64 nd) := dc0
  cases htk : takeL m.tab L with
  | none =>
    rw [htk] at HTA
    have HE : Hid (pickM t sc m who = m) := pickM_block HND.out (by rw [HMD.out, hL]; exact htk)
    clear htk hL
    go_wp2_with fail
    go_region_held3 (fun w' => w'.cell? ⟨w.heap.size, 1, none⟩ = some (.slice B4 k4 d4) ∧ w'.cell? ⟨w7.heap.size, 0, none⟩ = some (.int .i64 nd))
      (first | exact ⟨(hb56.cell HL1).trans c1, (hb56.cell HLD).trans c0⟩ | exact ⟨(hb5.cell HL1).trans c1, (hb5.cell HLD).trans c0⟩ | go_keep)
      ((first
        | (go_simp; go_at_call 45; refine (HLF.out wc.drew hB8.drew).mono ?_; rintro e w5 ⟨v5, rfl, ho5, hb5⟩; have hB5 := bel_next hB8.drew hb5; obtain ⟨A5, m5, c5, rfl, hc5, hr5⟩ := ho5.rdn elL.len (by omega))
        | (go_simp; go_at_call 75; refine (HTA.out w5 _ A5 m5 c5 hB5 hr5).mono ?_; rintro e w6 ⟨rfl, hb6⟩; have hB6 := bel_next hB5 hb6; have hb56 := hb5.trans (hb6.mono hb5.size))))
    all_goals (
      have hM6 := blk_below (w := wc.drew) HM8.out hb56
      have hR6 := blk_below (w := wc.drew) HR8.out hb56
      have f0 := blk_cell hM6 (i := 0) rfl
      have f1 := blk_cell hM6 (i := 1) rfl
      have f2 := blk_cell hM6 (i := 2) rfl
      have f3 := blk_cell hM6 (i := 3) rfl
      have q0 := blk_cell hR6 (i := 0) rfl
      have q1 := blk_cell hR6 (i := 1) rfl
      have q2 := blk_cell hR6 (i := 2) rfl
      have q3 := blk_cell hR6 (i := 3) rfl
      have qf := blk_free hR6
      have HR6 := Lib.hid hR6
      clear hM6 hR6 hr5 ho5
      go_wp2_with fail
      have E0 := blk_set (blk_set (blk_set (blk_set HR6.out 0 (.slice B1 k1 d1)) 1 (.slice B4 k4 d4)) 2 (.slice (some ⟨b2, o2, none⟩) k2 d2)) 3 (.slice B3 k3 d3)
      have r0 := blk_cell E0 (i := 0) rfl
      have r1 := blk_cell E0 (i := 1) rfl
      have r2 := blk_cell E0 (i := 2) rfl
      have r3 := blk_cell E0 (i := 3) rfl
      refine bodyPost_ret (v := .agg #[.slice B1 k1 d1, .slice B4 k4 d4, .slice (some ⟨b2, o2, none⟩) k2 d2, .slice B3 k3 d3]) (by simp [results, Tryd.results58, go_sem, r0, r1, r2, r3]) rfl ?_
      have HBZ : Below w.heap.size w ((((w6.setCell ⟨w.heap.size + 1, 0, none⟩ (.slice B1 k1 d1)).setCell ⟨w.heap.size + 1, 1, none⟩ (.slice B4 k4 d4)).setCell ⟨w.heap.size + 1, 2, none⟩ (.slice (some ⟨b2, o2, none⟩) k2 d2)).setCell ⟨w.heap.size + 1, 3, none⟩ (.slice B3 k3 d3)) :=
        (((hB6.setCell (p := ⟨w.heap.size + 1, 0, none⟩) (Nat.le_succ _) _).setCell (p := ⟨w.heap.size + 1, 1, none⟩) (Nat.le_succ _) _).setCell (p := ⟨w.heap.size + 1, 2, none⟩) (Nat.le_succ _) _).setCell (p := ⟨w.heap.size + 1, 3, none⟩) (Nat.le_succ _) _
      exact ⟨_, _, _, _, rfl, by rw [HE.out]; exact HHM.out.below HBZ, HBZ⟩)
  | some l =>
    rw [htk] at HTA
    have hlv := takeL_VTb _ _ _ HTAB.out htk
    have HE : Hid (pickM t sc m who = endM sc who (stepM m who ⟨nd, da⟩ l)) := pickM_step HND.out (by rw [HMD.out, hL]; exact htk)
    have HPL : Hid (plc (stepM m who ⟨nd, da⟩ l) who = plc m who + 1) := stepM_plc HPW.out
    have HLV := Lib.hid hlv
    clear htk hL hlv
    go_wp2_with fail
    go_region_held3 (fun w' => w'.cell? ⟨w.heap.size, 1, none⟩ = some (.slice B4 k4 d4) ∧ w'.cell? ⟨w7.heap.size, 0, none⟩ = some (.int .i64 nd))
      (first | exact ⟨(hb56.cell HL1).trans c1, (hb56.cell HLD).trans c0⟩ | exact ⟨(hb5.cell HL1).trans c1, (hb5.cell HLD).trans c0⟩ | go_keep)
      ((first
        | (go_simp; go_at_call 45; refine (HLF.out wc.drew hB8.drew).mono ?_; rintro e w5 ⟨v5, rfl, ho5, hb5⟩; have hB5 := bel_next hB8.drew hb5; obtain ⟨A5, m5, c5, rfl, hc5, hr5⟩ := ho5.rdn elL.len (by omega))
        | (go_simp; go_at_call 75; refine (HTA.out w5 _ A5 m5 c5 hB5 hr5).mono ?_; rintro e w6 ⟨v6, rfl, ho6, hb6⟩; have hB6 := bel_next hB5 hb6; have hb56 := hb5.trans (hb6.mono hb5.size))))
    obtain ⟨A6, m6, c6, rfl, hc6, _⟩ := id (ho6.rdn elL.len (by have := HLV.out.1; omega))
    have hM6 := blk_below (w := wc.drew) HM8.out hb56
    have hR6 := blk_below (w := wc.drew) HR8.out hb56
    have hD6 := blk_below (w := wc.drew) HD8.out hb56
    have hs6 := hB6.size
    have hs5 := hB5.size
    have HO6 := Lib.hid (ho6.low hs5)
    have f0 := blk_cell hM6 (i := 0) rfl
    have f2 := blk_cell hM6 (i := 2) rfl
    have f3 := blk_cell hM6 (i := 3) rfl
    have HM6 := Lib.hid hM6
    have HR6 := Lib.hid hR6
    have HD6 := Lib.hid hD6
    clear hr5 ho5 ho6 hM6 hR6 hD6 hb5 hb6 hb56 HTA HLF c0 c1 dc0 dc1 f1 HL1 HLD
    have hM6l := blk_lt HM6.out
    have hR6l := blk_lt HR6.out
    have hD6l := blk_lt HD6.out
    have HL0 : w.heap.size < w6.drew.heap.size := by show w.heap.size < w6.heap.size; exact hM6l
    have c0 : w6.drew.cell? ⟨w.heap.size, 0, none⟩ = some (.slice B1 k1 d1) := f0
    have c2 : w6.drew.cell? ⟨w.heap.size, 2, none⟩ = some (.slice (some ⟨b2, o2, none⟩) k2 d2) := f2
    have c3 : w6.drew.cell? ⟨w.heap.size, 3, none⟩ = some (.slice B3 k3 d3) := f3
    have hB6d := hB6.drew
    have HD1 : Hid (∀ w' : World, Below w6.heap.size w6 w' → Calls Tryd.prog 76 #[.slice B1 k1 d1] w' fun e w'' => ∃ (ga ca : Nat), e = .returned (.slice (some ⟨ga, 0, none⟩) m.vals.length ca) ∧ Own cI 1 3 w'' w'.heap.size (.slice (some ⟨ga, 0, none⟩) m.vals.length ca) m.vals ∧ Below w'.heap.size w' w'' ∧ Below w6.heap.size w6 w'') := fun w' hb => by
      refine (HC1.out w' (bel_next hB6 hb)).mono ?_
      rintro e w'' ⟨u, rfl, ho, hb2⟩
      obtain ⟨ga, q, ca, rfl, _, _, _, rfl⟩ := ho.form (by have := HVL.out; omega)
      exact ⟨ga, ca, rfl, ho, hb2, bel_next hb hb2⟩
    have HD2 : Hid (∀ w' : World, Below w6.heap.size w6 w' → Calls Tryd.prog 76 #[.slice (some ⟨b2, o2, none⟩) k2 d2] w' fun e w'' => ∃ (gb cb : Nat), e = .returned (.slice (some ⟨gb, 0, none⟩) m.place.length cb) ∧ Own cI 1 3 w'' w'.heap.size (.slice (some ⟨gb, 0, none⟩) m.place.length cb) m.place ∧ Below w'.heap.size w' w'' ∧ Below w6.heap.size w6 w'') := fun w' hb => by
      refine (HC2.out w' (bel_next hB6 hb)).mono ?_
      rintro e w'' ⟨u, rfl, ho, hb2⟩
      obtain ⟨gb, q, cb, rfl, _, _, _, rfl⟩ := ho.form (by have := HPW.out; omega)
      exact ⟨gb, cb, rfl, ho, hb2, bel_next hb hb2⟩
    have HD3 : Hid (∀ w' : World, Below w6.heap.size w6 w' → Calls Tryd.prog 76 #[.slice B3 k3 d3] w' fun e w'' => ∃ (Ac : Option Addr) (nc kc : Nat), e = .returned (.slice Ac nc kc) ∧ Own cI 1 3 w'' w'.heap.size (.slice Ac nc kc) m.fin ∧ Below w'.heap.size w' w'' ∧ Below w6.heap.size w6 w'') := fun w' hb => by
      refine (HC3.out w' (bel_next hB6 hb)).mono ?_
      rintro e w'' ⟨u, rfl, ho, hb2⟩
      obtain ⟨Ac, nc, kc, rfl, _, _⟩ := id (ho.rdn elI.len (by omega))
      exact ⟨Ac, nc, kc, rfl, ho, hb2, bel_next hb hb2⟩
    have hZ0 : Below w6.heap.size w6 w6.drew := (Below.refl w6.heap.size w6).drew
    have hZ1 : Below w6.heap.size w6 (w6.alloc (.cells #[.slice none 0 0, .slice none 0 0, .slice none 0 0, .slice none 0 0] 55)).drew := (bel_alloc (Below.refl w6.heap.size w6) (.cells #[.slice none 0 0, .slice none 0 0, .slice none 0 0, .slice none 0 0] 55)).drew
    have HK0 : Hid ((⟨w.heap.size, 0, none⟩ : Addr).block < w6.heap.size) := hM6l
    have HK2 : Hid ((⟨w.heap.size, 2, none⟩ : Addr).block < w6.heap.size) := hM6l
    have HK3 : Hid ((⟨w.heap.size, 3, none⟩ : Addr).block < w6.heap.size) := hM6l
    have HF0 : Hid (w6.cell? ⟨w.heap.size, 0, none⟩ = some (.slice B1 k1 d1)) := f0
    have HF2 : Hid (w6.cell? ⟨w.heap.size, 2, none⟩ = some (.slice (some ⟨b2, o2, none⟩) k2 d2)) := f2
    have HF3 : Hid (w6.cell? ⟨w.heap.size, 3, none⟩ = some (.slice B3 k3 d3)) := f3
    have hz0s : w6.drew.heap.size = w6.heap.size := rfl
    have hz1s : (w6.alloc (.cells #[.slice none 0 0, .slice none 0 0, .slice none 0 0, .slice none 0 0] 55)).drew.heap.size = w6.heap.size + 1 := World.size_alloc _ _
    go_upto_region 10 with fail
    go_cut [13] (fun v13 wx => ∃ gm ga gb ca cb vc, v13 = .pointer (some ⟨gm, 0, none⟩) ∧ OutS wx w.heap.size gm ga gb m.vals.length m.place.length ca cb vc (.slice A6 m6 c6) { m with tab := l } ∧ w6.heap.size ≤ gm ∧ Below w6.heap.size w6 wx)
    case first =>
      go_region_held3 (fun w' => w'.cell? ⟨w.heap.size, 0, none⟩ = some (.slice B1 k1 d1) ∧ w'.cell? ⟨w.heap.size, 2, none⟩ = some (.slice (some ⟨b2, o2, none⟩) k2 d2) ∧ w'.cell? ⟨w.heap.size, 3, none⟩ = some (.slice B3 k3 d3))
        (first | with_reducible exact keep3 hZc HK0.out HK2.out HK3.out HF0.out HF2.out HF3.out | with_reducible exact keep3 (bel_alloc hZc _) HK0.out HK2.out HK3.out HF0.out HF2.out HF3.out | with_reducible exact keep3 hZb HK0.out HK2.out HK3.out HF0.out HF2.out HF3.out | with_reducible exact keep3 (bel_alloc hZb _) HK0.out HK2.out HK3.out HF0.out HF2.out HF3.out | with_reducible exact keep3 hZa HK0.out HK2.out HK3.out HF0.out HF2.out HF3.out | with_reducible exact keep3 (bel_alloc hZa _) HK0.out HK2.out HK3.out HF0.out HF2.out HF3.out | with_reducible exact keep3 ((((hZc.setCell (p := ⟨_, 0, none⟩) (by first | exact Nat.le_refl _ | exact hZa.size | exact hZb.size | exact hZc.size) _).setCell (p := ⟨_, 1, none⟩) (by first | exact Nat.le_refl _ | exact hZa.size | exact hZb.size | exact hZc.size) _).setCell (p := ⟨_, 2, none⟩) (by first | exact Nat.le_refl _ | exact hZa.size | exact hZb.size | exact hZc.size) _).setCell (p := ⟨_, 3, none⟩) (by first | exact Nat.le_refl _ | exact hZa.size | exact hZb.size | exact hZc.size) _) HK0.out HK2.out HK3.out HF0.out HF2.out HF3.out | with_reducible exact keep3 ((((hZb.setCell (p := ⟨_, 0, none⟩) (by first | exact Nat.le_refl _ | exact hZa.size | exact hZb.size | exact hZc.size) _).setCell (p := ⟨_, 1, none⟩) (by first | exact Nat.le_refl _ | exact hZa.size | exact hZb.size | exact hZc.size) _).setCell (p := ⟨_, 2, none⟩) (by first | exact Nat.le_refl _ | exact hZa.size | exact hZb.size | exact hZc.size) _).setCell (p := ⟨_, 3, none⟩) (by first | exact Nat.le_refl _ | exact hZa.size | exact hZb.size | exact hZc.size) _) HK0.out HK2.out HK3.out HF0.out HF2.out HF3.out | with_reducible exact keep3 ((((hZa.setCell (p := ⟨_, 0, none⟩) (by first | exact Nat.le_refl _ | exact hZa.size | exact hZb.size | exact hZc.size) _).setCell (p := ⟨_, 1, none⟩) (by first | exact Nat.le_refl _ | exact hZa.size | exact hZb.size | exact hZc.size) _).setCell (p := ⟨_, 2, none⟩) (by first | exact Nat.le_refl _ | exact hZa.size | exact hZb.size | exact hZc.size) _).setCell (p := ⟨_, 3, none⟩) (by first | exact Nat.le_refl _ | exact hZa.size | exact hZb.size | exact hZc.size) _) HK0.out HK2.out HK3.out HF0.out HF2.out HF3.out | with_reducible exact keep3 hZ1 HK0.out HK2.out HK3.out HF0.out HF2.out HF3.out | with_reducible exact keep3 hZ0 HK0.out HK2.out HK3.out HF0.out HF2.out HF3.out | go_keep)
        ((first
          | (go_simp; go_at_call 76; first
            | ((with_reducible refine (HD1.out w6.drew hZ0).mono ?_); rintro e wa ⟨ga, ca, rfl, hoa, hba, hZa⟩)
            | ((with_reducible refine (HD1.out (w6.alloc (.cells #[.slice none 0 0, .slice none 0 0, .slice none 0 0, .slice none 0 0] 55)).drew hZ1).mono ?_); rintro e wa ⟨ga, ca, rfl, hoa, hba, hZa⟩; have hG := blk_below (w := (w6.alloc (.cells #[.slice none 0 0, .slice none 0 0, .slice none 0 0, .slice none 0 0] 55)).drew) (heap_alloc_new w6 (.cells #[.slice none 0 0, .slice none 0 0, .slice none 0 0, .slice none 0 0] 55)) hba; have z0 := blk_cell hG (i := 0) rfl; have z1 := blk_cell hG (i := 1) rfl; have z2 := blk_cell hG (i := 2) rfl; have z3 := blk_cell hG (i := 3) rfl; have zf := blk_free hG)
            | ((with_reducible refine (HD1.out wb hZb).mono ?_); rintro e wa ⟨ga, ca, rfl, hoa, hba, hZa⟩; (first | (have hG := blk_below hG hba; have z0 := blk_cell hG (i := 0) rfl; have z1 := blk_cell hG (i := 1) rfl; have z2 := blk_cell hG (i := 2) rfl; have z3 := blk_cell hG (i := 3) rfl; have zf := blk_free hG) | skip))
            | ((with_reducible refine (HD1.out (wb.alloc (.cells #[.slice none 0 0, .slice none 0 0, .slice none 0 0, .slice none 0 0] 55)) (bel_alloc hZb (.cells #[.slice none 0 0, .slice none 0 0, .slice none 0 0, .slice none 0 0] 55))).mono ?_); rintro e wa ⟨ga, ca, rfl, hoa, hba, hZa⟩; have hG := blk_below (w := (wb.alloc (.cells #[.slice none 0 0, .slice none 0 0, .slice none 0 0, .slice none 0 0] 55))) (heap_alloc_new wb (.cells #[.slice none 0 0, .slice none 0 0, .slice none 0 0, .slice none 0 0] 55)) hba; have z0 := blk_cell hG (i := 0) rfl; have z1 := blk_cell hG (i := 1) rfl; have z2 := blk_cell hG (i := 2) rfl; have z3 := blk_cell hG (i := 3) rfl; have zf := blk_free hG)
            | ((with_reducible refine (HD1.out wc hZc).mono ?_); rintro e wa ⟨ga, ca, rfl, hoa, hba, hZa⟩; (first | (have hG := blk_below hG hba; have z0 := blk_cell hG (i := 0) rfl; have z1 := blk_cell hG (i := 1) rfl; have z2 := blk_cell hG (i := 2) rfl; have z3 := blk_cell hG (i := 3) rfl; have zf := blk_free hG) | skip))
            | ((with_reducible refine (HD1.out (wc.alloc (.cells #[.slice none 0 0, .slice none 0 0, .slice none 0 0, .slice none 0 0] 55)) (bel_alloc hZc (.cells #[.slice none 0 0, .slice none 0 0, .slice none 0 0, .slice none 0 0] 55))).mono ?_); rintro e wa ⟨ga, ca, rfl, hoa, hba, hZa⟩; have hG := blk_below (w := (wc.alloc (.cells #[.slice none 0 0, .slice none 0 0, .slice none 0 0, .slice none 0 0] 55))) (heap_alloc_new wc (.cells #[.slice none 0 0, .slice none 0 0, .slice none 0 0, .slice none 0 0] 55)) hba; have z0 := blk_cell hG (i := 0) rfl; have z1 := blk_cell hG (i := 1) rfl; have z2 := blk_cell hG (i := 2) rfl; have z3 := blk_cell hG (i := 3) rfl; have zf := blk_free hG)
            | ((with_reducible refine (HD2.out w6.drew hZ0).mono ?_); rintro e wb ⟨gb, cb, rfl, hob, hbb, hZb⟩)
            | ((with_reducible refine (HD2.out (w6.alloc (.cells #[.slice none 0 0, .slice none 0 0, .slice none 0 0, .slice none 0 0] 55)).drew hZ1).mono ?_); rintro e wb ⟨gb, cb, rfl, hob, hbb, hZb⟩; have hG := blk_below (w := (w6.alloc (.cells #[.slice none 0 0, .slice none 0 0, .slice none 0 0, .slice none 0 0] 55)).drew) (heap_alloc_new w6 (.cells #[.slice none 0 0, .slice none 0 0, .slice none 0 0, .slice none 0 0] 55)) hbb; have z0 := blk_cell hG (i := 0) rfl; have z1 := blk_cell hG (i := 1) rfl; have z2 := blk_cell hG (i := 2) rfl; have z3 := blk_cell hG (i := 3) rfl; have zf := blk_free hG)
            | ((with_reducible refine (HD2.out wa hZa).mono ?_); rintro e wb ⟨gb, cb, rfl, hob, hbb, hZb⟩; (first | (have hG := blk_below hG hbb; have z0 := blk_cell hG (i := 0) rfl; have z1 := blk_cell hG (i := 1) rfl; have z2 := blk_cell hG (i := 2) rfl; have z3 := blk_cell hG (i := 3) rfl; have zf := blk_free hG) | skip))
            | ((with_reducible refine (HD2.out (wa.alloc (.cells #[.slice none 0 0, .slice none 0 0, .slice none 0 0, .slice none 0 0] 55)) (bel_alloc hZa (.cells #[.slice none 0 0, .slice none 0 0, .slice none 0 0, .slice none 0 0] 55))).mono ?_); rintro e wb ⟨gb, cb, rfl, hob, hbb, hZb⟩; have hG := blk_below (w := (wa.alloc (.cells #[.slice none 0 0, .slice none 0 0, .slice none 0 0, .slice none 0 0] 55))) (heap_alloc_new wa (.cells #[.slice none 0 0, .slice none 0 0, .slice none 0 0, .slice none 0 0] 55)) hbb; have z0 := blk_cell hG (i := 0) rfl; have z1 := blk_cell hG (i := 1) rfl; have z2 := blk_cell hG (i := 2) rfl; have z3 := blk_cell hG (i := 3) rfl; have zf := blk_free hG)
            | ((with_reducible refine (HD2.out wc hZc).mono ?_); rintro e wb ⟨gb, cb, rfl, hob, hbb, hZb⟩; (first | (have hG := blk_below hG hbb; have z0 := blk_cell hG (i := 0) rfl; have z1 := blk_cell hG (i := 1) rfl; have z2 := blk_cell hG (i := 2) rfl; have z3 := blk_cell hG (i := 3) rfl; have zf := blk_free hG) | skip))
            | ((with_reducible refine (HD2.out (wc.alloc (.cells #[.slice none 0 0, .slice none 0 0, .slice none 0 0, .slice none 0 0] 55)) (bel_alloc hZc (.cells #[.slice none 0 0, .slice none 0 0, .slice none 0 0, .slice none 0 0] 55))).mono ?_); rintro e wb ⟨gb, cb, rfl, hob, hbb, hZb⟩; have hG := blk_below (w := (wc.alloc (.cells #[.slice none 0 0, .slice none 0 0, .slice none 0 0, .slice none 0 0] 55))) (heap_alloc_new wc (.cells #[.slice none 0 0, .slice none 0 0, .slice none 0 0, .slice none 0 0] 55)) hbb; have z0 := blk_cell hG (i := 0) rfl; have z1 := blk_cell hG (i := 1) rfl; have z2 := blk_cell hG (i := 2) rfl; have z3 := blk_cell hG (i := 3) rfl; have zf := blk_free hG)
            | ((with_reducible refine (HD3.out w6.drew hZ0).mono ?_); rintro e wc ⟨Ac, nc, kc, rfl, hoc, hbc, hZc⟩)
            | ((with_reducible refine (HD3.out (w6.alloc (.cells #[.slice none 0 0, .slice none 0 0, .slice none 0 0, .slice none 0 0] 55)).drew hZ1).mono ?_); rintro e wc ⟨Ac, nc, kc, rfl, hoc, hbc, hZc⟩; have hG := blk_below (w := (w6.alloc (.cells #[.slice none 0 0, .slice none 0 0, .slice none 0 0, .slice none 0 0] 55)).drew) (heap_alloc_new w6 (.cells #[.slice none 0 0, .slice none 0 0, .slice none 0 0, .slice none 0 0] 55)) hbc; have z0 := blk_cell hG (i := 0) rfl; have z1 := blk_cell hG (i := 1) rfl; have z2 := blk_cell hG (i := 2) rfl; have z3 := blk_cell hG (i := 3) rfl; have zf := blk_free hG)
            | ((with_reducible refine (HD3.out wa hZa).mono ?_); rintro e wc ⟨Ac, nc, kc, rfl, hoc, hbc, hZc⟩; (first | (have hG := blk_below hG hbc; have z0 := blk_cell hG (i := 0) rfl; have z1 := blk_cell hG (i := 1) rfl; have z2 := blk_cell hG (i := 2) rfl; have z3 := blk_cell hG (i := 3) rfl; have zf := blk_free hG) | skip))
            | ((with_reducible refine (HD3.out (wa.alloc (.cells #[.slice none 0 0, .slice none 0 0, .slice none 0 0, .slice none 0 0] 55)) (bel_alloc hZa (.cells #[.slice none 0 0, .slice none 0 0, .slice none 0 0, .slice none 0 0] 55))).mono ?_); rintro e wc ⟨Ac, nc, kc, rfl, hoc, hbc, hZc⟩; have hG := blk_below (w := (wa.alloc (.cells #[.slice none 0 0, .slice none 0 0, .slice none 0 0, .slice none 0 0] 55))) (heap_alloc_new wa (.cells #[.slice none 0 0, .slice none 0 0, .slice none 0 0, .slice none 0 0] 55)) hbc; have z0 := blk_cell hG (i := 0) rfl; have z1 := blk_cell hG (i := 1) rfl; have z2 := blk_cell hG (i := 2) rfl; have z3 := blk_cell hG (i := 3) rfl; have zf := blk_free hG)
            | ((with_reducible refine (HD3.out wb hZb).mono ?_); rintro e wc ⟨Ac, nc, kc, rfl, hoc, hbc, hZc⟩; (first | (have hG := blk_below hG hbc; have z0 := blk_cell hG (i := 0) rfl; have z1 := blk_cell hG (i := 1) rfl; have z2 := blk_cell hG (i := 2) rfl; have z3 := blk_cell hG (i := 3) rfl; have zf := blk_free hG) | skip))
            | ((with_reducible refine (HD3.out (wb.alloc (.cells #[.slice none 0 0, .slice none 0 0, .slice none 0 0, .slice none 0 0] 55)) (bel_alloc hZb (.cells #[.slice none 0 0, .slice none 0 0, .slice none 0 0, .slice none 0 0] 55))).mono ?_); rintro e wc ⟨Ac, nc, kc, rfl, hoc, hbc, hZc⟩; have hG := blk_below (w := (wb.alloc (.cells #[.slice none 0 0, .slice none 0 0, .slice none 0 0, .slice none 0 0] 55))) (heap_alloc_new wb (.cells #[.slice none 0 0, .slice none 0 0, .slice none 0 0, .slice none 0 0] 55)) hbc; have z0 := blk_cell hG (i := 0) rfl; have z1 := blk_cell hG (i := 1) rfl; have z2 := blk_cell hG (i := 2) rfl; have z3 := blk_cell hG (i := 3) rfl; have zf := blk_free hG))))
      all_goals (
        have sa := hba.size
        have sb := hbb.size
        have sc := hbc.size
        have ka := hoa.blk ga rfl
        have kb := hob.blk gb rfl
        have kc' := hoc.blk
        try simp only [World.size_alloc] at sa
        try simp only [World.size_alloc] at sb
        try simp only [World.size_alloc] at sc
        try simp only [World.size_alloc] at ka
        try simp only [World.size_alloc] at kb
        try simp only [World.size_alloc] at kc'
        try simp only [World.size_alloc] at hoa
        try simp only [World.size_alloc] at hob
        try simp only [World.size_alloc] at hoc
        go_wp2_with fail
        go_meet
        apply Exists.intro
        apply Exists.intro
        apply Exists.intro
        apply Exists.intro
        apply Exists.intro
        apply Exists.intro
        refine ⟨rfl, ?_, ?_, ?_⟩
        · first
            | (refine out_new ?_ ?_ ?_ ?_ (by omega) (fun e => by have := kc' ga e; omega) (fun e => by have := kc' gb e; omega) (by omega)
               · (repeat (first | with_reducible exact hoa.low (by omega) | with_reducible exact hob.low (by omega) | with_reducible exact hoc.low (by omega) | with_reducible refine Own.below ?_ hba | with_reducible refine Own.below ?_ hbb | with_reducible refine Own.below ?_ hbc | with_reducible refine Own.alloc ?_ _))
               · (repeat (first | with_reducible exact hoa.low (by omega) | with_reducible exact hob.low (by omega) | with_reducible exact hoc.low (by omega) | with_reducible refine Own.below ?_ hba | with_reducible refine Own.below ?_ hbb | with_reducible refine Own.below ?_ hbc | with_reducible refine Own.alloc ?_ _))
               · (repeat (first | with_reducible exact hoa.low (by omega) | with_reducible exact hob.low (by omega) | with_reducible exact hoc.low (by omega) | with_reducible refine Own.below ?_ hba | with_reducible refine Own.below ?_ hbb | with_reducible refine Own.below ?_ hbc | with_reducible refine Own.alloc ?_ _))
               · first | exact HO6.out.below hZc | exact HO6.out.below hZb | exact HO6.out.below hZa)
            | (refine out_set4 (a0 := .slice none 0 0) (a1 := .slice none 0 0) (a2 := .slice none 0 0) (a3 := .slice none 0 0) ?_ ?_ ?_ ?_ ?_ (by omega) (fun e => by have := kc' ga e; omega) (fun e => by have := kc' gb e; omega) (by omega)
               · (repeat (first | exact heap_alloc_new _ _ | refine blk_below ?_ hba | refine blk_below ?_ hbb | refine blk_below ?_ hbc))
               · (repeat (first | with_reducible exact hoa.low (by omega) | with_reducible exact hob.low (by omega) | with_reducible exact hoc.low (by omega) | with_reducible refine Own.below ?_ hba | with_reducible refine Own.below ?_ hbb | with_reducible refine Own.below ?_ hbc | with_reducible refine Own.alloc ?_ _))
               · (repeat (first | with_reducible exact hoa.low (by omega) | with_reducible exact hob.low (by omega) | with_reducible exact hoc.low (by omega) | with_reducible refine Own.below ?_ hba | with_reducible refine Own.below ?_ hbb | with_reducible refine Own.below ?_ hbc | with_reducible refine Own.alloc ?_ _))
               · (repeat (first | with_reducible exact hoa.low (by omega) | with_reducible exact hob.low (by omega) | with_reducible exact hoc.low (by omega) | with_reducible refine Own.below ?_ hba | with_reducible refine Own.below ?_ hbb | with_reducible refine Own.below ?_ hbc | with_reducible refine Own.alloc ?_ _))
               · first | exact HO6.out.below hZc | exact HO6.out.below hZb | exact HO6.out.below hZa)
        · omega
        · first | exact (bel_alloc hZc _) | exact (bel_alloc hZb _) | exact (bel_alloc hZa _) | exact ((((hZc.setCell (p := ⟨_, 0, none⟩) (by first | exact Nat.le_refl _ | exact hZa.size | exact hZb.size | exact hZc.size) _).setCell (p := ⟨_, 1, none⟩) (by first | exact Nat.le_refl _ | exact hZa.size | exact hZb.size | exact hZc.size) _).setCell (p := ⟨_, 2, none⟩) (by first | exact Nat.le_refl _ | exact hZa.size | exact hZb.size | exact hZc.size) _).setCell (p := ⟨_, 3, none⟩) (by first | exact Nat.le_refl _ | exact hZa.size | exact hZb.size | exact hZc.size) _) | exact ((((hZb.setCell (p := ⟨_, 0, none⟩) (by first | exact Nat.le_refl _ | exact hZa.size | exact hZb.size | exact hZc.size) _).setCell (p := ⟨_, 1, none⟩) (by first | exact Nat.le_refl _ | exact hZa.size | exact hZb.size | exact hZc.size) _).setCell (p := ⟨_, 2, none⟩) (by first | exact Nat.le_refl _ | exact hZa.size | exact hZb.size | exact hZc.size) _).setCell (p := ⟨_, 3, none⟩) (by first | exact Nat.le_refl _ | exact hZa.size | exact hZb.size | exact hZc.size) _) | exact ((((hZa.setCell (p := ⟨_, 0, none⟩) (by first | exact Nat.le_refl _ | exact hZa.size | exact hZb.size | exact hZc.size) _).setCell (p := ⟨_, 1, none⟩) (by first | exact Nat.le_refl _ | exact hZa.size | exact hZb.size | exact hZc.size) _).setCell (p := ⟨_, 2, none⟩) (by first | exact Nat.le_refl _ | exact hZa.size | exact hZb.size | exact hZc.size) _).setCell (p := ⟨_, 3, none⟩) (by first | exact Nat.le_refl _ | exact hZa.size | exact hZb.size | exact hZc.size) _))
    case rest =>
    rename World => W10
    obtain ⟨gm, ga, gb, ca, cb, vc, rfl, hO, hgm, hb10⟩ := hcut
    obtain ⟨Ac, nc, kc, rfl, _, _⟩ := id (hO.oc.rdn elI.len (by show m.fin.length ≤ _; omega))
    have hs10 := hb10.size
    have hB10 := bel_next hB6 hb10
    have hR10 := blk_below HR6.out hb10
    have hD10 := blk_below HD6.out hb10
    have hvv : m.vals[nd]? = some v := HV.out
    have hpp : m.place[who]? = some (pn : Int) := (plc_get HPW.out).trans (congrArg some HPN.out)
    have hnl : (nd : Int) < (m.vals.length : Int) := by have := HVL.out; omega
    have hwl : (who : Int) < (m.place.length : Int) := by have := HPW.out; omega
    have hwv : IntKind.i64.wrap (v + da) = v + da := IntWalk.i64_in _ (by omega)
    obtain ⟨a3, a4⟩ := hO.valAt hvv (by show m.vals.length ≤ _; omega)
    have a0 := blk_cell hO.hm (i := 0) rfl
    have a1 := blk_cell hD10 (i := 0) rfl
    have a2 := blk_cell hD10 (i := 1) rfl
    have hgl : w.heap.size ≤ ga := (hO.oa.blk ga rfl).1
    have hgbl : w.heap.size ≤ gb := (hO.ob.blk gb rfl).1
    have hgml : w.heap.size ≤ gm := hO.lm
    have hO11 := (hO.setVal (v + da) v hvv).drew
    have hB11 := (hB10.setCell (p := ⟨ga, nd, none⟩) hgl (.int .i64 (v + da))).drew
    have hne1 : w.heap.size + 1 ≠ ga := fun e => hO.oa.ap_blk hR10 (by decide) (by rw [e]; rfl)
    have hne2 : w.heap.size + 1 ≠ gb := fun e => hO.ob.ap_blk hR10 (by decide) (by rw [e]; rfl)
    have hne3 : w.heap.size + 1 ≠ gm := by omega
    have hR11 : (W10.setCell ⟨ga, nd, none⟩ (.int .i64 (v + da))).drew.heap[w.heap.size + 1]? = some (.cells #[.slice none 0 0, .slice none 0 0, .slice none 0 0, .slice none 0 0] 55 (0, 0)) := blk_setne hR10 hne1 _ _
    have HO11 := Lib.hid hO11
    have HR11 := Lib.hid hR11
    have HST : Hid (stepM m who ⟨nd, da⟩ l = { vals := m.vals.set nd (v + da), place := m.place.set who ((pn : Int) + 1), fin := m.fin, tab := l }) := by
      show _ = _
      unfold stepM
      have h1 := HV.out
      simp only [Int.toNat_natCast] at h1 ⊢
      rw [h1, HPN.out]
      rfl
    have HPP := Lib.hid hpp
    have HVV := Lib.hid hvv
    clear hO hR10 hD10 hO11 hR11 hpp hvv f0 f2 f3
    go_upto_region 11 with fail
    go_cut [] (fun wx => wx = (W10.setCell ⟨ga, nd, none⟩ (.int .i64 (v + da))).drew)
    case first =>
      go_region
      all_goals (
        go_wp2_with fail
        go_meet
        rfl)
    case rest =>
      rename World => WX
      subst hcut
      generalize hW11 : (W10.setCell ⟨ga, nd, none⟩ (.int .i64 (v + da))).drew = W11 at *
      clear hW11 a0 a1 a2 a3 a4
      have hO11 := HO11.out
      obtain ⟨b3, b4⟩ := hO11.placeAt (i := who) (v := (pn : Int)) HPP.out (by show m.place.length ≤ _; omega)
      have b0 := blk_cell hO11.hm (i := 2) rfl
      have hO12 := (hO11.setPlace (i := who) ((pn : Int) + 1) (pn : Int) HPP.out).drew
      have hB12 := (hB11.setCell (p := ⟨gb, who, none⟩) hgbl (.int .i64 ((pn : Int) + 1))).drew
      have hR12 : (W11.setCell ⟨gb, who, none⟩ (.int .i64 ((pn : Int) + 1))).drew.heap[w.heap.size + 1]? = some (.cells #[.slice none 0 0, .slice none 0 0, .slice none 0 0, .slice none 0 0] 55 (0, 0)) := blk_setne HR11.out hne2 _ _
      have HO12 := Lib.hid hO12
      have HR12 := Lib.hid hR12
      clear hO11 hO12 hR12
      go_upto_region 12 with fail
      go_cut [] (fun wx => wx = (W11.setCell ⟨gb, who, none⟩ (.int .i64 ((pn : Int) + 1))).drew)
      case first =>
        go_region
        all_goals (
          go_wp2_with fail
          go_meet
          rfl)
      case rest =>
        rename World => WY
        subst hcut
        generalize hW12 : (W11.setCell ⟨gb, who, none⟩ (.int .i64 ((pn : Int) + 1))).drew = W12 at *
        clear hW12 b0 b3 b4 HO11 HR11
        have hO12 := HO12.out
        have c2 := aft (blk_cell hO12.hm (i := 2) rfl)
        obtain ⟨c3', _⟩ := hO12.placeAt (i := who) (v := (pn : Int) + 1) (by show (m.place.set who ((pn : Int) + 1))[who]? = _; simp [HPW.out]) (by show (m.place.set who ((pn : Int) + 1)).length ≤ _; rw [List.length_set]; omega)
        have c3 := aft c3'
        have c4 := aft ((hB12.cell (p := ⟨bs, os + who, none⟩) hbs).trans HG0.out)
        have hl12 : { m with vals := m.vals.set nd (v + da), place := m.place.set who ((pn : Int) + 1), tab := l }.vals.length ≤ 12 := by show (m.vals.set nd (v + da)).length ≤ _; rw [List.length_set]; exact hvl
        clear c3' hO12
        go_upto_region 13 with fail
        refine wp_region_after (by kernel_rfl) (by kernel_rfl) ?_
        repeat (go_big_quiet_step (fail))
        refine wpQuiet_nil ?_
        intro w13 hb13
        have hB13 := bel_next hB12 hb13
        have hs13 := hB13.size
        have hO13 := HO12.out.below hb13
        have hR13 := blk_below HR12.out hb13
        clear c2 c3 c4 HO12 HR12
        by_cases hl : pn + 1 = m2
        case neg =>
          have hl' : ((pn : Int) + 1 == (m2 : Int)) = false := by simp; omega
          have HEE : Hid (pickM t sc m who = { vals := m.vals.set nd (v + da), place := m.place.set who ((pn : Int) + 1), fin := m.fin, tab := l }) := by
            show _ = _
            rw [HE.out, endM_no (by rw [HPL.out, HPN.out]; have := HM2.out; omega), HST.out]
          have g0' := blk_cell hO13.hm (i := 0) rfl
          have g1' := blk_cell hO13.hm (i := 1) rfl
          have g2' := blk_cell hO13.hm (i := 2) rfl
          have g3' := blk_cell hO13.hm (i := 3) rfl
          have q0 := blk_cell hR13 (i := 0) rfl
          have q1 := blk_cell hR13 (i := 1) rfl
          have q2 := blk_cell hR13 (i := 2) rfl
          have q3 := blk_cell hR13 (i := 3) rfl
          have qf := blk_free hR13
          have HRW := Lib.hid hR13
          have HOF := Lib.hid hO13
          clear hl hR13 hO13
          go_wp2_with fail
          have E0 := blk_set (blk_set (blk_set (blk_set HRW.out 0 (.slice (some ⟨ga, 0, none⟩) m.vals.length ca)) 1 (.slice A6 m6 c6)) 2 (.slice (some ⟨gb, 0, none⟩) m.place.length cb)) 3 (.slice Ac nc kc)
          have r0 := blk_cell E0 (i := 0) rfl
          have r1 := blk_cell E0 (i := 1) rfl
          have r2 := blk_cell E0 (i := 2) rfl
          have r3 := blk_cell E0 (i := 3) rfl
          refine bodyPost_ret (v := .agg #[.slice (some ⟨ga, 0, none⟩) m.vals.length ca, .slice A6 m6 c6, .slice (some ⟨gb, 0, none⟩) m.place.length cb, .slice Ac nc kc]) (by simp [results, Tryd.results58, go_sem, r0, r1, r2, r3]) rfl ?_
          refine ⟨_, _, _, _, rfl, by rw [HEE.out]; exact (HOF.out.mac4 HRW.out _ _ _ _ (by show (m.vals.set nd (v + da)).length ≤ _; rw [List.length_set]; omega) (by show (m.place.set who ((pn : Int) + 1)).length ≤ _; rw [List.length_set]; omega) (by show m.fin.length ≤ _; omega) (by show l.length ≤ _; have := HLV.out.1; omega)).low hlo, ?_⟩
          exact (((hB13.setCell (p := ⟨w.heap.size + 1, 0, none⟩) (Nat.le_succ _) _).setCell (p := ⟨w.heap.size + 1, 1, none⟩) (Nat.le_succ _) _).setCell (p := ⟨w.heap.size + 1, 2, none⟩) (Nat.le_succ _) _).setCell (p := ⟨w.heap.size + 1, 3, none⟩) (Nat.le_succ _) _
        have hl' : ((pn : Int) + 1 == (m2 : Int)) = true := by simp; omega
        have HEE : Hid (pickM t sc m who = { vals := m.vals.set nd (v + da), place := m.place.set who ((pn : Int) + 1), fin := m.fin ++ [(who : Int)], tab := freeF l who }) := by
          show _ = _
          rw [HE.out, endM_yes (by rw [HPL.out, HPN.out]; have := HM2.out; omega), HST.out]
        have HFR := Lib.hid (FreeLocksS_t w.heap.size A6 m6 c6 l who w13 (hO13.tab.rds elL.len (by show l.length ≤ _; have := HLV.out.1; omega)).2 HLV.out)
        have HO13 := Lib.hid hO13
        have HR13 := Lib.hid hR13
        clear hl hO13 hR13
        go_wp2_with fail
        refine HFR.out.mono ?_
        rintro e w14 ⟨v14, rfl, ho14, hb14⟩
        obtain ⟨A14, m14, c14, rfl, hc14, _⟩ := id (ho14.rdn elL.len (by have := (freeF_VTb HLV.out who).1; omega))
        have hB14 := bel_next hB13 hb14
        have hs14 := hB14.size
        have hO14 := HO13.out.below hb14
        have hR14 := blk_below HR13.out hb14
        have z1 := blk_cell hO14.hm (i := 1) rfl
        have zf := blk_free hO14.hm 1
        have hO15 := hO14.setTab (ho14.low hs13)
        have hB15 := hB14.setCell (p := ⟨gm, 1, none⟩) hgml (.slice A14 m14 c14)
        have hR15 := blk_setne hR14 hne3 1 (.slice A14 m14 c14)
        have HO15 := Lib.hid hO15
        have HR15 := Lib.hid hR15
        clear hO14 hR14 hO15 hR15 ho14 HO13 HR13
        go_upto_region 15 with fail
        generalize hW15 : w14.setCell ⟨gm, 1, none⟩ (.slice A14 m14 c14) = W15 at *
        have hs15 := hB15.size
        have hO16 := HO15.out.below ((Below.refl W15.heap.size W15).alloc (Nat.le_refl _) (.cells #[.int .i64 who] 3))
        have hR16 := blk_alloc HR15.out (.cells #[.int .i64 who] 3)
        have hB16 := hB15.alloc hs15 (.cells #[.int .i64 who] 3)
        have y3 := blk_cell HO15.out.hm (i := 3) rfl
        have HO16 := Lib.hid hO16
        have HR16 := Lib.hid hR16
        have HB16 := Lib.hid hB16
        clear z1 zf hW15 hO16 hR16 hB16
        have hneo : Hid ((Value.slice Ac nc kc).ownBlock ≠ some (w.heap.size + 1)) := HO16.out.oc.ap_blk HR16.out (by decide)
        go_upto_region 16 with (at_builtin; refine wpList_append_rd elI _ rfl (.tmp 106) (.tmp 108) rfl rfl HO16.out.oc rfl (Rd_one W15 #[.int .i64 who] 3 (who : Int) rfl) (by show (m.fin.length + 1) * 8 ≤ _; omega) (by simp; omega) ?_; intro v17 w17 ho17 hg17 hap17; obtain ⟨g17, m17, c17, rfl, -, -, -, -⟩ := id (ho17.form (by simp)); have hO17 := HO16.out.setFin hg17 ho17 hap17; have hB17 := (below_own HB16.out HO16.out.oc hg17 (Nat.le_refl _) (by simp; omega)).setCell (p := ⟨gm, 3, none⟩) hgml (.slice (some ⟨g17, 0, none⟩) m17 c17); have hR17 := blk_setne (blk_keep HR16.out hg17 hneo.out) hne3 3 (.slice (some ⟨g17, 0, none⟩) m17 c17); have x0 := blk_cell (blk_keep HO16.out.hm hg17 (HO16.out.oc.ap_blk HO16.out.hm (by decide))) (i := 3) rfl; have x1 := blk_free (blk_keep HO16.out.hm hg17 (HO16.out.oc.ap_blk HO16.out.hm (by decide))) 3)
        generalize hW17 : w17.setCell ⟨gm, 3, none⟩ (.slice (some ⟨g17, 0, none⟩) m17 c17) = W17 at *
        have g0' := blk_cell hO17.hm (i := 0) rfl
        have g1' := blk_cell hO17.hm (i := 1) rfl
        have g2' := blk_cell hO17.hm (i := 2) rfl
        have g3' := blk_cell hO17.hm (i := 3) rfl
        have q0 := blk_cell hR17 (i := 0) rfl
        have q1 := blk_cell hR17 (i := 1) rfl
        have q2 := blk_cell hR17 (i := 2) rfl
        have q3 := blk_cell hR17 (i := 3) rfl
        have qf := blk_free hR17
        have HRW := Lib.hid hR17
        have HOF := Lib.hid hO17
        clear hR17 hO17 x0 x1 hW17 y3
        go_wp2_with fail
        have E0 := blk_set (blk_set (blk_set (blk_set HRW.out 0 (.slice (some ⟨ga, 0, none⟩) m.vals.length ca)) 1 (.slice A14 m14 c14)) 2 (.slice (some ⟨gb, 0, none⟩) m.place.length cb)) 3 (.slice (some ⟨g17, 0, none⟩) m17 c17)
        have r0 := blk_cell E0 (i := 0) rfl
        have r1 := blk_cell E0 (i := 1) rfl
        have r2 := blk_cell E0 (i := 2) rfl
        have r3 := blk_cell E0 (i := 3) rfl
        refine bodyPost_ret (v := .agg #[.slice (some ⟨ga, 0, none⟩) m.vals.length ca, .slice A14 m14 c14, .slice (some ⟨gb, 0, none⟩) m.place.length cb, .slice (some ⟨g17, 0, none⟩) m17 c17]) (by simp [results, Tryd.results58, go_sem, r0, r1, r2, r3]) rfl ?_
        refine ⟨_, _, _, _, rfl, by rw [HEE.out]; exact (HOF.out.mac4 HRW.out _ _ _ _ (by show (m.vals.set nd (v + da)).length ≤ _; rw [List.length_set]; omega) (by show (m.place.set who ((pn : Int) + 1)).length ≤ _; rw [List.length_set]; omega) (by show (m.fin ++ [(who : Int)]).length ≤ _; simp; omega) (by show (freeF l who).length ≤ _; have := (freeF_VTb HLV.out who).1; omega)).low hlo, ?_⟩
        exact (((hB17.setCell (p := ⟨w.heap.size + 1, 0, none⟩) (Nat.le_succ _) _).setCell (p := ⟨w.heap.size + 1, 1, none⟩) (Nat.le_succ _) _).setCell (p := ⟨w.heap.size + 1, 2, none⟩) (Nat.le_succ _) _).setCell (p := ⟨w.heap.size + 1, 3, none⟩) (Nat.le_succ _) _
end Go.Proofs.YtgpocjehiohimaaDoor
