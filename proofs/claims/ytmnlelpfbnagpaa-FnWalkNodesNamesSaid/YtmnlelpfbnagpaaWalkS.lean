/- The walk over the reference's walk. -/
import Derived.Test.YtmnlelpfbnagpaaWalkN
import Derived.Test.YtmnlelpfbnagpaaInsP
import Derived.BigQuiet
namespace Go.Proofs.Ytmnlelpfbnagpaa
open Go.RowKit

theorem belN {B : Nat} {a w : World} (h : Below B a w) (n : Nat) : Below B a (w.drewN n) := h.trans ⟨rfl, rfl, rfl, Nat.le_refl _, fun _ _ => rfl⟩
set_option maxRecDepth 100000 in
set_option maxHeartbeats 4000000 in
theorem walkS_any (lo : Nat) (A : Option Addr) (n c : Nat) (t : List Nd) (hv : VT t) (hn : t.length = n) : ∀ (d : Nat) (a : Nat) (w : World), n - a ≤ d → a < n → Rd cN 3 w lo A n t →
    Calls Try.prog 59 #[.slice A n c, .int .i64 a] w (IntsP w (wkI t (a : Int)))
  | 0, a, w, hd, ha, _ => by omega
  | d + 1, a, w, hd, ha, hr => by
    have hn12 : n ≤ 12 := by have := hv.2.1; omega
    have IH := Lib.hid (walkS_any lo A n c t hv hn d)
    have HV := Lib.hid hv
    have HN := Lib.hid hn
    have hr1 := hr.alloc (.cells #[.int .i64 (a : Int)] 3)
    have HK := Lib.hid (kidsS_any lo A n c t (a : Int) _ hr1 hv (by omega))
    have ho5 := Own.lit (cs := cI) (e := 3) w #[.int .i64 (a : Int)] [(a : Int)] (by simp) elI.len rfl
    have hba := (Below.refl w.heap.size w).alloc (Nat.le_refl _) (.cells #[.int .i64 (a : Int)] 3)
    clear hv hn
    go_enter Try.func59, Try.ntmps59
    go_wp2_with fail
    refine HK.out.mono ?_
    rintro e w2 ⟨v6, rfl, ho6, hb2⟩
    have hkl : (kidsF t (a : Int)).length ≤ n := by rw [← kdK_all HN.out]; exact kdK_len _ _ _
    obtain ⟨A6, m, c6, rfl, hmc, hrd6⟩ := ho6.rdn elI.len (by omega)
    have HML : Hid ((kidsF t (a : Int)).length = m) := hrd6.len
    have hm12 : m ≤ 12 := by have := HML.out; omega
    have hsA : (w.alloc (.cells #[.int .i64 (a : Int)] 3)).heap.size = w.heap.size + 1 := by simp
    rw [hsA] at ho6 hb2
    have HBA := Lib.hid hba
    clear hrd6 hba hsA
    go_wp2_with fail
    go_loopw [7, 8, 9] (fun i _ _ wr => ∃ (k : Nat) (l : List Int), k ≤ m ∧ i = .int .i64 k ∧ Below (w.heap.size + 1) (w.alloc (.cells #[.int .i64 (a : Int)] 3)) wr ∧ Own cI 1 3 wr (w.heap.size + 1) (.slice A6 m c6) l ∧ Hid (Srt t (kidsF t (a : Int)) l k)) (fun i _ _ _ => m - (intOf i).toNat)
    case atStart => exact ⟨0, _, Nat.zero_le _, rfl, hb2, ho6, Srt.zero _ _⟩
    case round =>
      rename World => W1
      obtain ⟨k, l, hk, rfl, hbl, hol, HS⟩ := hrel
      have hs1 := hbl.size
      by_cases hlt : k < m
      · obtain ⟨g, m', cap, e, hgb, _, _, _⟩ := hol.form (by have := HS.out.1.length_eq; have := HML.out; omega)
        injection e with e1 e2 e3
        subst e1
        clear e2 e3
        have HI : Hid (Ins t (kidsF t (a : Int)) l k k) := HS.out.start (by have := HS.out.1.length_eq; have := HML.out; omega)
        go_wp2_with fail
        go_loopw [8, 9] (fun j _ wr => ∃ (q : Nat) (l : List Int), q ≤ k ∧ j = .int .i64 q ∧ Below (w.heap.size + 1) (w.alloc (.cells #[.int .i64 (a : Int)] 3)) wr ∧ Own cI 1 3 wr (w.heap.size + 1) (.slice (some ⟨g, 0, none⟩) m c6) l ∧ Hid (Ins t (kidsF t (a : Int)) l k q)) (fun j _ _ => (intOf j).toNat)
        case atStart => exact ⟨k, l, Nat.le_refl _, rfl, hbl, hol, HI⟩
        case round =>
          rename World => W2
          obtain ⟨q, l2, hq, rfl, hbl2, hol2, HI2⟩ := hrel
          have hs2 := hbl2.size
          by_cases hq0 : q = 0
          · subst hq0
            have HD := Lib.hid (HI2.out.done (.inl rfl))
            go_wp2_with fail
            go_quiet (fail)
            go_wp2_with fail
            go_roundw
            case rel => exact ⟨k + 1, l2, by omega, by go_num, belN hbl2 _, hol2.below (belN (Below.refl _ _) _), HD⟩
            case measure => simp [intOf]; omega
          · obtain ⟨p, rfl⟩ : ∃ p, q = p + 1 := ⟨q - 1, by omega⟩
            clear hq0
            have hl2 : l2.length = m := by have := HI2.out.1.length_eq; have := HML.out; omega
            obtain ⟨_, hrd⟩ := hol2.rds elI.len (by omega)
            have hpm : p < m := by omega
            have hqm : p + 1 < m := by omega
            obtain ⟨b, o, x, hA, _, _, hx, g0⟩ := hrd.atI hqm
            simp only [Option.some.injEq, Addr.mk.injEq, and_true] at hA
            obtain ⟨rfl, rfl⟩ := hA
            obtain ⟨b, o, y, hA, _, _, hy, d0⟩ := hrd.atI hpm
            simp only [Option.some.injEq, Addr.mk.injEq, and_true] at hA
            obtain ⟨rfl, rfl⟩ := hA
            simp only [Nat.zero_add] at g0 d0
            obtain ⟨i, u, rfl, hu, _⟩ := kidsF_mem.1 (HI2.out.1.mem_iff.1 (List.mem_of_getElem? hx))
            obtain ⟨j, v, rfl, hv, _⟩ := kidsF_mem.1 (HI2.out.1.mem_iff.1 (List.mem_of_getElem? hy))
            have hin : i < n := by have := (List.getElem?_eq_some_iff.1 hu).1; have := HN.out; omega
            have hjn : j < n := by have := (List.getElem?_eq_some_iff.1 hv).1; have := HN.out; omega
            have hrt := hr1.below (hbl2.mono (by simp))
            obtain ⟨b, o, u', rfl, _, _, hu', _, k1, _⟩ := hrt.atN hin
            obtain ⟨b2, o2, v', e0, _, _, hv', _, k2, _⟩ := hrt.atN hjn
            simp only [Option.some.injEq, Addr.mk.injEq, and_true] at e0
            obtain ⟨rfl, rfl⟩ := e0
            have eu : u' = u := by have := hu'.symm.trans hu; injection this
            have ev : v' = v := by have := hv'.symm.trans hv; injection this
            subst eu
            subst ev
            have hless := nlt_less hu hv
            have hi1 : (i : Int) < (n : Int) := by omega
            have hj1 : (j : Int) < (n : Int) := by omega
            have hq1 : (p : Int) + 1 < (m : Int) := by omega
            have hq2 : (p : Int) < (m : Int) := by omega
            have hq3 : (0 : Int) < (p : Int) + 1 := by omega
            have hq4 : p ≤ 12 := by omega
            have f0 := hol2.free (p + 1)
            have f1 := hol2.free p
            have HO2 : Hid (∀ N, Own cI 1 3 (((W2.drewN N).setCell ⟨g, p + 1, none⟩ (.int .i64 (j : Int))).setCell ⟨g, p, none⟩ (.int .i64 (i : Int))) (w.heap.size + 1) (.slice (some ⟨g, 0, none⟩) m c6) ((l2.set (p + 1) (j : Int)).set p (i : Int))) := by
              intro N
              have h0 := hol2.below (belN (Below.refl W2.heap.size W2) N)
              have h1 := h0.set (u := .int .i64 (j : Int)) (x' := (j : Int)) (j := 0) elI.len hx rfl (by omega) (q := p + 1) (by omega)
              exact h1.set (u := .int .i64 (i : Int)) (x' := (i : Int)) (j := 0) (k := p) (x := (j : Int)) elI.len (by rw [List.getElem?_set_ne (by omega)]; exact hy) rfl (by omega) (q := p) (by omega)
            have HB2 : Hid (∀ N, Below (w.heap.size + 1) (w.alloc (.cells #[.int .i64 (a : Int)] 3)) (((W2.drewN N).setCell ⟨g, p + 1, none⟩ (.int .i64 (j : Int))).setCell ⟨g, p, none⟩ (.int .i64 (i : Int)))) :=
              fun N => ((belN hbl2 N).setCell (p := ⟨g, p + 1, none⟩) hgb _).setCell (p := ⟨g, p, none⟩) hgb _
            by_cases hb : nlt t (i : Int) (j : Int) = true
            · have HI3 := Lib.hid (HI2.out.step hx hy hb)
              rw [hb] at hless
              clear hu hv hu' hv' hrt hl2 hx hy hb hrd hol2 hbl2
              go_wp2_with fail
              go_quiet (fail)
              go_wp2_with fail
              go_roundw
              case rel => exact ⟨p, _, by omega, by go_num, HB2.out _, HO2.out _, HI3⟩
              case measure => simp [intOf]
            · have hb' : nlt t (i : Int) (j : Int) = false := by simpa using hb
              have HD := Lib.hid (HI2.out.done (.inr ⟨_, _, hx, hy, hb'⟩))
              rw [hb'] at hless
              clear hu hv hu' hv' hrt hl2 hx hy hb hb' hrd HO2 HB2
              go_wp2_with fail
              go_quiet (fail)
              go_wp2_with fail
              go_roundw
              case rel => exact ⟨k + 1, l2, by omega, by go_num, belN hbl2 _, hol2.below (belN (Below.refl _ _) _), HD⟩
              case measure => simp [intOf]; omega
      · have hls := HS.out.all HV.out (by omega) (by have := HS.out.1.length_eq; have := HML.out; omega)
        rw [hls] at hol
        have hsl : (srtF t (a : Int)).length = m := by rw [(srtF_perm t (a : Int)).length_eq]; exact HML.out
        have HSL := Lib.hid hsl
        have hbA : Below (w.alloc (.cells #[.int .i64 (a : Int)] 3)).heap.size (w.alloc (.cells #[.int .i64 (a : Int)] 3)) W1 := by
          have : (w.alloc (.cells #[.int .i64 (a : Int)] 3)).heap.size = w.heap.size + 1 := by simp
          rw [this]; exact hbl
        have ho5' := ho5.below hbA
        have hrA := hr1.below hbA
        have HBW : Hid (Below w.heap.size w W1) := HBA.out.trans (hbl.mono (by omega))
        have hw1 : w.heap.size + 1 ≤ W1.heap.size := by have := hbA.size; simp at this; omega
        have HNE : Hid ((Value.slice A6 m c6).ownBlock = none ∨ (Value.slice A6 m c6).ownBlock ≠ (Value.slice (some ⟨w.heap.size, 0, none⟩) [(a : Int)].length [(a : Int)].length).ownBlock) := by
          show _ ∨ _
          cases e : (Value.slice A6 m c6).ownBlock with
          | none => exact .inl rfl
          | some g =>
            refine .inr fun e2 => ?_
            have h1 := (hol.blk g e).1
            have h2 : some g = some w.heap.size := e2
            injection h2 with h2
            omega
        have hrb : ∀ q, A = some q → q.block < w.heap.size := by
          intro q hq
          obtain ⟨b, o, e, _, hlt2, _⟩ := hr.2.2 (by omega)
          rw [hq] at e
          injection e with e
          rw [e]; exact hlt2
        have HRB := Lib.hid hrb
        clear hls hsl hbl hrb ho5 hr1 hbA HS
        go_wp2_with fail
        go_loopw [5, 10] (fun va i wr => ∃ j : Nat, j ≤ m ∧ i = .int .i64 j ∧ Own cI 1 3 wr w.heap.size va (wkB t (a : Int) j) ∧ Ap W1 (.slice (some ⟨w.heap.size, 0, none⟩) [(a : Int)].length [(a : Int)].length) wr va) (fun _ i _ => m - (intOf i).toNat)
        case atStart => exact ⟨0, Nat.zero_le _, rfl, ho5', Ap.of_below _ (Below.refl _ _)⟩
        case round =>
          rename World => W2
          obtain ⟨j, hj, rfl, hoa, hapj⟩ := hrel
          have hsj := hapj.size
          by_cases hltj : j < m
          · obtain ⟨b, o, z, rfl, _, hb, hz, g0⟩ := ((hol.grown' hapj.1 HNE.out).rds elI.len (by have := HSL.out; omega)).2.atI hltj
            obtain ⟨i, x, rfl, hx, hxp⟩ := kidsF_mem.1 (srtF_mem.1 (List.mem_of_getElem? hz))
            have hik : i < n := by have := (List.getElem?_eq_some_iff.1 hx).1; have := HN.out; omega
            have hai : a < i := by have := HV.out.parn hx; omega
            have HWB := Lib.hid (wkB_succ hz)
            have hwz := wk_le HV.out (a := (i : Int)) (by omega) (by have := HN.out; omega)
            have hwb := wkB_len HV.out (a := (a : Int)) (by omega) (by have := HN.out; omega) j
            have hwa := wk_le HV.out (a := (a : Int)) (by omega) (by have := HN.out; omega)
            rw [HN.out] at hwz hwa
            have HC := Lib.hid (IH.out i W2 (by omega) hik (hrA.ap HRB.out ho5' hapj))
            clear hx hxp hz
            go_wp2_with fail
            refine HC.out.mono ?_
            rintro e w5 ⟨v5, rfl, ho5, hb5⟩
            obtain ⟨A5, m5, c5, rfl, hc5, hr5⟩ := ho5.rdn elI.len (by omega)
            have hm5 := hr5.len
            have hs5 := hb5.size
            have hoa5 := hoa.below hb5
            have HA5 := Lib.hid (hapj.tr (Ap.of_below _ hb5))
            have HM5 := Lib.hid hm5
            have hm5' : m5 ≤ 12 := by omega
            have hwb' : (wkB t (a : Int) j).length ≤ 12 := by omega
            clear hm5 hb5 hwz hwb hwa hapj ho5
            go_wp2_with (at_builtin; refine wpList_append_rd elI _ rfl (.tmp 70) (.tmp 76) rfl rfl hoa5 rfl hr5 (by omega) (by omega) ?_; intro v7 w7 ho7 hg7 hf7; have HA7 := Lib.hid (HA5.out.tr ⟨hg7, hf7.imp id fun e => ⟨_, Nat.le_refl _, e⟩⟩); clear hg7 hf7)
            go_roundw
            case rel => exact ⟨j + 1, by omega, by go_num, by rw [HWB.out]; exact ho7, HA7.out⟩
            case measure => simp [intOf]; omega
          · have hall := wkB_all HV.out (a := (a : Int)) (by omega) (by have := HN.out; omega) (j := j) (by have := HSL.out; omega)
            rw [hall] at hoa
            have HO := Lib.hid hoa
            have HBE := Lib.hid (HBW.out.trans (hapj.below ho5' (Nat.le_refl _) (by omega)))
            clear hall hoa hapj
            go_wp2_with fail
            go_ret
            exact ⟨_, rfl, HO.out, HBE.out⟩
end Go.Proofs.Ytmnlelpfbnagpaa
