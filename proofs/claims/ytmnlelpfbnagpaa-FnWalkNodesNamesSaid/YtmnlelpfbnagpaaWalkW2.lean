/- The walk over walkFrom: a node, then the walks from its children in the order of their names. -/
import Derived.Test.YtmnlelpfbnagpaaWalkW
namespace Go.Proofs.Ytmnlelpfbnagpaa
open Go.RowKit

def WalkP (w : World) (base : Nat) (v : Value) (l : List Int) (e : Ending) (w' : World) : Prop := ∃ v', e = .returned v' ∧ Own cI 1 3 w' base v' l ∧ Ap w v w' v'
theorem SortNone (p : Option Addr) (c : Nat) (f : Value) (w : World) : Calls Try.prog 68 #[.slice p 0 c, f] w fun e w' => e = .returned (.tuple #[]) ∧ w' = w :=
  AnyF.slices_SortFunc_none (P := Try.prog) (ρ := Try.sortL_ren) { Try.sortL with } p c f w
theorem sortKids (X lo base : Nat) (A A7 : Option Addr) (n c m c7 : Nat) (t : List Nd) (a : Int) (w : World) (hv : VT t) (h0 : 0 ≤ a) (hn : t.length = n)
    (ho : Own cI 1 3 w base (.slice A7 m c7) (kidsF t a)) (hm : m ≤ 12) (hX : w.cell? ⟨X, 0, none⟩ = some (.slice A n c)) (hXb : X < base) (hr : Rd cN 3 w lo A n t) (hA : ∀ q, A = some q → q.block < base) :
    Calls Try.prog 68 #[.slice A7 m c7, .func (.func 69) #[] #[.pointer (some ⟨X, 0, none⟩)]] w
      fun e w' => e = .returned (.tuple #[]) ∧ Own cI 1 3 w' base (.slice A7 m c7) (srtF t a) ∧ Below base w w' := by
  have hlv := ho.lenV
  have hlm : (kidsF t a).length = m := hlv.symm
  by_cases h1 : 1 ≤ m
  · obtain ⟨g, m2, cap, e, hbg, hgl, _, _⟩ := ho.form (by omega)
    injection e with e1 e2 e3
    subst e1
    refine (SortFunc_any X lo base g m c7 A n c t (kidsF t a) w ho h1 (by omega) hX (by omega) hr (fun q hq => by have := hA q hq; omega) (fun z hz => ?_)).mono ?_
    · have := kid_gt hv h0 hz
      omega
    · rintro e w' ⟨rfl, l', hp, hs, ho', hg⟩
      refine ⟨rfl, by rw [← srtF_only hv h0 hp hs]; exact ho', ?_⟩
      exact ⟨hg.os, hg.tape, hg.output, hg.size, fun i hi => hg.block i (by omega) fun e => by injection e with e; omega⟩
  · have hm0 : m = 0 := by omega
    subst hm0
    have hk : kidsF t a = [] := List.eq_nil_of_length_eq_zero hlm
    have hs : srtF t a = [] := by
      have := srtF_perm t a
      rw [hk] at this
      exact this.eq_nil
    refine (SortNone A7 c7 _ w).mono ?_
    rintro e w' ⟨rfl, rfl⟩
    exact ⟨rfl, by rw [hs, ← hk]; exact ho, Below.refl _ _⟩
set_option maxRecDepth 100000 in
set_option maxHeartbeats 4000000 in
theorem walkFrom_any (lo : Nat) (A : Option Addr) (n c : Nat) (t : List Nd) (hv : VT t) (hc : n ≤ c) (hn : t.length = n) : ∀ (d : Nat) (a : Nat) (v : Value) (l : List Int) (base : Nat) (w : World), n - a ≤ d → a < n → Rd cN 3 w lo A n t → (∀ q, A = some q → q.block < base) → base ≤ w.heap.size →
    Own cI 1 3 w base v l → l.length + (wkI t (a : Int)).length ≤ 100000 →
    Calls Try.prog 58 #[.slice A n c, .int .i64 a, v] w (WalkP w base v (l ++ wkI t (a : Int)))
  | 0, a, v, l, base, w, hd, ha, _, _, _, _, _ => by omega
  | d + 1, a, v, l, base, w, hd, ha, hr, hA, hbase, ho, hlen => by
    have hn12 : n ≤ 12 := by have := hv.2.1; omega
    have IH := Lib.hid (walkFrom_any lo A n c t hv hc hn d)
    have HV := Lib.hid hv
    have HN := Lib.hid hn
    have HA := Lib.hid hA
    have hw1 : 1 ≤ (wkI t (a : Int)).length := by rw [wkI_step hv (by omega) (by omega)]; simp
    have HW : Hid (1 ≤ (wkI t (a : Int)).length) := hw1
    have hll : l.length ≤ 100000 := by omega
    have HLEN := Lib.hid hlen
    have h1 := (Below.refl w.heap.size w).alloc (Nat.le_refl _) (.cells #[.slice A n c] 23)
    have ho1 := ho.alloc (.cells #[.slice A n c] 23)
    have hX1 : (w.alloc (.cells #[.slice A n c] 23)).cell? ⟨w.heap.size, 0, none⟩ = some (.slice A n c) := cell_newg w _ _ _ rfl 0 _ rfl
    have hXv : some w.heap.size ≠ v.ownBlock := fun e => by have := (ho.blk _ e.symm).2; omega
    have HX1 := Lib.hid hX1
    have HXV := Lib.hid hXv
    clear hv hn hA hlen hw1 hX1 hXv
    go_enter Try.func58, Try.ntmps58
    go_wp2_with (at_builtin; refine wpList_append_rd elI _ rfl (.tmp 12) (.tmp 14) rfl rfl (ho1.alloc (.cells #[.int .i64 (a : Int)] 3)) rfl (Rd_oneg (w.alloc (.cells #[.slice A n c] 23)) #[.int .i64 (a : Int)] 3 (a : Int) rfl (w.heap.size + 1) (by simp)) (by omega) (by simp; omega) ?_; intro v2 w2 ho2 hg2 hf2; have hap : Ap (w.alloc (.cells #[.slice A n c] 23)) v w2 v2 := Ap.app _ hg2 hf2; have hX2 := cell_ap HX1.out hap HXV.out; clear hg2 hf2)
    have hap0 : Ap w v w2 v2 := (Ap.of_below v h1).tr hap
    have hr2 := hr.ap HA.out ho hap0
    have hs2 := hap0.size
    have hXl : w.heap.size < w2.heap.size := World.block_lt_of_cell? _ _ hX2
    go_loopw [7, 8, 9, 18] (fun v7 _ _ i wr => ∃ k : Nat, k ≤ n ∧ i = .int .i64 k ∧ Below w2.heap.size w2 wr ∧ Own cI 1 3 wr w2.heap.size v7 (kdK t a k)) (fun _ _ _ i _ => n - (intOf i).toNat)
    case atStart => exact ⟨0, Nat.zero_le _, rfl, Below.refl _ _, Own.nil _ _⟩
    case round =>
      rename World => W1
      obtain ⟨k, hk, rfl, hbl, ho7⟩ := hrel
      have hs7 := hbl.size
      have hkl := kdK_len t (a : Int) k
      have hX3 := (hbl.cell (World.block_lt_of_cell? _ _ hX2)).trans hX2
      by_cases hlt : k < n
      · obtain ⟨b, o, x, rfl, _, hb, hx, g0, g1, g2⟩ := (hr2.below hbl).atN hlt
        obtain ⟨xp, xn, xv⟩ := x
        by_cases hp : xp = (a : Int)
        · have HK := Lib.hid (kdK_t hx hp)
          subst hp
          clear hx
          go_wp2_with (at_builtin; refine wpList_append_rd elI _ rfl (.tmp 27) (.tmp 29) rfl rfl ((ho7.alloc (.cells #[.int .i64 (a : Int), .string xn, .int .i64 xv] 44)).alloc _) rfl (Rd_oneg (W1.alloc (.cells #[.int .i64 (a : Int), .string xn, .int .i64 xv] 44)) #[.int .i64 (k : Int)] 3 (k : Int) rfl (W1.heap.size + 1) (by simp)) (by omega) (by simp; omega) ?_; intro v5 w5 ho5 hg5 _)
          have hb5 := below_own ((hbl.alloc hs7 _).alloc (by simp; omega) _) ((ho7.alloc (.cells #[.int .i64 (a : Int), .string xn, .int .i64 xv] 44)).alloc (.cells #[.int .i64 (k : Int)] 3)) hg5 (Nat.le_refl _) (by simp; omega)
          go_roundw
          case rel => exact ⟨k + 1, by omega, by go_num, hb5, by rw [HK.out]; exact ho5⟩
          case measure => simp [intOf]; omega
        · have HK := Lib.hid (kdK_f hx hp)
          have hp' : (xp == (a : Int)) = false := by simpa using hp
          clear hx hp
          go_wp2_with fail
          go_roundw
          case rel => exact ⟨k + 1, by omega, by go_num, hbl.alloc hs7 _, by rw [HK.out]; exact ho7.alloc _⟩
          case measure => simp [intOf]; omega
      · have hkn : k = n := by omega
        subst hkn
        rw [kdK_all HN.out] at ho7 hkl
        obtain ⟨A7, m, c7, rfl, hmc, hrd7⟩ := ho7.rdn elI.len (by omega)
        have hm12 : m ≤ 12 := by have := hrd7.len; omega
        have hA2 : ∀ q, A = some q → q.block < w2.heap.size := fun q hq => by have := HA.out q hq; omega
        have HSK := Lib.hid (sortKids w.heap.size lo w2.heap.size A A7 k c m c7 t (a : Int) W1 HV.out (by omega) HN.out ho7 hm12 hX3 hXl (hr2.below hbl) hA2)
        have HML : Hid ((srtF t (a : Int)).length = m) := by show _ = _; rw [(srtF_perm t (a : Int)).length_eq]; exact hrd7.len
        clear ho7 hrd7 hkl hX3
        go_wp2_with fail
        refine HSK.out.mono ?_
        rintro e w4 ⟨rfl, ho7, hb4⟩
        have hB4 := hbl.trans hb4
        have hs4 := hB4.size
        have hX4 := (hB4.cell (World.block_lt_of_cell? _ _ hX2)).trans hX2
        have ho24 := ho2.below hB4
        have hr4 := hr2.below hB4
        have hap4 : Ap w v w4 v2 := hap0.tr (Ap.of_below v2 hB4)
        have hne7 : (Value.slice A7 m c7).ownBlock = none ∨ (Value.slice A7 m c7).ownBlock ≠ v2.ownBlock := by
          cases e : (Value.slice A7 m c7).ownBlock with
          | none => exact .inl rfl
          | some g =>
            refine .inr fun e2 => ?_
            have h1 := (ho7.blk g e).1
            have h2 := (ho2.blk g e2.symm).2
            omega
        have hXv2 : some w.heap.size ≠ v2.ownBlock := by
          rcases hap.2 with e | ⟨s, hs, e⟩
          · rw [e]; exact HXV.out
          · rw [e]; intro e2; injection e2 with e2
            have : (w.alloc (.cells #[.slice A k c] 23)).heap.size = w.heap.size + 1 := by simp
            omega
        have HNE := Lib.hid hne7
        have HXV2 := Lib.hid hXv2
        have HAP := Lib.hid hap4
        clear hne7 hXv2 hap4 hap0 hap hr2 ho2 ho1 hX2 hB4 hb4 hbl h1
        go_wp2_with fail
        go_loopw [2, 11, 37] (fun va _ i wr => ∃ j : Nat, j ≤ m ∧ i = .int .i64 j ∧ Own cI 1 3 wr base va (l ++ wkB t (a : Int) j) ∧ Ap w4 v2 wr va) (fun _ _ i _ => m - (intOf i).toNat)
        case atStart => exact ⟨0, Nat.zero_le _, rfl, ho24, Ap.of_below v2 (Below.refl _ _)⟩
        case round =>
          rename World => W2
          obtain ⟨j, hj, rfl, hoa, hapj⟩ := hrel
          have hsj := hapj.size
          have hXj := cell_ap hX4 hapj HXV2.out
          have hrj := hr4.ap HA.out ho24 hapj
          have ho7j := ho7.grown' hapj.1 HNE.out
          by_cases hltj : j < m
          · obtain ⟨b, o, z, rfl, _, hb, hz, g0⟩ := (ho7j.rds elI.len (by have := HML.out; omega)).2.atI hltj
            obtain ⟨i, x, rfl, hx, hxp⟩ := kidsF_mem.1 (srtF_mem.1 (List.mem_of_getElem? hz))
            have hik : i < k := by have := (List.getElem?_eq_some_iff.1 hx).1; have := HN.out; omega
            have hai : a < i := by have := HV.out.parn hx; omega
            have hwb := wkB_succ hz
            have hwl := wkB_len HV.out (a := (a : Int)) (by omega) (by have := HN.out; omega) (j + 1)
            have hbd : (l ++ wkB t (a : Int) j).length + (wkI t (i : Int)).length ≤ 100000 := by
              have := HLEN.out
              rw [hwb, List.length_append] at hwl
              rw [List.length_append]
              omega
            have HC := Lib.hid (IH.out i _ _ base W2 (by omega) hik hrj HA.out (by omega) hoa hbd)
            have HWB := Lib.hid hwb
            clear hwb hwl hbd hx hxp hz hoa ho7j hrj
            go_wp2_with fail
            refine HC.out.mono ?_
            rintro e w5 ⟨v5, rfl, ho5, hap5⟩
            have HR : Hid (Own cI 1 3 w5 base v5 (l ++ wkB t (a : Int) (j + 1))) := by show Own _ _ _ _ _ _ _; rw [HWB.out, ← List.append_assoc]; exact ho5
            have HRA := Lib.hid (hapj.tr hap5)
            go_wp2_with fail
            go_roundw
            case rel => exact ⟨j + 1, by omega, by go_num, HR.out, HRA.out⟩
            case measure => simp [intOf]; omega
          · have hjm : (srtF t (a : Int)).length ≤ j := by have := HML.out; omega
            have hall := wkB_all HV.out (a := (a : Int)) (by omega) (by have := HN.out; omega) hjm
            rw [hall] at hoa
            have HO := Lib.hid hoa
            have HRA := Lib.hid (HAP.out.tr hapj)
            clear hall hjm hoa ho7j hrj
            go_wp2_with fail
            go_ret
            exact ⟨_, rfl, HO.out, HRA.out⟩
end Go.Proofs.Ytmnlelpfbnagpaa
