/- The walks over alongFault, AlongFault, GoesAlong of the reference, GoesAlong of the program. -/
import Derived.Test.YtcefgabdffipgaaDoorAlongW
namespace Go.Proofs.YtcefgabdffipgaaDoor
open Go.RowKit

theorem apart_symm {a b : Option Nat} (h : a = none ∨ a ≠ b) : b = none ∨ b ≠ a := by
  cases b with
  | none => exact .inl rfl
  | some k =>
    refine .inr fun e => ?_
    rcases h with h | h
    · rw [h] at e; cases e
    · exact h e.symm
theorem alF_pre_hit {t : List Nd} {list : List St} {who : Int} {k : Nat} {x : St} {mm : List Lk} (hx : list[k]? = some x) (hst : stepsF (list.take k) [] = some mm) (hall : ∀ j, j < k → fltB t list who j = false) (h : Flt t mm (hadF (list.take k) who) who x) : alF t list who = k :=
  alF_hit (List.getElem?_eq_some_iff.1 hx).1 (fltB_t hx hst h) hall
set_option maxRecDepth 100000 in
set_option maxHeartbeats 3200000 in
theorem alongFault_any (lo lo2 : Nat) (A A2 : Option Addr) (n c m c2 : Nat) (t : List Nd) (list : List St) (who : Int) (w : World) (hr : Rd cN 3 w lo A n t) (hr2 : Rd cS 4 w lo2 A2 m list) (hm : m ≤ 17) (hok : ∀ s ∈ list, 0 ≤ s.node)
    (hpre : ∀ i, i < list.length → ∃ mm, stepsF (list.take i) [] = some mm) :
    Calls Tryd.prog 17 #[.slice A n c, .slice A2 m c2, .int .i64 who] w fun e w' => e = .returned (.int .i64 (alF t list who)) ∧ Below w.heap.size w w' := by
  have HL := Lib.hid hr.len
  have HL2 := Lib.hid hr2.len
  have HOK := Lib.hid hok
  have HPRE := Lib.hid hpre
  have hn := hr.le
  generalize hR : alF t list who = R
  have HR := Lib.hid hR
  clear hR hok hpre
  go_enter Tryd.func17, Tryd.ntmps17
  go_wp2_with fail
  go_loopw [7, 8, 9, 10] (fun fb hv dv i wr => ∃ k : Nat, k ≤ m ∧ i = .int .i64 k ∧ Below w.heap.size w wr ∧ fb = .bool (hadF (list.take k) who).isEmpty ∧ Own cI 1 3 wr w.heap.size hv (hasF (list.take k) who) ∧ Own cI 1 3 wr w.heap.size dv (hadF (list.take k) who) ∧
    (dv.ownBlock = none ∨ dv.ownBlock ≠ hv.ownBlock) ∧ ∀ j, j < k → fltB t list who j = false) (fun _ _ _ i _ => m - (intOf i).toNat)
  case atStart =>
    refine ⟨0, Nat.zero_le _, rfl, ((Below.refl _ _).alloc (Nat.le_refl _) _).alloc (by simp) _, rfl, (Own.empty w elI.len).alloc _, (Own.emptyg (w.alloc (.cells #[] 3)) elI.len (w.heap.size + 1) (by simp)).low (by omega), ?_, fun j h => by omega⟩
    · exact .inr (by simp [Value.ownBlock])
  case round =>
    rename World => W1
    obtain ⟨k, hk, rfl, hbl, rfl, hoh, hod, hap1, hall⟩ := hrel
    have hs := hbl.size
    have HALL := Lib.hid hall
    clear hall
    by_cases hlt : k < m
    case neg =>
      have : R = -1 := by
        rw [← HR.out]
        exact alF_none fun j hj => HALL.out j (by have := HL2.out; omega)
      subst this
      go_wp2_with fail
      go_ret
      exact ⟨rfl, hbl⟩
    obtain ⟨b, o, x, rfl, _, hb, hx, g0, g1, g2, g3⟩ := (hr2.below hbl).atS hlt
    have hkl : k < list.length := (List.getElem?_eq_some_iff.1 hx).1
    obtain ⟨mm, hst⟩ := HPRE.out k hkl
    have hnode := HOK.out x (List.mem_of_getElem? hx)
    have HNEXT : Hid (fltB t list who k = false → ∀ j, j < k + 1 → fltB t list who j = false) := fun hf j hj => by
      by_cases e : j = k
      · rw [e]; exact hf
      · exact HALL.out j (by omega)
    have HSN := Lib.hid (had_snoc hx who)
    have HHN := Lib.hid (has_snoc hx who)
    have HHH := Lib.hid (has_held hst who)
    have HIT : Hid (Flt t mm (hadF (list.take k) who) who x → R = k) := fun h => by rw [← HR.out]; exact alF_pre_hit hx hst HALL.out h
    have HCL : Hid (¬ Flt t mm (hadF (list.take k) who) who x → fltB t list who k = false) := fun h => fltB_f hx hst h
    have hHl : (hadF (list.take k) who).length ≤ 17 := by
      have := had_len (list.take k) who
      rw [List.length_take] at this; omega
    have hHl2 : (hasF (list.take k) who).length ≤ 17 := by
      have := has_len (list.take k) who
      rw [List.length_take] at this; omega
    generalize hadF (list.take k) who = P at *
    generalize hasF (list.take k) who = Q at *
    obtain ⟨A3, m3, c3, rfl, hc3, hr3⟩ := hoh.rdn elI.len (by omega)
    obtain ⟨A4, m4, c4, rfl, hc4, hr4⟩ := hod.rdn elI.len (by omega)
    have hbA := hbl.alloc hs (.cells #[.int .i64 x.who, .bool x.free, .int .i64 x.node, .int .i64 x.mode] 32)
    have hsA := hbA.size
    have hohA := hoh.alloc (.cells #[.int .i64 x.who, .bool x.free, .int .i64 x.node, .int .i64 x.mode] 32)
    have hodA := hod.alloc (.cells #[.int .i64 x.who, .bool x.free, .int .i64 x.node, .int .i64 x.mode] 32)
    have hr3A := hr3.alloc (.cells #[.int .i64 x.who, .bool x.free, .int .i64 x.node, .int .i64 x.mode] 32)
    have hr4A := hr4.alloc (.cells #[.int .i64 x.who, .bool x.free, .int .i64 x.node, .int .i64 x.mode] 32)
    have hHblk : ∀ kk, (Value.slice A3 m3 c3).ownBlock = some kk → kk < W1.heap.size := fun kk h => (hoh.blk kk h).2
    have HBLK := Lib.hid hHblk
    have HM1 := Lib.hid (isInS_any _ A4 m4 c4 P x.node _ hr4A)
    obtain ⟨xw, xf, xn, xm⟩ := x
    simp only at g0 g1 g2 g3 hnode
    clear hr3 hx hst hHblk
    by_cases ew : xw = who
    case neg =>
      have HF := Lib.hid (HNEXT.out (HCL.out fun h => ew h.1.1))
      have HS1 : Hid (hadF (list.take (k + 1)) who = P) := by rw [HSN.out, if_neg fun h => ew h.1, List.append_nil]; exact Lib.hid rfl
      have HS2 : Hid (hasF (list.take (k + 1)) who = Q) := by rw [HHN.out, if_neg ew]; exact Lib.hid rfl
      have e1 : (xw != who) = true := by simpa using ew
      clear HNEXT HCL HIT HM1 HHH ew
      go_wp2_with fail
      go_roundw
      case rel => exact ⟨k + 1, by omega, by go_num, hbA, by rw [HS1.out], by rw [HS2.out]; exact hohA, by rw [HS1.out]; exact hodA, hap1, HF.out⟩
      case measure => simp [intOf]; omega
    subst ew
    cases xf with
    | true =>
      have HF := Lib.hid (HNEXT.out (HCL.out fun h => by cases h.1.2))
      have HS1 : Hid (hadF (list.take (k + 1)) xw = P) := by rw [HSN.out, if_neg (fun h => by cases h.2), List.append_nil]; exact Lib.hid rfl
      have HS2 : Hid (hasF (list.take (k + 1)) xw = Q.filter (fun n => decide (n ≠ xn))) := by rw [HHN.out, if_pos rfl, if_pos rfl]; exact Lib.hid rfl
      have HLV := Lib.hid (leave_any _ A3 m3 c3 Q xn _ hr3A (by have := hr3A.len; omega))
      clear HNEXT HCL HIT HM1 HHH
      go_wp2_with fail
      refine HLV.out.mono ?_
      rintro e w5 ⟨v5, rfl, ho5, hb5⟩
      have hB5 := hbA.trans (hb5.mono hsA)
      have hod5 := hodA.below hb5
      have ap1 := Own.apart_new ho5 hodA (Nat.le_refl _)
      go_wp2_with fail
      go_roundw
      case rel => exact ⟨k + 1, by omega, by go_num, hB5, by rw [HS1.out], by rw [HS2.out]; exact ho5.low hsA, by rw [HS1.out]; exact hod5, ap1, HF.out⟩
      case measure => simp [intOf]; omega
    | false =>
      have HS1 : Hid (hadF (list.take (k + 1)) xw = P ++ [xn]) := by rw [HSN.out, if_pos ⟨rfl, rfl⟩]; exact Lib.hid rfl
      have HS2 : Hid (hasF (list.take (k + 1)) xw = Q ++ [xn]) := by rw [HHN.out, if_pos rfl, if_neg (by simp)]; exact Lib.hid rfl
      by_cases e5 : xm = 5
      case neg =>
        have : R = k := HIT.out ⟨⟨rfl, rfl⟩, fun h => e5 h.1⟩
        subst this
        have e5' : (xm != 5) = true := by simpa using e5
        clear HNEXT HCL HIT HM1 HHH e5
        go_wp2_with fail
        go_ret
        exact ⟨rfl, hbA⟩
      subst e5
      obtain ⟨nn, rfl⟩ := Int.eq_ofNat_of_zero_le hnode
      by_cases hnl : nn < n
      case neg =>
        have : R = k := HIT.out ⟨⟨rfl, rfl⟩, fun h => hnl (by have h2 : (nn : Int) < t.length := h.2.1.2; have := HL.out; omega)⟩
        subst this
        have hnl' : (n : Int) ≤ (nn : Int) := by omega
        clear HNEXT HCL HIT HM1 HHH
        go_wp2_with fail
        go_ret
        exact ⟨rfl, hbA⟩
      have hnl' : ¬ (n : Int) ≤ (nn : Int) := by omega
      by_cases hmem : (nn : Int) ∈ P
      case pos =>
        have : R = k := HIT.out ⟨⟨rfl, rfl⟩, fun h => h.2.2.1 hmem⟩
        subst this
        rw [decide_eq_true hmem] at HM1
        clear HNEXT HCL HIT HHH hmem
        go_wp2_with (go_at_call 40; refine HM1.out.mono ?_; rintro e w5 ⟨rfl, rfl⟩)
        go_ret
        exact ⟨rfl, hbA⟩
      rw [decide_eq_false hmem] at HM1
      have dA2 : (W1.alloc (.cells #[.int .i64 xw, .bool false, .int .i64 nn, .int .i64 5] 32)).cell? ⟨W1.heap.size, 2, none⟩ = some (.int .i64 nn) := cell_newg W1 _ _ _ rfl 2 _ rfl
      have hne : some W1.heap.size ≠ (Value.slice A3 m3 c3).ownBlock := fun e => by have := HBLK.out _ e.symm; omega
      by_cases hPe : P = []
      · have HF := Lib.hid (HNEXT.out (HCL.out fun h => h.2 ⟨rfl, ⟨by omega, by have := HL.out; show (nn : Int) < _; omega⟩, hmem, .inl hPe⟩))
        have hE : P.isEmpty = true := by rw [hPe]; rfl
        clear HNEXT HCL HIT HHH hmem hPe HSN HHN
        go_wp2_with (first
          | (go_at_call 40; refine HM1.out.mono ?_; rintro e w5 ⟨rfl, rfl⟩)
          | (at_builtin; refine wpList_append_rd elI _ rfl (.tmp 66) (.tmp 69) rfl rfl (hohA.alloc _) rfl (Rd_oneg (W1.alloc (.cells #[.int .i64 xw, .bool false, .int .i64 nn, .int .i64 5] 32)) #[.int .i64 nn] 3 (nn : Int) rfl (W1.heap.size + 1) (by simp)) (by omega) (by simp; omega) ?_; intro v6 w6 ho6 hg6 hx6; have e2 := cell_grown hg6 dA2 hne; have hod6 := (hodA.alloc (.cells #[.int .i64 nn] 3)).grown' hg6 hap1; have hB6 := below_own (hbA.alloc hsA _) (hohA.alloc (.cells #[.int .i64 nn] 3)) hg6 (Nat.le_refl _) (by simp; omega); have hs6 := hB6.size)
          | (at_builtin; refine wpList_append_rd elI _ rfl (.tmp 71) (.tmp 74) rfl rfl (hod6.alloc _) rfl (Rd_one w6 #[.int .i64 nn] 3 (nn : Int) rfl) (by omega) (by simp; omega) ?_; intro v7 w7 ho7 hg7 hx7))
        have ap6 := Own.apart_next (hodA.alloc (.cells #[.int .i64 nn] 3)) hx6 (Nat.le_refl _) hap1
        have ho6' := (ho6.alloc (.cells #[.int .i64 nn] 3)).grown' hg7 (apart_symm ap6)
        have ap7 := Own.apart_next (ho6.alloc (.cells #[.int .i64 nn] 3)) hx7 (Nat.le_refl _) (apart_symm ap6)
        have hB7 := below_own (hB6.alloc hs6 _) (hod6.alloc (.cells #[.int .i64 nn] 3)) hg7 (Nat.le_refl _) (by simp; omega)
        go_roundw
        case rel => exact ⟨k + 1, by omega, by go_num, hB7, by rw [HS1.out]; simp, by rw [HS2.out]; exact ho6', by rw [HS1.out]; exact ho7, apart_symm ap7, HF.out⟩
        case measure => simp [intOf]; omega
      · have hE : P.isEmpty = false := by
          cases P with
          | nil => exact absurd rfl hPe
          | cons _ _ => rfl
        obtain ⟨b2, o2, y, rfl, _, hb2, hy, p0, p1, p2⟩ := ((hr.below hbl).alloc (.cells #[.int .i64 xw, .bool false, .int .i64 nn, .int .i64 5] 32)).atN hnl
        have HM2 := Lib.hid (isInS_any _ A3 m3 c3 Q y.par _ hr3A)
        have hy2 : t[((nn : Int)).toNat]? = some y := hy
        by_cases hpm : y.par ∈ Q
        case neg =>
          have : R = k := HIT.out ⟨⟨rfl, rfl⟩, fun h => by
            rcases h.2.2.2 with h | ⟨z, hz, h⟩
            · exact hPe h
            · have hz2 : t[((nn : Int)).toNat]? = some z := hz
              rw [hy2] at hz2; injection hz2 with hz2; subst hz2
              exact hpm ((HHH.out _).1 h)⟩
          subst this
          rw [decide_eq_false hpm] at HM2
          clear HNEXT HCL HIT HHH hmem hPe HSN HHN hpm hy hy2
          go_wp2_with fail
          refine HM1.out.mono ?_
          rintro e w5 ⟨rfl, rfl⟩
          go_wp2_with fail
          refine HM2.out.mono ?_
          rintro e w5 ⟨rfl, rfl⟩
          go_wp2_with fail
          go_ret
          exact ⟨rfl, hbA⟩
        rw [decide_eq_true hpm] at HM2
        have HF := Lib.hid (HNEXT.out (HCL.out fun h => h.2 ⟨rfl, ⟨by omega, by have := HL.out; show (nn : Int) < _; omega⟩, hmem, .inr ⟨y, hy2, (HHH.out _).2 hpm⟩⟩))
        clear HNEXT HCL HIT HHH hmem hPe HSN HHN hpm hy hy2
        go_wp2_with fail
        refine HM1.out.mono ?_
        rintro e w5 ⟨rfl, rfl⟩
        go_wp2_with fail
        refine HM2.out.mono ?_
        rintro e w5 ⟨rfl, rfl⟩
        go_wp2_with (first
          | (at_builtin; refine wpList_append_rd elI _ rfl (.tmp 66) (.tmp 69) rfl rfl (hohA.alloc _) rfl (Rd_oneg (W1.alloc (.cells #[.int .i64 xw, .bool false, .int .i64 nn, .int .i64 5] 32)) #[.int .i64 nn] 3 (nn : Int) rfl (W1.heap.size + 1) (by simp)) (by omega) (by simp; omega) ?_; intro v6 w6 ho6 hg6 hx6; have e2 := cell_grown hg6 dA2 hne; have hod6 := (hodA.alloc (.cells #[.int .i64 nn] 3)).grown' hg6 hap1; have hB6 := below_own (hbA.alloc hsA _) (hohA.alloc (.cells #[.int .i64 nn] 3)) hg6 (Nat.le_refl _) (by simp; omega); have hs6 := hB6.size)
          | (at_builtin; refine wpList_append_rd elI _ rfl (.tmp 71) (.tmp 74) rfl rfl (hod6.alloc _) rfl (Rd_one w6 #[.int .i64 nn] 3 (nn : Int) rfl) (by omega) (by simp; omega) ?_; intro v7 w7 ho7 hg7 hx7))
        have ap6 := Own.apart_next (hodA.alloc (.cells #[.int .i64 nn] 3)) hx6 (Nat.le_refl _) hap1
        have ho6' := (ho6.alloc (.cells #[.int .i64 nn] 3)).grown' hg7 (apart_symm ap6)
        have ap7 := Own.apart_next (ho6.alloc (.cells #[.int .i64 nn] 3)) hx7 (Nat.le_refl _) (apart_symm ap6)
        have hB7 := below_own (hB6.alloc hs6 _) (hod6.alloc (.cells #[.int .i64 nn] 3)) hg7 (Nat.le_refl _) (by simp; omega)
        go_roundw
        case rel => exact ⟨k + 1, by omega, by go_num, hB7, by rw [HS1.out]; simp, by rw [HS2.out]; exact ho6', by rw [HS1.out]; exact ho7, apart_symm ap7, HF.out⟩
        case measure => simp [intOf]; omega
end Go.Proofs.YtcefgabdffipgaaDoor
