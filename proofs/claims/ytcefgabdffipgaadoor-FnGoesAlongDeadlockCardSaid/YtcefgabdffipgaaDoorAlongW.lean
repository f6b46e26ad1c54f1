/- The walks over locks along a tree: goesOn, AlongFault, GoesAlong of the program; leave, alongFault, AlongFault, GoesAlong of the reference. -/
import Derived.Test.YtcefgabdffipgaaDoorStepS
import Derived.Test.YtcefgabdffipgaaDoorStepW
import Derived.Test.YtcefgabdffipgaaDoorAlongL
import Derived.Test.YtcefgabdffipgaaDoorPlaceW
namespace Go.Proofs.YtcefgabdffipgaaDoor
open Go.RowKit

section
variable {α β : Type} {cs : α → List Value} {cs2 : β → List Value} {sz sz2 : Nat} {e e2 : TypeId} {w : World} {base base2 : Nat} {v v2 : Value} {l : List α} {l2 : List β}
/-- Two lists of different elements lie apart. -/
theorem Own.apart (h : Own cs sz e w base v l) (h2 : Own cs2 sz2 e2 w base2 v2 l2) (hne : e ≠ e2) : v.ownBlock = none ∨ v.ownBlock ≠ v2.ownBlock := by
  rcases h.2 with ⟨rfl, _⟩ | ⟨g, cap, cur, rfl, _, hg, _⟩
  · exact .inl rfl
  · rcases h2.2 with ⟨rfl, _⟩ | ⟨g2, cap2, cur2, rfl, _, hg2, _⟩
    · exact .inr (by simp [Value.ownBlock])
    · refine .inr fun hc => ?_
      simp only [Value.ownBlock, Option.some.injEq] at hc
      subst hc
      rw [hg] at hg2
      injection hg2 with hg2
      injection hg2 with _ hg2 _
      exact hne hg2
/-- What lies apart stays apart as the other one grows. -/
theorem Own.apart_next {s : Nat} {va va' : Value} (h : Own cs sz e w base v l) (ha : va'.ownBlock = va.ownBlock ∨ va'.ownBlock = some s) (hs : w.heap.size ≤ s) (hd : v.ownBlock = none ∨ v.ownBlock ≠ va.ownBlock) : v.ownBlock = none ∨ v.ownBlock ≠ va'.ownBlock := by
  rcases ha with e | e
  · rw [e]; exact hd
  · refine .inr fun hc => ?_
    rw [e] at hc
    have := (h.blk s hc).2
    omega
/-- What is made later lies apart. -/
theorem Own.apart_new {w' : World} {va : Value} {la : List β} (h : Own cs sz e w' base v l) (ha : Own cs2 sz2 e2 w base2 va la) (hb : w.heap.size ≤ base) : va.ownBlock = none ∨ va.ownBlock ≠ v.ownBlock := by
  cases e : va.ownBlock with
  | none => exact .inl rfl
  | some k =>
    refine .inr fun hc => ?_
    have h1 := (ha.blk k e).2
    have h2 := (h.blk k hc.symm).1
    omega
end

theorem cell_grown {w w' : World} {o : Obj} {row : Option Nat} {a : Addr} {v : Value} (hg : (w.alloc o).grownBy w' row) (h : w.cell? a = some v) (hne : some a.block ≠ row) : w'.cell? a = some v := by
  have hlt := World.block_lt_of_cell? w a h
  have h1 : (w.alloc o).cell? a = some v := (((Below.refl w.heap.size w).alloc (Nat.le_refl _) o).cell hlt).trans h
  exact (World.cell?_of_block (hg.block a.block (by simp; omega) hne)).trans h1
set_option maxHeartbeats 1000000 in
theorem leave_any (lo : Nat) (A : Option Addr) (n c : Nat) (l : List Int) (z : Int) (w : World) (hr : Rd cI 1 w lo A n l) (hn : n ≤ 1000) :
    Calls Tryd.prog 39 #[.slice A n c, .int .i64 z] w (IntsP w (l.filter (fun x => decide (x ≠ z)))) := by
  have HL := Lib.hid hr.len
  generalize hR : l.filter (fun x => decide (x ≠ z)) = R
  have HR := Lib.hid hR
  clear hR
  go_enter Tryd.func39, Tryd.ntmps39
  go_wp2_with fail
  go_loopw [5, 6] (fun v i wr => ∃ k : Nat, k ≤ n ∧ i = .int .i64 k ∧ Below w.heap.size w wr ∧ Own cI 1 3 wr w.heap.size v ((l.take k).filter (fun x => decide (x ≠ z)))) (fun _ i _ => n - (intOf i).toNat)
  case atStart => exact ⟨0, Nat.zero_le _, rfl, (Below.refl _ _).alloc (Nat.le_refl _) _, Own.empty w elI.len⟩
  case round =>
    rename World => W1
    obtain ⟨k, hk, rfl, hbl, ho⟩ := hrel
    have hs := hbl.size
    by_cases hlt : k < n
    case neg =>
      rw [List.take_of_length_le (by have := HL.out; omega), HR.out] at ho
      go_wp2_with fail
      go_ret
      exact ⟨_, rfl, ho, hbl⟩
    obtain ⟨b, o, x, rfl, _, hb, hx, g0⟩ := (hr.below hbl).atI hlt
    have hpl : ((l.take k).filter (fun x => decide (x ≠ z))).length ≤ 1000 := by
      refine Nat.le_trans (List.length_filter_le _ _) ?_
      rw [List.length_take]; omega
    have hts : (l.take (k + 1)).filter (fun x => decide (x ≠ z)) = (l.take k).filter (fun x => decide (x ≠ z)) ++ (if x = z then [] else [x]) := by
      rw [take_snoc hx, List.filter_append]
      by_cases e : x = z <;> simp [e]
    generalize (l.take k).filter (fun x => decide (x ≠ z)) = P at *
    clear hx
    by_cases e1 : x = z
    · subst e1
      rw [if_pos rfl, List.append_nil] at hts
      have HT := Lib.hid hts
      clear hts
      go_wp2_with fail
      go_roundw
      case rel => exact ⟨k + 1, by omega, by go_num, hbl, by rw [HT.out]; exact ho⟩
      case measure => simp [intOf]; omega
    · rw [if_neg e1] at hts
      have HT := Lib.hid hts
      have e3 : (x != z) = true := by simpa using e1
      clear hts e1
      go_wp2_with (at_builtin; refine wpList_append_rd elI _ rfl (.tmp 20) (.tmp 25) rfl rfl (ho.alloc _) rfl (Rd_one W1 #[.int .i64 x] 3 x rfl) (by omega) (by simp; omega) ?_; intro v5 w5 ho5 hg5 _)
      have hb5 := below_own (hbl.alloc hs _) (ho.alloc (.cells #[.int .i64 x] 3)) hg5 (Nat.le_refl _) (by simp; omega)
      go_roundw
      case rel => exact ⟨k + 1, by omega, by go_num, hb5, by rw [HT.out]; exact ho5⟩
      case measure => simp [intOf]; omega
open Classical in
noncomputable def goB (t : List Nd) (l : List Lk) (had : List Int) (who node : Int) : Bool := decide (Goes t l had who node)
open Classical in
theorem goB_t {t : List Nd} {l : List Lk} {had : List Int} {who node : Int} (h : Goes t l had who node) : goB t l had who node = true := decide_eq_true h
open Classical in
theorem goB_f {t : List Nd} {l : List Lk} {had : List Int} {who node : Int} (h : ¬ Goes t l had who node) : goB t l had who node = false := decide_eq_false h
set_option maxHeartbeats 1000000 in
theorem goesOn_any (lo lo2 lo3 : Nat) (A A2 A3 : Option Addr) (n c m c2 p c3 : Nat) (t : List Nd) (l : List Lk) (had : List Int) (who node : Int) (w : World) (hr : Rd cN 3 w lo A n t) (hr2 : Rd cL 3 w lo2 A2 m l) (hr3 : Rd cI 1 w lo3 A3 p had) (hv : VTb l) :
    Calls Tryd.prog 34 #[.slice A n c, .slice A2 m c2, .slice A3 p c3, .int .i64 who, .int .i64 node] w fun e w' => e = .returned (.bool (goB t l had who node)) ∧ Below w.heap.size w w' := by
  have HL := Lib.hid hr.len
  have HL3 := Lib.hid hr3.len
  have hn := hr.le
  have hp := hr3.le
  by_cases h0 : 0 ≤ node ∧ node < n
  case neg =>
    rw [goB_f fun g => h0 ⟨g.1.1, by have := g.1.2; have := HL.out; omega⟩]
    have HC := Lib.hid (within_f node 0 ((n : Int) - 1) w (by omega))
    clear h0
    go_enter Tryd.func34, Tryd.ntmps34
    go_wp2_with (go_at_call 31; refine HC.out.mono ?_; rintro e w3 ⟨rfl, rfl⟩)
    go_ret
    exact ⟨rfl, Below.refl _ _⟩
  have HC := Lib.hid (within_t node 0 ((n : Int) - 1) w (by omega) (by omega))
  have HM := Lib.hid (ContainsI_any lo3 A3 p c3 had node w hr3)
  by_cases hm : node ∈ had
  case pos =>
    rw [goB_f fun g => g.2.1 hm]
    rw [decide_eq_true hm] at HM
    clear hm
    go_enter Tryd.func34, Tryd.ntmps34
    go_wp2_with (first | (go_at_call 31; refine HC.out.mono ?_; rintro e w3 ⟨rfl, rfl⟩) | (go_at_call 23; refine HM.out.mono ?_; rintro e w4 ⟨rfl, rfl⟩))
    go_ret
    exact ⟨rfl, Below.refl _ _⟩
  rw [decide_eq_false hm] at HM
  by_cases hp0 : p = 0
  · subst hp0
    rw [goB_t ⟨⟨h0.1, by have := HL.out; omega⟩, hm, .inl (List.eq_nil_of_length_eq_zero HL3.out)⟩]
    clear hm
    go_enter Tryd.func34, Tryd.ntmps34
    go_wp2_with (first | (go_at_call 31; refine HC.out.mono ?_; rintro e w3 ⟨rfl, rfl⟩) | (go_at_call 23; refine HM.out.mono ?_; rintro e w4 ⟨rfl, rfl⟩))
    go_ret
    exact ⟨rfl, Below.refl _ _⟩
  obtain ⟨k, rfl⟩ := Int.eq_ofNat_of_zero_le h0.1
  obtain ⟨b, o, x, rfl, _, hb, hx, g0, g1, g2⟩ := hr.atN (k := k) (by omega)
  have hp1 : ((p : Int) == 0) = false := by simp; omega
  have hne : had ≠ [] := fun e => hp0 (by have := HL3.out; rw [e] at this; exact this.symm)
  have hx2 : t[((k : Int)).toNat]? = some x := hx
  have HK := Lib.hid (lockAt_any lo2 A2 m c2 l who x.par w hr2)
  by_cases hh : heldF l who x.par = 0
  · rw [goB_f fun g => by
      rcases g.2.2 with g | ⟨y, hy, g⟩
      · exact hne g
      · rw [hx2] at hy; injection hy with hy; subst hy; exact g hh]
    rw [atF_miss hv hh] at HK
    clear hm hx hx2 hne hh
    go_enter Tryd.func34, Tryd.ntmps34
    go_wp2_with (first | (go_at_call 31; refine HC.out.mono ?_; rintro e w3 ⟨rfl, rfl⟩) | (go_at_call 23; refine HM.out.mono ?_; rintro e w4 ⟨rfl, rfl⟩) | (go_at_call 42; refine HK.out.mono ?_; rintro e w5 ⟨rfl, hb5⟩))
    go_ret
    exact ⟨rfl, hb5⟩
  · rw [goB_t ⟨⟨h0.1, by have := HL.out; omega⟩, hm, .inr ⟨x, hx2, hh⟩⟩]
    obtain ⟨j, _, hj, _⟩ := atF_hit hv hh
    rw [hj] at HK
    clear hm hx hx2 hne hh hj
    go_enter Tryd.func34, Tryd.ntmps34
    go_wp2_with (first | (go_at_call 31; refine HC.out.mono ?_; rintro e w3 ⟨rfl, rfl⟩) | (go_at_call 23; refine HM.out.mono ?_; rintro e w4 ⟨rfl, rfl⟩) | (go_at_call 42; refine HK.out.mono ?_; rintro e w5 ⟨rfl, hb5⟩))
    go_ret
    exact ⟨rfl, hb5⟩
set_option maxHeartbeats 1600000 in
theorem AlongFault_any (lo lo2 : Nat) (A A2 : Option Addr) (n c m c2 : Nat) (t : List Nd) (list : List St) (who : Int) (w : World) (hr : Rd cN 3 w lo A n t) (hc : n ≤ c) (hr2 : Rd cS 4 w lo2 A2 m list) (hm : m ≤ 1000000) (hT : Tb w) :
    Calls Tryd.prog 14 #[.slice A n c, .slice A2 m c2, .int .i64 who] w fun e w' => e = .returned (.int .i64 (alI t list who)) ∧ Below w.heap.size w w' := by
  have HL2 := Lib.hid hr2.len
  by_cases h1 : VT t
  case neg =>
    rw [alI_no fun h => h1 h.1]
    have HC := Lib.hid (ValidTree_any lo A n c t w hr hc)
    rw [vt_false h1] at HC
    clear h1
    go_enter Tryd.func14, Tryd.ntmps14
    go_wp2_with (go_at_call 12; refine HC.out.mono ?_; rintro e w3 ⟨rfl, hb3⟩)
    go_ret
    exact ⟨rfl, hb3⟩
  have HC := Lib.hid (ValidTree_any lo A n c t w hr hc)
  rw [vt_true h1] at HC
  by_cases h2 : VS list
  case neg =>
    rw [alI_no fun h => h2 h.2]
    have HV : Hid (∀ w', Below w.heap.size w w' → Calls Tryd.prog 13 #[.slice A2 m c2] w' fun e w'' => e = .returned (.bool false) ∧ Below w'.heap.size w' w'') := fun w' hb' => by
      have := ValidSteps_any lo2 A2 m c2 list w' (hr2.below hb') hm (hT.below hb')
      rw [vsB_f h2] at this
      exact this
    clear h1 h2
    go_enter Tryd.func14, Tryd.ntmps14
    go_wp2_with (first | (go_at_call 12; refine HC.out.mono ?_; rintro e w3 ⟨rfl, hb3⟩) | (go_at_call 13; refine (HV.out _ hb3).mono ?_; rintro e w4 ⟨rfl, hb4⟩))
    go_ret
    exact ⟨rfl, hb3.trans (hb4.mono hb3.size)⟩
  have HV : Hid (∀ w', Below w.heap.size w w' → Calls Tryd.prog 13 #[.slice A2 m c2] w' fun e w'' => e = .returned (.bool true) ∧ Below w'.heap.size w' w'') := fun w' hb' => by
    have := ValidSteps_any lo2 A2 m c2 list w' (hr2.below hb') hm (hT.below hb')
    rw [vsB_t h2] at this
    exact this
  rw [alI_yes h1 h2]
  generalize hR : alF t list who = R
  have HR := Lib.hid hR
  have HVT := Lib.hid h1
  have HVS := Lib.hid h2
  have hm16 : m ≤ 16 := by have := h2.len; have := HL2.out; omega
  clear hR h1 h2
  go_enter Tryd.func14, Tryd.ntmps14
  go_wp2_with (first | (go_at_call 12; refine HC.out.mono ?_; rintro e w3 ⟨rfl, hb3⟩) | (go_at_call 13; refine (HV.out _ hb3).mono ?_; rintro e w4 ⟨rfl, hb4⟩))
  have hB4 := hb3.trans (hb4.mono hb3.size)
  clear HC HV hb3 hb4
  go_loopw [7, 8, 21] (fun tb hd i wr => ∃ (k : Nat) (mm : List Lk), k ≤ m ∧ i = .int .i64 k ∧ Below w.heap.size w wr ∧ stepsF (list.take k) [] = some mm ∧ VTb mm ∧ Own cL 3 37 wr w.heap.size tb mm ∧ Own cI 1 3 wr w.heap.size hd (hadF (list.take k) who) ∧ ∀ j, j < k → fltB t list who j = false) (fun _ _ i _ => m - (intOf i).toNat)
  case atStart => exact ⟨0, [], Nat.zero_le _, rfl, hB4, rfl, VTb_nil, Own.nil _ _, Own.nil _ _, fun j h => by omega⟩
  case round =>
    rename World => W1
    obtain ⟨k, mm, hk, rfl, hbl, hst, hvm, ho, ho2, hall⟩ := hrel
    have hs := hbl.size
    have HALL := Lib.hid hall
    clear hall
    by_cases hlt : k < m
    case neg =>
      have : R = -1 := by
        rw [← HR.out]
        exact alF_none fun j hj => HALL.out j (by have := HL2.out; omega)
      subst this
      clear hst hvm
      go_wp2_with fail
      go_ret
      exact ⟨rfl, hbl⟩
    obtain ⟨b, o, x, rfl, _, hb, hx, g0, g1, g2, g3⟩ := (hr2.below hbl).atS hlt
    have HNEXT : Hid (fltB t list who k = false → ∀ j, j < k + 1 → fltB t list who j = false) := fun hf j hj => by
      by_cases e : j = k
      · rw [e]; exact hf
      · exact HALL.out j (by omega)
    have HX := Lib.hid hx
    have HST := Lib.hid hst
    have HSN := Lib.hid (had_snoc hx who)
    have hkl : k < list.length := (List.getElem?_eq_some_iff.1 hx).1
    obtain ⟨mm2, hst2, hvm2⟩ := HVS.out.tab (k + 1)
    have HST2 := Lib.hid hst2
    have hdo : doF mm x = some mm2 := by rw [← stepsF_snoc hst hx]; exact hst2
    have HDO := Lib.hid hdo
    have HFLT := Lib.hid (fltB_at (t := t) (who := who) hx hst)
    have hHl : (hadF (list.take k) who).length ≤ 16 := by
      have := had_len (list.take k) who
      rw [List.length_take] at this; omega
    have hMl := hvm.1
    obtain ⟨A3, m3, c3, rfl, hc3, hr3⟩ := ho.rdn elL.len (by omega)
    obtain ⟨A4, m4, c4, rfl, hc4, hr4⟩ := ho2.rdn elI.len (by omega)
    have hblk : ∀ kk, (Value.slice A4 m4 c4).ownBlock = some kk → kk < W1.heap.size := fun kk h => (ho2.blk kk h).2
    have HBLK := Lib.hid hblk
    have HVM := Lib.hid hvm
    have HVM2 := Lib.hid hvm2
    have hbA := hbl.alloc hs (.cells #[.int .i64 x.who, .bool x.free, .int .i64 x.node, .int .i64 x.mode] 32)
    have hsA := hbA.size
    have hoA := ho.alloc (.cells #[.int .i64 x.who, .bool x.free, .int .i64 x.node, .int .i64 x.mode] 32)
    have ho2A := ho2.alloc (.cells #[.int .i64 x.who, .bool x.free, .int .i64 x.node, .int .i64 x.mode] 32)
    have hr3A := hr3.alloc (.cells #[.int .i64 x.who, .bool x.free, .int .i64 x.node, .int .i64 x.mode] 32)
    have hr4A := hr4.alloc (.cells #[.int .i64 x.who, .bool x.free, .int .i64 x.node, .int .i64 x.mode] 32)
    have HD : Hid (∀ w', Below w.heap.size w w' → Rd cL 3 w' w.heap.size A3 m3 mm → Calls Tryd.prog 18 #[.slice A3 m3 c3, .agg #[.int .i64 x.who, .bool x.free, .int .i64 x.node, .int .i64 x.mode]] w' (LksT w' mm2)) := fun w' hb' hr' => by
      have := doStep_any _ A3 m3 c3 mm x w' hr' hc3 (hT.below hb') HVM.out
      rw [HDO.out] at this
      exact this
    have HGO := Lib.hid (goesOn_any _ _ _ A _ _ n c m3 c3 m4 c4 t mm (hadF (list.take k) who) who x.node _ ((hr.below hbl).alloc _) hr3A hr4A hvm)
    generalize hP : hadF (list.take k) who = P at *
    have HP := Lib.hid hP
    clear hst hst2 hvm hvm2 hdo hP hblk ho ho2 hr3 hr4 hx hMl
    by_cases ht : Takes x who
    case neg =>
      have HF2 := Lib.hid (HNEXT.out (fltB_f HX.out HST.out fun h => ht h.1))
      rw [if_neg ht, List.append_nil] at HSN
      have HD2 := Lib.hid (HD.out _ hbA hr3A)
      obtain ⟨xw, xf, xn, xm⟩ := x
      simp only at g0 g1 g2 g3
      by_cases e1 : xw = who
      · have e2 : xf = true := by
          cases xf with
          | true => rfl
          | false => exact absurd ⟨e1, rfl⟩ ht
        subst e1 e2
        clear ht HFLT HNEXT HDO HGO
        go_wp2_with fail
        refine HD2.out.mono ?_
        rintro e w5 ⟨v5, rfl, ho5, hb5⟩
        go_wp2_with fail
        go_roundw
        case rel => exact ⟨k + 1, mm2, by omega, by go_num, hbA.trans (hb5.mono hsA), HST2.out, HVM2.out, ho5.low hsA, by rw [HSN.out]; exact ho2A.below hb5, HF2.out⟩
        case measure => simp [intOf]; omega
      · have e2 : (xw == who) = false := by simpa using e1
        clear ht HFLT HNEXT HDO HGO e1
        go_wp2_with fail
        refine HD2.out.mono ?_
        rintro e w5 ⟨v5, rfl, ho5, hb5⟩
        go_wp2_with fail
        go_roundw
        case rel => exact ⟨k + 1, mm2, by omega, by go_num, hbA.trans (hb5.mono hsA), HST2.out, HVM2.out, ho5.low hsA, by rw [HSN.out]; exact ho2A.below hb5, HF2.out⟩
        case measure => simp [intOf]; omega
    rw [if_pos ht] at HSN
    have HHIT : Hid (fltB t list who k = true → R = k) := fun hf => by rw [← HR.out]; exact alF_hit hkl hf HALL.out
    have HT := Lib.hid ht
    clear ht
    obtain ⟨xw, xf, xn, xm⟩ := x
    obtain ⟨rfl, rfl⟩ : xw = who ∧ xf = false := id HT.out
    simp only at g0 g1 g2 g3
    by_cases e5 : xm = 5
    case neg =>
      have e5' : (xm != 5) = true := by simpa using e5
      have : R = k := HHIT.out (HFLT.out.2 ⟨HT.out, fun h => e5 h.1⟩)
      subst this
      clear HT HFLT HNEXT HDO HGO e5 HHIT
      go_wp2_with fail
      go_ret
      exact ⟨rfl, hbA⟩
    subst e5
    by_cases hg : Goes t mm P xw xn
    case neg =>
      have : R = k := HHIT.out (HFLT.out.2 ⟨HT.out, fun h => hg h.2⟩)
      subst this
      rw [goB_f hg] at HGO
      clear HT HFLT HNEXT HDO HHIT hg
      go_wp2_with (go_at_call 34; refine HGO.out.mono ?_; rintro e w5 ⟨rfl, hb5⟩)
      go_ret
      exact ⟨rfl, hbA.trans (hb5.mono hsA)⟩
    have HF2 := Lib.hid (HNEXT.out (fltB_f HX.out HST.out fun h => h.2 ⟨rfl, by rw [HP.out]; exact hg⟩))
    rw [goB_t hg] at HGO
    clear HT HFLT HNEXT HDO HHIT hg
    go_wp2_with fail
    refine HGO.out.mono ?_
    rintro e w5 ⟨rfl, hb5⟩
    have hB5 := hbA.trans (hb5.mono hsA)
    have hs5 := hB5.size
    have ho25 := ho2A.below hb5
    have ho5 := hoA.below hb5
    have d0 : w5.cell? ⟨W1.heap.size, 0, none⟩ = some (.int .i64 xw) := (hb5.cell (by simp)).trans (cell_newg W1 _ _ _ rfl 0 _ rfl)
    have d1 : w5.cell? ⟨W1.heap.size, 1, none⟩ = some (.bool false) := (hb5.cell (by simp)).trans (cell_newg W1 _ _ _ rfl 1 _ rfl)
    have d2 : w5.cell? ⟨W1.heap.size, 2, none⟩ = some (.int .i64 xn) := (hb5.cell (by simp)).trans (cell_newg W1 _ _ _ rfl 2 _ rfl)
    have d3 : w5.cell? ⟨W1.heap.size, 3, none⟩ = some (.int .i64 5) := (hb5.cell (by simp)).trans (cell_newg W1 _ _ _ rfl 3 _ rfl)
    have hne : some W1.heap.size ≠ (Value.slice A4 m4 c4).ownBlock := fun e => by have := HBLK.out _ e.symm; omega
    clear hr3A hr4A HGO hb5 hoA ho2A g0 g1 g2 g3
    go_wp2_with (at_builtin; refine wpList_append_rd elI _ rfl (.tmp 49) (.tmp 52) rfl rfl (ho25.alloc _) rfl (Rd_one w5 #[.int .i64 xn] 3 xn rfl) (by omega) (by simp; omega) ?_; intro v6 w6 ho6 hg6 _; have e0 := cell_grown hg6 d0 hne; have e1 := cell_grown hg6 d1 hne; have e2 := cell_grown hg6 d2 hne; have e3 := cell_grown hg6 d3 hne)
    have hB6 := below_own (hB5.alloc hs5 _) (ho25.alloc (.cells #[.int .i64 xn] 3)) hg6 (Nat.le_refl _) (by simp; omega)
    have ho6t := (ho5.alloc (.cells #[.int .i64 xn] 3)).grown' hg6 (Own.apart (ho5.alloc (.cells #[.int .i64 xn] 3)) (ho25.alloc (.cells #[.int .i64 xn] 3)) (by decide))
    have hr6 := (ho6t.rds elL.len (by have := HVM.out.1; omega)).2
    have HD6 := Lib.hid (HD.out w6 hB6 hr6)
    have hs6 := hB6.size
    clear d0 d1 d2 d3 ho5 ho25 hr6 HD
    go_wp2_with fail
    refine HD6.out.mono ?_
    rintro e w7 ⟨v7, rfl, ho7, hb7⟩
    go_wp2_with fail
    go_roundw
    case rel => exact ⟨k + 1, mm2, by omega, by go_num, hB6.trans (hb7.mono hs6), HST2.out, HVM2.out, ho7.low hs6, by rw [HSN.out]; exact ho6.below hb7, HF2.out⟩
    case measure => simp [intOf]; omega
open Classical in
/-- All go along, as the program says it. -/
noncomputable def gaB (t : List Nd) (list : List St) : Bool := decide (GA t list)
open Classical in
theorem gaB_t {t : List Nd} {list : List St} (h : GA t list) : gaB t list = true := decide_eq_true h
open Classical in
theorem gaB_f {t : List Nd} {list : List St} (h : ¬ GA t list) : gaB t list = false := decide_eq_false h
theorem alF_lt {t : List Nd} {list : List St} {who : Int} : -1 ≤ alF t list who ∧ alF t list who < list.length := by
  rcases alF_cases t list who with ⟨h, _⟩ | ⟨i, h, hi, _⟩
  · rw [h]; omega
  · rw [h]; omega
set_option maxHeartbeats 1000000 in
theorem GoesAlong_any (lo lo2 : Nat) (A A2 : Option Addr) (n c m c2 : Nat) (t : List Nd) (list : List St) (w : World) (hr : Rd cN 3 w lo A n t) (hc : n ≤ c) (hr2 : Rd cS 4 w lo2 A2 m list) (hm : m ≤ 1000000) (hT : Tb w) :
    Calls Tryd.prog 5 #[.slice A n c, .slice A2 m c2] w fun e w' => e = .returned (.bool (gaB t list)) ∧ Below w.heap.size w w' := by
  by_cases h1 : VT t
  case neg =>
    rw [gaB_f fun h => h1 h.1]
    have HC := Lib.hid (ValidTree_any lo A n c t w hr hc)
    rw [vt_false h1] at HC
    clear h1
    go_enter Tryd.func5, Tryd.ntmps5
    go_wp2_with (go_at_call 12; refine HC.out.mono ?_; rintro e w3 ⟨rfl, hb3⟩)
    go_ret
    exact ⟨rfl, hb3⟩
  have HC := Lib.hid (ValidTree_any lo A n c t w hr hc)
  rw [vt_true h1] at HC
  by_cases h2 : VS list
  case neg =>
    rw [gaB_f fun h => h2 h.2.1]
    have HV : Hid (∀ w', Below w.heap.size w w' → Calls Tryd.prog 13 #[.slice A2 m c2] w' fun e w'' => e = .returned (.bool false) ∧ Below w'.heap.size w' w'') := fun w' hb' => by
      have := ValidSteps_any lo2 A2 m c2 list w' (hr2.below hb') hm (hT.below hb')
      rw [vsB_f h2] at this
      exact this
    clear h1 h2
    go_enter Tryd.func5, Tryd.ntmps5
    go_wp2_with (first | (go_at_call 12; refine HC.out.mono ?_; rintro e w3 ⟨rfl, hb3⟩) | (go_at_call 13; refine (HV.out _ hb3).mono ?_; rintro e w4 ⟨rfl, hb4⟩))
    go_ret
    exact ⟨rfl, hb3.trans (hb4.mono hb3.size)⟩
  have HV : Hid (∀ w', Below w.heap.size w w' → Calls Tryd.prog 13 #[.slice A2 m c2] w' fun e w'' => e = .returned (.bool true) ∧ Below w'.heap.size w' w'') := fun w' hb' => by
    have := ValidSteps_any lo2 A2 m c2 list w' (hr2.below hb') hm (hT.below hb')
    rw [vsB_t h2] at this
    exact this
  have HAF : Hid (∀ who w', Below w.heap.size w w' → Calls Tryd.prog 14 #[.slice A n c, .slice A2 m c2, .int .i64 who] w' fun e w'' => e = .returned (.int .i64 (alF t list who)) ∧ Below w'.heap.size w' w'') := fun who w' hb' => by
    have := AlongFault_any lo lo2 A A2 n c m c2 t list who w' (hr.below hb') hc (hr2.below hb') hm (hT.below hb')
    rw [alI_yes h1 h2] at this
    exact this
  generalize hR : gaB t list = R
  have HR := Lib.hid hR
  have HVT := Lib.hid h1
  have HVS := Lib.hid h2
  clear hR h1 h2
  go_enter Tryd.func5, Tryd.ntmps5
  go_wp2_with (first | (go_at_call 12; refine HC.out.mono ?_; rintro e w3 ⟨rfl, hb3⟩) | (go_at_call 13; refine (HV.out _ hb3).mono ?_; rintro e w4 ⟨rfl, hb4⟩))
  have hB4 := hb3.trans (hb4.mono hb3.size)
  clear HC HV hb3 hb4
  go_loopw [14] (fun i wr => ∃ k : Nat, k ≤ 4 ∧ i = .int .i64 k ∧ Below w.heap.size w wr ∧ ∀ j : Nat, j < k → alF t list j = -1) (fun i _ => 4 - (intOf i).toNat)
  case atStart => exact ⟨0, Nat.zero_le _, rfl, hB4, fun j h => by omega⟩
  case round =>
    rename World => W1
    obtain ⟨k, hk, rfl, hbl, hall⟩ := hrel
    have hs := hbl.size
    have HALL := Lib.hid hall
    clear hall
    by_cases hlt : k < 4
    case neg =>
      have : R = true := by
        rw [← HR.out]
        refine gaB_t ⟨HVT.out, HVS.out, fun who h0 h3 => ?_⟩
        have := HALL.out who.toNat (by omega)
        rw [show ((who.toNat : Nat) : Int) = who by omega] at this
        exact this
      subst this
      go_wp2_with fail
      go_ret
      exact ⟨rfl, hbl⟩
    have hlt' : (k : Int) < 4 := by omega
    have HA := Lib.hid (HAF.out (k : Int) W1 hbl)
    have hge := (alF_lt (t := t) (list := list) (who := (k : Int))).1
    by_cases hz : alF t list (k : Int) = -1
    · have HN : Hid (∀ j : Nat, j < k + 1 → alF t list j = -1) := fun j hj => by
        by_cases e : j = k
        · rw [e]; exact hz
        · exact HALL.out j (by omega)
      rw [hz] at HA
      clear hz hge
      go_wp2_with (go_at_call 14; refine HA.out.mono ?_; rintro e w5 ⟨rfl, hb5⟩)
      go_roundw
      case rel => exact ⟨k + 1, by omega, by go_num, hbl.trans (hb5.mono hs), HN.out⟩
      case measure => simp [intOf]; omega
    · have : R = false := by
        rw [← HR.out]
        exact gaB_f fun h => hz (h.2.2 k (by omega) (by omega))
      subst this
      generalize alF t list (k : Int) = q at *
      have hq : 0 ≤ q := by omega
      clear hz hge
      go_wp2_with (go_at_call 14; refine HA.out.mono ?_; rintro e w5 ⟨rfl, hb5⟩)
      go_ret
      exact ⟨rfl, hbl.trans (hb5.mono hs)⟩
end Go.Proofs.YtcefgabdffipgaaDoor
