/- The walks over ValidScripts, validScripts, allIn, validRun, copyInts. -/
import Derived.Test.YtgpocjehiohimaaDoorSlsP
import Derived.Test.YtgpocjehiohimaaDoorRunP
import Derived.Test.YtgpocjehiohimaaDoorInts
import Derived.Test.YtgpocjehiohimaaDoorTreeV2
import Derived.Test.YtgpocjehiohimaaDoorTreeV3
namespace Go.Proofs.YtgpocjehiohimaaDoor
open Go.RowKit

theorem elV : ElemT Tryd.prog cV 1 31 59 24 := mkElem (z := .slice none 0 0) Tryd.underlying31 (by kernel_rfl) rfl (by omega) (by omega) (fun _ => rfl) one_V
theorem elD : ElemT Tryd.prog cD 2 59 73 16 := mkElem (z := .agg #[.int .i64 0, .int .i64 0]) Tryd.underlying59 (by kernel_rfl) rfl (by omega) (by omega) (fun _ => rfl) one_D

/-- A script that is valid. -/
def OkS (t : List Nd) (s : List Dd) : Prop := (1 ≤ s.length ∧ s.length ≤ 3) ∧ ∀ d ∈ s, OkDo t d
noncomputable def scB (t : List Nd) (sc : List (List Dd)) : Bool := @decide (VT t ∧ VSc t sc) (Classical.propDecidable _)
theorem scB_t {t : List Nd} {sc : List (List Dd)} (h : VT t) (h2 : VSc t sc) : scB t sc = true := by unfold scB; exact @decide_eq_true _ (Classical.propDecidable _) ⟨h, h2⟩
theorem scB_f {t : List Nd} {sc : List (List Dd)} (h : ¬ (VT t ∧ VSc t sc)) : scB t sc = false := by unfold scB; exact @decide_eq_false _ (Classical.propDecidable _) h
noncomputable def vsB2 (t : List Nd) (sc : List (List Dd)) : Bool := @decide (VSc t sc) (Classical.propDecidable _)
theorem vsB2_t {t : List Nd} {sc : List (List Dd)} (h2 : VSc t sc) : vsB2 t sc = true := by unfold vsB2; exact @decide_eq_true _ (Classical.propDecidable _) h2
theorem vsB2_f {t : List Nd} {sc : List (List Dd)} (h : ¬ VSc t sc) : vsB2 t sc = false := by unfold vsB2; exact @decide_eq_false _ (Classical.propDecidable _) h
theorem VSc.bad {t : List Nd} {sc : List (List Dd)} {k : Nat} {s : List Dd} (hs : sc[k]? = some s) (h : ¬ OkS t s) : ¬ VSc t sc := fun hc => h (hc.2 s (List.mem_of_getElem? hs))
theorem VSc.of {t : List Nd} {sc : List (List Dd)} {n : Nat} (hn : sc.length = n) (h4 : n ≤ 4) (h : ∀ (i : Nat) (s : List Dd), i < n → sc[i]? = some s → OkS t s) : VSc t sc :=
  ⟨by omega, fun s hs => by
    obtain ⟨i, hi⟩ := List.mem_iff_getElem?.1 hs
    exact h i s (by have := (List.getElem?_eq_some_iff.1 hi).1; omega) hi⟩
theorem OkS.of {t : List Nd} {s : List Dd} {m : Nat} (hm : s.length = m) (h : 1 ≤ m ∧ m ≤ 3) (hd : ∀ (i : Nat) (d : Dd), i < m → s[i]? = some d → OkDo t d) : OkS t s :=
  ⟨by omega, fun d hdm => by
    obtain ⟨i, hi⟩ := List.mem_iff_getElem?.1 hdm
    exact hd i d (by have := (List.getElem?_eq_some_iff.1 hi).1; omega) hi⟩

set_option maxHeartbeats 1600000 in
theorem ValidScripts_any (lo lo2 : Nat) (A A2 : Option Addr) (n c n2 c2 : Nat) (t : List Nd) (sc : List (List Dd)) (w : World) (hr : Rd cN 3 w lo A n t) (hc : n ≤ c) (hr2 : Rds cD 2 w lo2 A2 n2 sc) :
    Calls Tryd.prog 60 #[.slice A n c, .slice A2 n2 c2] w fun e w' => e = .returned (.bool (scB t sc)) ∧ Below w.heap.size w w' := by
  have HL := Lib.hid hr.len
  have HL2 := Lib.hid hr2.len
  have hnle := hr.le
  have HV := Lib.hid (ValidTree_any lo A n c t w hr hc)
  by_cases hv : VT t
  case neg =>
    rw [vt_false hv] at HV
    rw [scB_f fun h => hv h.1]
    clear hv
    go_enter Tryd.func60, Tryd.ntmps60
    go_wp2_with fail
    refine HV.out.mono ?_
    rintro e w1 ⟨rfl, hb1⟩
    go_wp2_with fail
    go_ret
    exact ⟨rfl, hb1⟩
  rw [vt_true hv] at HV
  by_cases h4 : n2 ≤ 4
  case neg =>
    have h4' : (4 : Int) < (n2 : Int) := by omega
    rw [scB_f fun h => h4 (by have := h.2.1; have := HL2.out; omega)]
    clear hv h4
    go_enter Tryd.func60, Tryd.ntmps60
    go_wp2_with fail
    refine HV.out.mono ?_
    rintro e w1 ⟨rfl, hb1⟩
    go_wp2_with fail
    go_ret
    exact ⟨rfl, hb1⟩
  have h4' : ¬ (4 : Int) < (n2 : Int) := by omega
  have HVT := Lib.hid hv
  clear hv
  go_enter Tryd.func60, Tryd.ntmps60
  go_wp2_with fail
  refine HV.out.mono ?_
  rintro e w1 ⟨rfl, hb1⟩
  clear HV
  go_wp2_with fail
  go_loopw [19] (fun i wr => ∃ k : Nat, k ≤ n2 ∧ i = .int .i64 k ∧ Below w.heap.size w wr ∧ ∀ (i : Nat) (s : List Dd), i < k → sc[i]? = some s → OkS t s) (fun i _ => n2 - (intOf i).toNat)
  case atStart => exact ⟨0, Nat.zero_le _, rfl, hb1, fun i s h => absurd h (by omega)⟩
  case round =>
    rename World => W1
    obtain ⟨k, hk, rfl, hbl, hK⟩ := hrel
    have hs := hbl.size
    have HK := Lib.hid hK
    clear hK
    by_cases hlt : k < n2
    case neg =>
      obtain rfl : k = n2 := by omega
      have HB := Lib.hid (scB_t HVT.out (VSc.of HL2.out h4 HK.out))
      go_wp2_with fail
      go_ret
      exact ⟨ret_bool HB.out.symm, hbl⟩
    obtain ⟨b, o, A', m, c', s, rfl, _, hb, hsx, g0, hmc, hrs⟩ := (hr2.below hbl).get hlt
    have HSX := Lib.hid hsx
    have HM := Lib.hid hrs.len
    clear hsx
    by_cases hm : 1 ≤ m ∧ m ≤ 3
    case neg =>
      have HBAD := Lib.hid (scB_f (t := t) (sc := sc) fun h => VSc.bad HSX.out (fun ho => hm (by have := ho.1; have := HM.out; omega)) h.2)
      have hm' : (m : Int) < 1 ∨ (3 : Int) < (m : Int) := by omega
      clear hm
      go_wp2_with (go_at_call 61; refine (within_f _ _ _ _ hm').mono ?_; rintro e w3 ⟨rfl, rfl⟩)
      go_ret
      exact ⟨ret_bool HBAD.out.symm, hbl⟩
    have hm1 : (1 : Int) ≤ (m : Int) := by omega
    have hm3 : (m : Int) ≤ 3 := by omega
    go_wp2_with (go_at_call 61; refine (within_t _ _ _ _ hm1 hm3).mono ?_; rintro e w3 ⟨rfl, rfl⟩)
    go_loopw [29] (fun i wr => ∃ j : Nat, j ≤ m ∧ i = .int .i64 j ∧ Below w.heap.size w wr ∧ Below W1.heap.size W1 wr ∧ ∀ (i : Nat) (d : Dd), i < j → s[i]? = some d → OkDo t d) (fun i _ => m - (intOf i).toNat)
    case atStart => exact ⟨0, Nat.zero_le _, rfl, hbl, Below.refl _ _, fun i d h => absurd h (by omega)⟩
    case round =>
      rename World => W2
      obtain ⟨j, hj, rfl, hbl2, hb2, hJ⟩ := hrel
      have hs2 := hbl2.size
      have HJ := Lib.hid hJ
      clear hJ
      by_cases hltj : j < m
      case neg =>
        obtain rfl : j = m := by omega
        have HN : Hid (∀ (i : Nat) (s' : List Dd), i < k + 1 → sc[i]? = some s' → OkS t s') := fun i s' hi hs' => by
          by_cases e : i = k
          · subst e
            rw [HSX.out] at hs'; injection hs' with hs'; subst hs'
            exact OkS.of HM.out hm HJ.out
          · exact HK.out i s' (by omega) hs'
        go_wp2_with fail
        go_roundw
        case rel => exact ⟨k + 1, by omega, by go_num, hbl2, HN.out⟩
        case measure => simp [intOf]; omega
      obtain ⟨b2, o2, d, rfl, _, hb3, hdx, q0, q1⟩ := (hrs.below hb2).atD hltj
      have HDX := Lib.hid hdx
      clear hdx
      have HBADD : Hid (¬ OkDo t d → scB t sc = false) := fun hn => scB_f fun h => VSc.bad HSX.out (fun ho => hn (ho.2 d (List.mem_of_getElem? HDX.out))) h.2
      obtain ⟨dn, da⟩ := d
      simp only at q0 q1
      by_cases h1 : 0 ≤ dn ∧ dn ≤ (n : Int) - 1
      case neg =>
        have HB := Lib.hid (HBADD.out fun h => h1 (by have h2 := h.1; have := HL.out; simp only at h2; omega))
        have h1' : dn < 0 ∨ (n : Int) - 1 < dn := by omega
        clear h1
        go_wp2_with (go_at_call 61; refine (within_f _ _ _ _ h1').mono ?_; rintro e w3 ⟨rfl, rfl⟩)
        go_ret
        exact ⟨ret_bool HB.out.symm, hbl2.alloc hs2 _⟩
      obtain ⟨h10, h11⟩ := h1
      by_cases h2 : -50 ≤ da ∧ da ≤ 50
      case neg =>
        have HB := Lib.hid (HBADD.out fun h => h2 (by have h2 := h.2; simp only at h2; omega))
        have h2' : da < -50 ∨ (50 : Int) < da := by omega
        clear h2
        go_wp2_with fail
        refine (within_t _ _ _ _ h10 h11).mono ?_
        rintro e w3 ⟨rfl, rfl⟩
        go_wp2_with fail
        refine (within_f _ _ _ _ h2').mono ?_
        rintro e w3 ⟨rfl, rfl⟩
        go_wp2_with fail
        go_ret
        exact ⟨ret_bool HB.out.symm, hbl2.alloc hs2 _⟩
      obtain ⟨h20, h21⟩ := h2
      have HN : Hid (∀ (i : Nat) (d' : Dd), i < j + 1 → s[i]? = some d' → OkDo t d') := fun i d' hi hd' => by
        by_cases e : i = j
        · subst e
          rw [HDX.out] at hd'; injection hd' with hd'; subst hd'
          exact ⟨⟨h10, by show dn < _; have := HL.out; omega⟩, h20, h21⟩
        · exact HJ.out i d' (by omega) hd'
      go_wp2_with (go_at_call 61; refine (within_t _ _ _ _ (by first | exact h10 | exact h20) (by first | exact h11 | exact h21)).mono ?_; rintro e w3 ⟨rfl, rfl⟩)
      go_roundw
      case rel => exact ⟨j + 1, by omega, by go_num, hbl2.alloc hs2 _, hb2.alloc hb2.size _, HN.out⟩
      case measure => simp [intOf]; omega
theorem allIn_any (lo : Nat) (A : Option Addr) (n c : Nat) (l : List Int) (a b : Int) (w : World) (hr : Rd cI 1 w lo A n l) :
    Calls Tryd.prog 56 #[.slice A n c, .int .i64 a, .int .i64 b] w fun e w' => e = .returned (.bool (l.all fun x => decide (a ≤ x ∧ x ≤ b))) ∧ w = w' := by
  have HL := Lib.hid hr.len
  have hnle := hr.le
  go_enter Tryd.func56, Tryd.ntmps56
  go_wp2_with fail
  go_loopw [7] (fun i wr => ∃ k : Nat, k ≤ n ∧ i = .int .i64 k ∧ (l.all fun x => decide (a ≤ x ∧ x ≤ b)) = ((l.drop k).all fun x => decide (a ≤ x ∧ x ≤ b)) ∧ wr = w) (fun i _ => n - (intOf i).toNat)
  case atStart => exact ⟨0, Nat.zero_le _, rfl, rfl, rfl⟩
  case round =>
    obtain ⟨k, hk, rfl, hK, rfl⟩ := hrel
    have HK := Lib.hid hK
    clear hK
    by_cases hlt : k < n
    case neg =>
      have HE : Hid (l.drop k = []) := List.drop_eq_nil_of_le (by have := HL.out; omega)
      go_wp2_with fail
      go_ret
      exact ⟨ret_bool (by rw [HK.out, HE.out]; rfl), rfl⟩
    obtain ⟨b1, o, x, rfl, _, hb, hx, g0⟩ := hr.atI hlt
    have HD := Lib.hid (drop_cons hx)
    clear hx
    by_cases h1 : a ≤ x ∧ x ≤ b
    case neg =>
      have HF := Lib.hid h1
      have h1' : x < a ∨ b < x := by omega
      clear h1
      go_wp2_with (go_at_call 74; refine (inRange_f _ _ _ _ h1').mono ?_; rintro e w3 ⟨rfl, rfl⟩)
      go_ret
      exact ⟨ret_bool (by rw [HK.out, HD.out, List.all_cons, decide_eq_false HF.out]; rfl), rfl⟩
    have HF := Lib.hid h1
    obtain ⟨h10, h11⟩ := h1
    go_wp2_with (go_at_call 74; refine (inRange_t _ _ _ _ h10 h11).mono ?_; rintro e w3 ⟨rfl, rfl⟩)
    go_roundw
    case rel => exact ⟨k + 1, by omega, by go_num, by rw [HK.out, HD.out, List.all_cons, decide_eq_true HF.out]; rfl, trivial⟩
    case measure => simp [intOf]; omega
theorem copyInts_any (lo : Nat) (A : Option Addr) (n c : Nat) (l : List Int) (w : World) (hr : Rd cI 1 w lo A n l) (hn : n ≤ 1000000) :
    Calls Tryd.prog 76 #[.slice A n c] w (IntsP w l) := by
  have hA := hr.alloc (.cells #[] 3)
  have ho := Own.empty (cs := cI) (sz := 1) (e := 3) w elI.len
  have hbA := (Below.refl w.heap.size w).alloc (Nat.le_refl _) (.cells #[] 3)
  go_enter Tryd.func76, Tryd.ntmps76
  go_wp2_with (at_builtin; refine wpList_append_rd elI _ rfl (.tmp 3) (.tmp 4) rfl rfl ho rfl hA (by simp; omega) (by simp) ?_; intro v5 w5 ho5 hg5 _)
  go_ret
  have hb5 := below_own hbA ho hg5 (Nat.le_refl _) (by simp)
  rw [List.nil_append] at ho5
  exact ⟨_, rfl, ho5, hb5⟩
set_option maxHeartbeats 1600000 in
theorem validScripts_any (lo lo2 : Nat) (A A2 : Option Addr) (n c n2 c2 : Nat) (t : List Nd) (sc : List (List Dd)) (w : World) (hr : Rd cN 3 w lo A n t) (hr2 : Rds cD 2 w lo2 A2 n2 sc) :
    Calls Tryd.prog 55 #[.slice A n c, .slice A2 n2 c2] w fun e w' => e = .returned (.bool (vsB2 t sc)) ∧ Below w.heap.size w w' := by
  have HL := Lib.hid hr.len
  have HL2 := Lib.hid hr2.len
  have hnle := hr.le
  have hnle2 := hr2.le
  go_enter Tryd.func55, Tryd.ntmps55
  go_wp2_with fail
  go_loopw [5] (fun i wr => ∃ k : Nat, k ≤ n2 ∧ i = .int .i64 k ∧ Below w.heap.size w wr ∧ ∀ (i : Nat) (s : List Dd), i < k → sc[i]? = some s → OkS t s) (fun i _ => n2 - (intOf i).toNat)
  case atStart => exact ⟨0, Nat.zero_le _, rfl, Below.refl _ _, fun i s h => absurd h (by omega)⟩
  case round =>
    rename World => W1
    obtain ⟨k, hk, rfl, hbl, hK⟩ := hrel
    have hs := hbl.size
    have HK := Lib.hid hK
    clear hK
    by_cases hlt : k < n2
    case neg =>
      obtain rfl : k = n2 := by omega
      by_cases h4 : k ≤ 4
      case neg =>
        have HB := Lib.hid (vsB2_f (t := t) (sc := sc) fun h => h4 (by have := h.1; have := HL2.out; omega))
        go_wp2_with fail
        go_ret
        exact ⟨ret_bool (by rw [HB.out]; exact decide_eq_false (by omega)), hbl⟩
      have HB := Lib.hid (vsB2_t (VSc.of HL2.out h4 HK.out))
      go_wp2_with fail
      go_ret
      exact ⟨ret_bool (by rw [HB.out]; exact decide_eq_true (by omega)), hbl⟩
    obtain ⟨b, o, A', m, c', s, rfl, _, hb, hsx, g0, hmc, hrs⟩ := (hr2.below hbl).get hlt
    have HSX := Lib.hid hsx
    have HM := Lib.hid hrs.len
    have HG0 := Lib.hid g0
    clear hsx
    by_cases hm : 1 ≤ m ∧ m ≤ 3
    case neg =>
      have HBAD := Lib.hid (vsB2_f (t := t) (sc := sc) fun h => VSc.bad HSX.out (fun ho => hm (by have := ho.1; have := HM.out; omega)) h)
      have hm' : (m : Int) < 1 ∨ (3 : Int) < (m : Int) := by omega
      clear hm
      go_wp2_with (go_at_call 74; refine (inRange_f _ _ _ _ hm').mono ?_; rintro e w3 ⟨rfl, rfl⟩)
      go_ret
      exact ⟨ret_bool HBAD.out.symm, hbl⟩
    have hm1 : (1 : Int) ≤ (m : Int) := by omega
    have hm3 : (m : Int) ≤ 3 := by omega
    go_wp2_with (go_at_call 74; refine (inRange_t _ _ _ _ hm1 hm3).mono ?_; rintro e w3 ⟨rfl, rfl⟩)
    go_loopw [6] (fun i wr => ∃ j : Nat, j ≤ m ∧ i = .int .i64 j ∧ Below w.heap.size w wr ∧ Below W1.heap.size W1 wr ∧ ∀ (i : Nat) (d : Dd), i < j → s[i]? = some d → OkDo t d) (fun i _ => m - (intOf i).toNat)
    case atStart => exact ⟨0, Nat.zero_le _, rfl, hbl, Below.refl _ _, fun i d h => absurd h (by omega)⟩
    case round =>
      rename World => W2
      obtain ⟨j, hj, rfl, hbl2, hb2, hJ⟩ := hrel
      have hs2 := hbl2.size
      have HJ := Lib.hid hJ
      have g2 := (hb2.cell hb).trans HG0.out
      clear hJ g0
      by_cases hltj : j < m
      case neg =>
        obtain rfl : j = m := by omega
        have HN : Hid (∀ (i : Nat) (s' : List Dd), i < k + 1 → sc[i]? = some s' → OkS t s') := fun i s' hi hs' => by
          by_cases e : i = k
          · subst e
            rw [HSX.out] at hs'; injection hs' with hs'; subst hs'
            exact OkS.of HM.out hm HJ.out
          · exact HK.out i s' (by omega) hs'
        go_wp2_with fail
        go_roundw
        case rel => exact ⟨k + 1, by omega, by go_num, hbl2, HN.out⟩
        case measure => simp [intOf]; omega
      obtain ⟨b2, o2, d, rfl, _, hb3, hdx, q0, q1⟩ := (hrs.below hb2).atD hltj
      have HDX := Lib.hid hdx
      clear hdx
      have HBADD : Hid (¬ OkDo t d → vsB2 t sc = false) := fun hn => vsB2_f fun h => VSc.bad HSX.out (fun ho => hn (ho.2 d (List.mem_of_getElem? HDX.out))) h
      obtain ⟨dn, da⟩ := d
      simp only at q0 q1
      by_cases h1 : 0 ≤ dn ∧ dn ≤ (n : Int) - 1
      case neg =>
        have HB := Lib.hid (HBADD.out fun h => h1 (by have h2 := h.1; have := HL.out; simp only at h2; omega))
        have h1' : dn < 0 ∨ (n : Int) - 1 < dn := by omega
        clear h1
        go_wp2_with (go_at_call 74; refine (inRange_f _ _ _ _ h1').mono ?_; rintro e w3 ⟨rfl, rfl⟩)
        go_ret
        exact ⟨ret_bool HB.out.symm, hbl2.alloc hs2 _⟩
      obtain ⟨h10, h11⟩ := h1
      by_cases h2 : -50 ≤ da ∧ da ≤ 50
      case neg =>
        have HB := Lib.hid (HBADD.out fun h => h2 (by have h2 := h.2; simp only at h2; omega))
        have h2' : da < -50 ∨ (50 : Int) < da := by omega
        clear h2
        go_wp2_with fail
        refine (inRange_t _ _ _ _ h10 h11).mono ?_
        rintro e w3 ⟨rfl, rfl⟩
        go_wp2_with fail
        refine (inRange_f _ _ _ _ h2').mono ?_
        rintro e w3 ⟨rfl, rfl⟩
        go_wp2_with fail
        go_ret
        exact ⟨ret_bool HB.out.symm, hbl2.alloc hs2 _⟩
      obtain ⟨h20, h21⟩ := h2
      have HN : Hid (∀ (i : Nat) (d' : Dd), i < j + 1 → s[i]? = some d' → OkDo t d') := fun i d' hi hd' => by
        by_cases e : i = j
        · subst e
          rw [HDX.out] at hd'; injection hd' with hd'; subst hd'
          exact ⟨⟨h10, by show dn < _; have := HL.out; omega⟩, h20, h21⟩
        · exact HJ.out i d' (by omega) hd'
      go_wp2_with (go_at_call 74; refine (inRange_t _ _ _ _ (by first | exact h10 | exact h20) (by first | exact h11 | exact h21)).mono ?_; rintro e w3 ⟨rfl, rfl⟩)
      go_roundw
      case rel => exact ⟨j + 1, by omega, by go_num, hbl2.alloc hs2 _, hb2.alloc hb2.size _, HN.out⟩
      case measure => simp [intOf]; omega
noncomputable def vrB (t : List Nd) (sc : List (List Dd)) (p : List Int) : Bool := @decide (VR t sc p) (Classical.propDecidable _)
theorem vrB_t {t : List Nd} {sc : List (List Dd)} {p : List Int} (h : VR t sc p) : vrB t sc p = true := by unfold vrB; exact @decide_eq_true _ (Classical.propDecidable _) h
theorem vrB_f {t : List Nd} {sc : List (List Dd)} {p : List Int} (h : ¬ VR t sc p) : vrB t sc p = false := by unfold vrB; exact @decide_eq_false _ (Classical.propDecidable _) h
theorem all_in {l : List Int} {n : Nat} : (l.all fun x => decide (0 ≤ x ∧ x ≤ (n : Int) - 1)) = true ↔ ∀ p ∈ l, 0 ≤ p ∧ p < n := by
  rw [List.all_eq_true]
  exact ⟨fun h p hp => by have := of_decide_eq_true (h p hp); omega, fun h p hp => decide_eq_true (by have := h p hp; omega)⟩
set_option maxHeartbeats 1600000 in
theorem validRun_any (lo lo2 lo3 : Nat) (A A2 A3 : Option Addr) (n c n2 c2 n3 c3 : Nat) (t : List Nd) (sc : List (List Dd)) (ps : List Int) (w : World) (hr : Rd cN 3 w lo A n t) (hc : n ≤ c) (hz : NmB t) (hr2 : Rds cD 2 w lo2 A2 n2 sc) (hr3 : Rd cI 1 w lo3 A3 n3 ps) :
    Calls Tryd.prog 35 #[.slice A n c, .slice A2 n2 c2, .slice A3 n3 c3] w fun e w' => e = .returned (.bool (vrB t sc ps)) ∧ Below w.heap.size w w' := by
  have HL2 := Lib.hid hr2.len
  have HL3 := Lib.hid hr3.len
  have hnle2 := hr2.le
  have HV := Lib.hid (validTree_any lo A n c t w hr hc hz)
  by_cases hv : VT t
  case neg =>
    rw [vt_false hv] at HV
    rw [vrB_f fun h => hv h.1]
    clear hv
    go_enter Tryd.func35, Tryd.ntmps35
    go_wp2_with fail
    refine HV.out.mono ?_
    rintro e w1 ⟨rfl, hb1⟩
    go_wp2_with fail
    go_ret
    exact ⟨rfl, hb1⟩
  rw [vt_true hv] at HV
  have HS : Hid (∀ w', Below w.heap.size w w' → Calls Tryd.prog 55 #[.slice A n c, .slice A2 n2 c2] w' fun e w'' => e = .returned (.bool (vsB2 t sc)) ∧ Below w'.heap.size w' w'') := fun w' hb => validScripts_any lo lo2 A A2 n c n2 c2 t sc w' (hr.below hb) (hr2.below hb)
  by_cases hsc : VSc t sc
  case neg =>
    rw [vsB2_f hsc] at HS
    rw [vrB_f fun h => hsc h.2.1]
    clear hv hsc
    go_enter Tryd.func35, Tryd.ntmps35
    go_wp2_with fail
    refine HV.out.mono ?_
    rintro e w1 ⟨rfl, hb1⟩
    go_wp2_with fail
    refine (HS.out _ hb1).mono ?_
    rintro e w2 ⟨rfl, hb2⟩
    go_wp2_with fail
    go_ret
    exact ⟨rfl, hb1.trans (hb2.mono hb1.size)⟩
  rw [vsB2_t hsc] at HS
  have HI : Hid (∀ w', Below w.heap.size w w' → Calls Tryd.prog 56 #[.slice A3 n3 c3, .int .i64 0, .int .i64 ((n2 : Int) - 1)] w' fun e w'' => e = .returned (.bool (ps.all fun x => decide (0 ≤ x ∧ x ≤ (n2 : Int) - 1))) ∧ w' = w'') := fun w' hb => allIn_any lo3 A3 n3 c3 ps 0 _ w' (hr3.below hb)
  by_cases h16 : n3 ≤ 16
  case neg =>
    have h16' : ¬ (n3 : Int) ≤ 16 := by omega
    rw [vrB_f fun h => h16 (by have := h.2.2.1; have := HL3.out; omega)]
    clear hv hsc h16
    go_enter Tryd.func35, Tryd.ntmps35
    go_wp2_with fail
    refine HV.out.mono ?_
    rintro e w1 ⟨rfl, hb1⟩
    go_wp2_with fail
    refine (HS.out _ hb1).mono ?_
    rintro e w2 ⟨rfl, hb2⟩
    go_wp2_with fail
    go_ret
    exact ⟨rfl, hb1.trans (hb2.mono hb1.size)⟩
  have h16' : (n3 : Int) ≤ 16 := by omega
  have HR : Hid (vrB t sc ps = (ps.all fun x => decide (0 ≤ x ∧ x ≤ (n2 : Int) - 1))) := by
    show _ = _
    have e2 := HL2.out
    cases h : (ps.all fun x => decide (0 ≤ x ∧ x ≤ (n2 : Int) - 1)) with
    | true => exact vrB_t ⟨hv, hsc, by have := HL3.out; omega, by rw [e2]; exact all_in.1 h⟩
    | false =>
      refine vrB_f fun hc => ?_
      have := all_in.2 (by have := hc.2.2.2; rw [e2] at this; exact this)
      rw [h] at this; cases this
  rw [HR.out]
  generalize (ps.all fun x => decide (0 ≤ x ∧ x ≤ (n2 : Int) - 1)) = bb at *
  clear hv hsc
  go_enter Tryd.func35, Tryd.ntmps35
  go_wp2_with fail
  refine HV.out.mono ?_
  rintro e w1 ⟨rfl, hb1⟩
  go_wp2_with fail
  refine (HS.out _ hb1).mono ?_
  rintro e w2 ⟨rfl, hb2⟩
  have hB := hb1.trans (hb2.mono hb1.size)
  go_wp2_with fail
  refine (HI.out _ hB).mono ?_
  rintro e w3 ⟨rfl, rfl⟩
  go_wp2_with fail
  go_ret
  exact ⟨rfl, hB⟩
end Go.Proofs.YtgpocjehiohimaaDoor
