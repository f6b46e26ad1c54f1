/- The walk of the law FnExactValidLog. -/
import Derived.Test.YtgmgmnigcikebaaExRec
import Derived.Test.YtgmgmnigcikebaaValidLogW
import Derived.Test.YtgmgmnigcikebaaValidLogS
namespace Go.Proofs.Ytgmgmnigcikebaa
open Go.RowKit

set_option maxRecDepth 100000 in
set_option maxHeartbeats 3200000 in
theorem lawExactValidLog (A A2 : Option Addr) (n c n2 c2 : Nat) (t : List Nd) (log : List Rc) (w : World) (hn : n ≤ 9223372036854775807) (hc : n ≤ c) (hr : n ≤ 1048576 → Rd cN 3 w 0 A n t) (hm : NmM t)
    (hn2 : n2 ≤ 9223372036854775807) (hc2 : n2 ≤ c2) (hr2 : n2 ≤ 1048576 → Rd cR 4 w 0 A2 n2 log) :
    Calls Try.prog 3 #[.slice A n c, .slice A2 n2 c2] w fun e w' => e = .returned (.bool true) ∧ Below w.heap.size w w' := by
  by_cases hb : n ≤ 1048576
  case neg =>
    have HS := Lib.hid (szNodeS_big A n c 1048576 w (by omega) (by omega) (by omega) hn)
    clear hr hr2
    go_enter Try.func3, Try.ntmps3
    go_wp2_with fail
    refine HS.out.mono ?_
    rintro e w1 ⟨rfl, hb1⟩
    go_wp2_with fail
    go_ret
    exact ⟨rfl, hb1⟩
  have hrd := hr hb
  have HS := Lib.hid (szNodeS_t 0 A n c t 1048576 w hrd hm (by omega) (by omega) (by omega))
  have HZN := szF_neg t (1048576 - (n : Int)) (by omega)
  obtain ⟨z, hz⟩ : ∃ z, z = szF t (1048576 - (n : Int)) := ⟨_, rfl⟩
  rw [← hz] at HS HZN
  have HZ := Lib.hid hz
  clear hz hr
  by_cases hneg : z < 0
  · clear hr2
    go_enter Try.func3, Try.ntmps3
    go_wp2_with fail
    refine HS.out.mono ?_
    rintro e w1 ⟨rfl, hb1⟩
    go_wp2_with fail
    go_ret
    exact ⟨rfl, hb1⟩
  have hz0 : 0 ≤ z := by omega
  obtain ⟨hz1, hzn⟩ := szF_le t _ (by rw [HZ.out] at hz0; exact hz0)
  rw [← HZ.out] at hz1
  have hz2 : z ≤ 1048576 := by omega
  have HNB : Hid (NmB t) := fun i x hx => by have := hzn x (List.mem_of_getElem? hx); omega
  have HRD := Lib.hid hrd
  clear hzn hrd
  by_cases hneg2 : z - (n2 : Int) < 0
  · clear hr2
    go_enter Try.func3, Try.ntmps3
    go_wp2_with fail
    refine HS.out.mono ?_
    rintro e w1 ⟨rfl, hb1⟩
    have HS2 := Lib.hid (szRecordS_t A2 n2 c2 z w1 hz0 hz2 hn2)
    rw [if_pos (show z - (n2 : Int) < 0 by omega)] at HS2
    go_wp2_with fail
    refine HS2.out.mono ?_
    rintro e w2 ⟨rfl, hb2⟩
    go_wp2_with fail
    go_ret
    exact ⟨rfl, bel_nx hb1 hb2⟩
  have hb2 : n2 ≤ 1048576 := by omega
  have HR2 := Lib.hid (hr2 hb2)
  have hzz : 0 ≤ z - (n2 : Int) := by omega
  clear hr2
  go_enter Try.func3, Try.ntmps3
  go_wp2_with fail
  refine HS.out.mono ?_
  rintro e w1 ⟨rfl, hb1⟩
  have HS2 := Lib.hid (szRecordS_t A2 n2 c2 z w1 hz0 hz2 hn2)
  rw [if_neg (show ¬ z - (n2 : Int) < 0 by omega)] at HS2
  go_wp2_with fail
  refine HS2.out.mono ?_
  rintro e w2 ⟨rfl, hb2'⟩
  have hB2 := bel_nx hb1 hb2'
  have HTN : Hid (∀ w', Below w.heap.size w w' → Calls Try.prog 7 #[.slice A n c] w' fun e w'' => e = .returned (.slice (some ⟨w'.heap.size, 0, none⟩) n n) ∧ Own cN 3 38 w'' w'.heap.size (.slice (some ⟨w'.heap.size, 0, none⟩) n n) t ∧ Below w'.heap.size w' w'') := fun w' hb' => toNodeS_t 0 A n c t w' (HRD.out.below hb') hb
  have HTR : Hid (∀ w', Below w.heap.size w w' → Calls Try.prog 8 #[.slice A2 n2 c2] w' fun e w'' => e = .returned (.slice (some ⟨w'.heap.size, 0, none⟩) n2 n2) ∧ Own cR 4 41 w'' w'.heap.size (.slice (some ⟨w'.heap.size, 0, none⟩) n2 n2) log ∧ Below w'.heap.size w' w'') := fun w' hb' => toRecordS_t 0 A2 n2 c2 log w' (HR2.out.below hb') hb2
  have hTL := HRD.out.len
  have hLL := HR2.out.len
  clear HS HS2
  obtain ⟨vb, hvb⟩ : ∃ b, b = vl t log := ⟨_, rfl⟩
  have HVB := Lib.hid hvb
  clear hvb
  go_wp2_with fail
  refine (HTN.out w2 hB2).mono ?_
  rintro e w3 ⟨rfl, ho3, hb3⟩
  have hB3 := bel_nx hB2 hb3
  go_wp2_with fail
  refine (HTR.out w3 hB3).mono ?_
  rintro e w4 ⟨rfl, ho4, hb4⟩
  have hB4 := bel_nx hB3 hb4
  have HVS := Lib.hid (ValidLogS_any _ _ _ _ n n n2 n2 t log w4 ((ho3.below hb4).rds elN.len (by omega)).2 (Nat.le_refl _) HNB.out (ho4.rds elR.len (by omega)).2)
  rw [← HVB.out] at HVS
  clear ho3 ho4
  go_wp2_with fail
  refine HVS.out.mono ?_
  rintro e w5 ⟨rfl, hb5⟩
  have hB5 := bel_nx hB4 hb5
  go_wp2_with fail
  refine (HTN.out w5 hB5).mono ?_
  rintro e w6 ⟨rfl, ho6, hb6⟩
  have hB6 := bel_nx hB5 hb6
  have HO6 := Lib.hid ho6
  clear ho6
  go_wp2_with fail
  refine (HTR.out w6 hB6).mono ?_
  rintro e w7 ⟨rfl, ho7, hb7⟩
  have hB7 := bel_nx hB6 hb7
  have HO7 := Lib.hid ho7
  have HN7 := Lib.hid (HO6.out.below hb7)
  have HVW := Lib.hid (ValidLog_any _ _ _ _ n n n2 n2 t log w7 (HN7.out.rds elN.len (by omega)).2 (Nat.le_refl _) (HO7.out.rds elR.len (by omega)).2)
  rw [← HVB.out] at HVW
  clear ho7
  go_wp2_with fail
  refine HVW.out.mono ?_
  rintro e w8 ⟨rfl, hb8⟩
  have hB8 := bel_nx hB7 hb8
  have HN8 := Lib.hid (HN7.out.below hb8)
  have HO8 := Lib.hid (HO7.out.below hb8)
  go_wp2_with fail
  refine (HTN.out w8 hB8).mono ?_
  rintro e w9 ⟨rfl, ho9, hb9⟩
  have hB9 := bel_nx hB8 hb9
  have HE9 := Lib.hid (eqNodeS_t _ _ _ _ n n n n t w9 ((HN8.out.below hb9).rds elN.len (by omega)).2 (ho9.rds elN.len (by omega)).2)
  have HO9 := Lib.hid (HO8.out.below hb9)
  clear ho9
  go_wp2_with fail
  refine HE9.out.mono ?_
  rintro e w10 ⟨rfl, hb10⟩
  have hB10 := bel_nx hB9 hb10
  have HO10 := Lib.hid (HO9.out.below hb10)
  go_wp2_with fail
  refine (HTR.out w10 hB10).mono ?_
  rintro e w11 ⟨rfl, ho11, hb11⟩
  have hB11 := bel_nx hB10 hb11
  have HE11 := Lib.hid (eqRecordS_t _ _ _ _ n2 n2 n2 n2 log w11 ((HO10.out.below hb11).rds elR.len (by omega)).2 (ho11.rds elR.len (by omega)).2)
  clear ho11
  go_wp2_with fail
  refine HE11.out.mono ?_
  rintro e w12 ⟨rfl, hb12⟩
  go_wp2_with fail
  go_ret
  exact ⟨rfl, bel_nx hB11 hb12⟩
end Go.Proofs.Ytgmgmnigcikebaa
