/- The walks over LosersOf, the program's and the reference's. -/
import Derived.Test.YtpklfhefhfkkhaaLosersP
import Derived.Test.YtpklfhefhfkkhaaMarked
import Derived.Test.YtpklfhefhfkkhaaRedoS
namespace Go.Proofs.Ytpklfhefhfkkhaa
open Go.RowKit

set_option maxHeartbeats 1000000 in
theorem LosersOf_any (lo lo2 : Nat) (A A2 : Option Addr) (n c m c2 : Nat) (t : List Nd) (log : List Rc) (w : World) (hr : Rd cN 3 w lo A n t) (hc : n ≤ c) (hr2 : Rd cR 4 w lo2 A2 m log) (hc2 : m ≤ c2) :
    Calls Try.prog 25 #[.slice A n c, .slice A2 m c2] w (IntsP w (los t log)) := by
  have HL2 := Lib.hid hr2.len
  by_cases hv : vl t log = true
  case neg =>
    have hv' : vl t log = false := by simpa using hv
    have HF := Lib.hid (los_no hv')
    go_enter Try.func25, Try.ntmps25
    go_wp2_with fail
    refine (ValidLog_f0 _ _ A A2 n c m c2 t log _ hr hc hr2 hv').mono ?_
    rintro e w1 ⟨rfl, hb1⟩
    go_wp2_with fail
    go_ret
    exact ⟨_, rfl, by rw [HF.out]; exact Own.nil _ _, hb1⟩
  have HR := Lib.hid (los_yes hv)
  have hVL := VL_of hv
  have hm16 : m ≤ 16 := by have := hVL.2.1; have := HL2.out; omega
  have HOK := Lib.hid hVL.2.2
  have HV := Lib.hid hv
  clear hVL hv
  go_enter Try.func25, Try.ntmps25
  go_wp2_with fail
  refine (ValidLog_t _ _ A A2 n c m c2 t log _ hr hc hr2 HV.out).mono ?_
  rintro e w1 ⟨rfl, hb1⟩
  have hr2' := hr2.below hb1
  have hs1 := hb1.size
  clear hr hr2
  go_wp2_with fail
  go_loopw [14] (fun i wr => ∃ (k : Nat) (g : Int → Bool), k ≤ m ∧ i = .int .i64 k ∧ Below w1.heap.size w1 wr ∧ wr.heap[w1.heap.size]? = some (.cells #[.bool (g 0), .bool (g 1), .bool (g 2), .bool (g 3)] 64 (0, 0)) ∧ (∀ i, (g i || losF (log.drop k) i) = losF log i)) (fun i _ => m - (intOf i).toNat)
  case atStart => exact ⟨0, fun _ => false, Nat.zero_le _, rfl, (Below.refl _ _).alloc (Nat.le_refl _) _, heap_alloc_new w1 _, fun i => by simp⟩
  case round =>
    obtain ⟨k, g, hk, rfl, hbl, hG, hK⟩ := hrel
    have hs := hbl.size
    have hGlt := blk_lt hG
    by_cases hlt : k < m
    case neg =>
      have hK2 : losF log = g := by
        funext i
        rw [← hK i, List.drop_eq_nil_of_le (by have := HL2.out; omega), losF, Bool.or_false]
      have HK := Lib.hid hK2
      have e0 := blk_cell (i := 0) hG rfl
      have e1 := blk_cell (i := 1) hG rfl
      have e2 := blk_cell (i := 2) hG rfl
      have e3 := blk_cell (i := 3) hG rfl
      clear hK hK2 hG
      go_wp2_with fail
      refine (marked_any g _).mono ?_
      rintro e w2 ⟨v, rfl, ho, hb2⟩
      have hB := hb1.trans ((hbl.trans (hb2.mono hs)).mono hs1)
      go_wp2_with fail
      go_ret
      exact ⟨_, rfl, by rw [HR.out, HK.out]; exact ho.low (Nat.le_trans hs1 hs), hB⟩
    obtain ⟨b, o, r, rfl, _, hb, hx, g0, g1, g2, g3⟩ := (hr2'.below hbl).atR hlt
    obtain ⟨q0, q1, _⟩ := HOK.out k r hx
    obtain ⟨rw', rn, rv, rf⟩ := r
    simp only at q0 q1 g0 g1 g2 g3
    obtain ⟨j, rfl⟩ := Int.eq_ofNat_of_zero_le q0
    have hj4 : j < 4 := by omega
    have hdd := drop_cons hx
    have HBW := Lib.hid (hbl.alloc hs (.cells #[.int .i64 j, .int .i64 rn, .int .i64 rv, .bool rf] 30))
    have hG1 := blk_alloc hG (.cells #[.int .i64 j, .int .i64 rn, .int .i64 rv, .bool rf] 30)
    cases rf
    case true =>
      have HK2 : Hid (∀ i, (g i || losF (log.drop (k + 1)) i) = losF log i) := fun i => by
        have := hK i
        rw [hdd, losF_fin _ _ rfl] at this
        exact this
      clear hK hdd hx hG
      go_wp2_with fail
      go_roundw
      case rel => exact ⟨k + 1, g, by omega, by go_num, HBW.out, hG1, HK2.out⟩
      case measure => simp [intOf]; omega
    generalize hE : endsF (log.drop (k + 1)) j = E
    have hD : doneF (log.drop k) = E := by rw [hdd, doneF, if_neg (by simp)]; exact hE
    have d0 : (wr.alloc (.cells #[.int .i64 j, .int .i64 rn, .int .i64 rv, .bool false] 30)).cell? ⟨wr.heap.size, 0, none⟩ = some (.int .i64 j) := by simp [World.cell?_alloc_new]
    have HD := Lib.hid hD
    have HE := Lib.hid hE
    have HDD := Lib.hid hdd
    have HKK := Lib.hid hK
    have hr2w := (hr2'.below hbl).alloc (.cells #[.int .i64 j, .int .i64 rn, .int .i64 rv, .bool false] 30)
    clear hD hE hdd hK hx hG
    go_wp2_with fail
    refine (isDone_any _ _ m c2 log k _ hr2w hlt hc2 E HD.out).mono ?_
    rintro e w3 ⟨rfl, hb3⟩
    have hB3 := HBW.out.trans (hb3.mono (by simp; omega))
    have hG3 := blk_below hG1 hb3
    have e0 := (hb3.cell (by simp)).trans d0
    have c0 := blk_free hG3 j
    have hgl := blk_lt hG3
    obtain ⟨old, hold⟩ : ∃ u, (#[.bool (g 0), .bool (g 1), .bool (g 2), .bool (g 3)] : Array Value)[j]? = some u := ⟨_, Array.getElem?_eq_getElem (by simpa using hj4)⟩
    have c1 := blk_cell hG3 hold
    have HG3 := Lib.hid hG3
    clear d0 hG1 hG3 hold g0 g1 g2 g3 hr2w hb3
    cases E
    case true =>
      have HK2 : Hid (∀ i, (g i || losF (log.drop (k + 1)) i) = losF log i) := fun i => by
        have := HKK.out i
        rw [HDD.out, losF_done _ _ HE.out] at this
        exact this
      go_wp2_with fail
      go_roundw
      case rel => exact ⟨k + 1, g, by omega, by go_num, hB3, HG3.out, HK2.out⟩
      case measure => simp [intOf]; omega
    have HK2 : Hid (∀ i, ((fun i : Int => decide ((j : Int) = i) || g i) i || losF (log.drop (k + 1)) i) = losF log i) := fun i => by
      have := HKK.out i
      rw [HDD.out, losF_lost _ _ rfl HE.out] at this
      rw [← this]
      simp only
      cases g i <;> cases decide ((j : Int) = i) <;> rfl
    have HS : Hid ((#[.bool (g 0), .bool (g 1), .bool (g 2), .bool (g 3)] : Array Value).setIfInBounds j (.bool true) = #[.bool (decide ((j : Int) = 0) || g 0), .bool (decide ((j : Int) = 1) || g 1), .bool (decide ((j : Int) = 2) || g 2), .bool (decide ((j : Int) = 3) || g 3)]) := by
      show _ = _
      match j, hj4 with
      | 0, _ => rfl
      | 1, _ => rfl
      | 2, _ => rfl
      | 3, _ => rfl
    have hj4' : (j : Int) < 4 := by omega
    go_wp2_with fail
    go_roundw
    case rel => exact ⟨k + 1, fun i => decide ((j : Int) = i) || g i, by omega, by go_num, hB3.setCell (Nat.le_refl _) _, by rw [← HS.out]; exact blk_set HG3.out j _, HK2.out⟩
    case measure => simp [intOf]; omega

set_option maxHeartbeats 1000000 in
theorem LosersOfS_any (lo lo2 : Nat) (A A2 : Option Addr) (n c m c2 : Nat) (t : List Nd) (log : List Rc) (w : World) (hr : Rd cN 3 w lo A n t) (hc : n ≤ c) (hz : NmB t) (hr2 : Rd cR 4 w lo2 A2 m log) :
    Calls Try.prog 27 #[.slice A n c, .slice A2 m c2] w (IntsP w (los t log)) := by
  have HL2 := Lib.hid hr2.len
  have hn := hr.le
  have HE : Hid (vl t log = (vt t && vl0 n log)) := by
    show _ = _
    rw [vl_eq, hr.len]
  have hW0 := (Below.refl w.heap.size w).alloc (Nat.le_refl _) (.cells #[] 3)
  by_cases h1 : vt t = true
  case neg =>
    have h1' : vt t = false := by simpa using h1
    have HF := Lib.hid (los_no (t := t) (log := log) (by rw [HE.out, h1']; rfl))
    go_enter Try.func27, Try.ntmps27
    go_wp2_with fail
    refine (validTree_any _ A n c t _ (hr.alloc _) hc hz).mono ?_
    rintro e w1 ⟨rfl, hb1⟩
    rw [h1']
    go_wp2_with fail
    go_ret
    exact ⟨_, rfl, by rw [HF.out]; exact Own.nil _ _, hW0.trans (hb1.mono hW0.size)⟩
  by_cases h2 : vl0 n log = true
  case neg =>
    have h2' : vl0 n log = false := by simpa using h2
    have HF := Lib.hid (los_no (t := t) (log := log) (by rw [HE.out, h2']; simp))
    go_enter Try.func27, Try.ntmps27
    go_wp2_with fail
    refine (validTree_any _ A n c t _ (hr.alloc _) hc hz).mono ?_
    rintro e w1 ⟨rfl, hb1⟩
    rw [h1]
    have hB1 := hW0.trans (hb1.mono hW0.size)
    go_wp2_with fail
    refine (validLog_any _ A A2 n c m c2 log _ hn ((hr2.alloc _).below hb1)).mono ?_
    rintro e w2 ⟨rfl, hb2⟩
    rw [h2']
    go_wp2_with fail
    go_ret
    exact ⟨_, rfl, by rw [HF.out]; exact Own.nil _ _, hB1.trans (hb2.mono hB1.size)⟩
  have hv : vl t log = true := by rw [HE.out, h1, h2]; rfl
  have HR := Lib.hid (los_yes hv)
  have hVL := VL_of hv
  have hm16 : m ≤ 16 := by have := hVL.2.1; have := HL2.out; omega
  clear hVL hv
  go_enter Try.func27, Try.ntmps27
  go_wp2_with fail
  refine (validTree_any _ A n c t _ (hr.alloc _) hc hz).mono ?_
  rintro e w1 ⟨rfl, hb1⟩
  rw [h1]
  have hB1 := hW0.trans (hb1.mono hW0.size)
  go_wp2_with fail
  refine (validLog_any _ A A2 n c m c2 log _ hn ((hr2.alloc _).below hb1)).mono ?_
  rintro e w2 ⟨rfl, hb2⟩
  rw [h2]
  have hB2 := hB1.trans (hb2.mono hB1.size)
  have hs2 := hB2.size
  have ho2 := ((Own.empty (cs := cI) (e := 3) w elI.len).below hb1).below hb2
  clear h1 h2 hr hb1 hb2 hW0 hB1
  go_wp2_with fail
  go_loopw [5, 6] (fun v i wr => ∃ k : Nat, k ≤ 4 ∧ i = .int .i64 k ∧ Below w.heap.size w wr ∧ Own cI 1 3 wr w.heap.size v ((([0, 1, 2, 3] : List Int).take k).filter (losF log))) (fun _ i _ => 4 - (intOf i).toNat)
  case atStart => exact ⟨0, Nat.zero_le _, rfl, hB2, ho2⟩
  case round =>
    obtain ⟨k, hk, rfl, hbl, ho⟩ := hrel
    have hs := hbl.size
    by_cases hlt : k < 4
    case neg =>
      obtain rfl : k = 4 := by omega
      go_wp2_with fail
      go_ret
      exact ⟨_, rfl, by rw [HR.out]; exact ho, hbl⟩
    have hlt' : (k : Int) < 4 := by omega
    generalize hL : losF log (k : Int) = L
    have HL := Lib.hid hL
    clear hL
    go_wp2_with fail
    go_loopw [7, 8] (fun d i wr2 => ∃ (j : Nat) (db : Bool), j ≤ m ∧ i = .int .i64 j ∧ d = .bool db ∧ (db || losF (log.drop j) k) = L ∧ wr2 = wr) (fun _ i _ => m - (intOf i).toNat)
    case atStart => exact ⟨0, false, Nat.zero_le _, rfl, rfl, by rw [← HL.out]; simp, rfl⟩
    case round =>
      obtain ⟨j, db, hj, rfl, rfl, hD, rfl⟩ := hrel
      by_cases hjm : j < m
      case neg =>
        rw [List.drop_eq_nil_of_le (by have := HL2.out; omega), losF, Bool.or_false] at hD
        subst hD
        cases db
        · have HM := Lib.hid (mark_f hlt HL.out)
          go_wp2_with fail
          go_roundw
          case rel => exact ⟨k + 1, by omega, by go_num, hbl, by rw [HM.out]; exact ho⟩
          case measure => simp [intOf]; omega
        · have HM := Lib.hid (mark_t hlt HL.out)
          have hml := mark_len (losF log) k
          go_wp2_with (at_builtin; refine wpList_append_rd elI _ rfl (.tmp 56) (.tmp 58) rfl rfl (ho.alloc _) rfl (Rd_one _ #[.int .i64 (k : Int)] 3 (k : Int) rfl) (by omega) (by simp; omega) ?_; intro v3 w3 ho3 hg3 _)
          have hb3 := below_own (hbl.alloc hs _) (ho.alloc (.cells #[.int .i64 (k : Int)] 3)) hg3 (Nat.le_refl _) (by simp; omega)
          go_roundw
          case rel => exact ⟨k + 1, by omega, by go_num, hb3, by rw [HM.out]; exact ho3⟩
          case measure => simp [intOf]; omega
      cases db
      case true =>
        have HD : Hid (true = L) := by show _ = _; simpa using hD
        clear hD
        go_wp2_with fail
        go_roundw
        case rel => exact ⟨j + 1, true, by omega, by go_num, rfl, by rw [← HD.out]; rfl, trivial⟩
        case measure => simp [intOf]; omega
      obtain ⟨b, o, r, rfl, _, hb, hx, g0, g1, g2, g3⟩ := (hr2.below hbl).atR hjm
      rw [drop_cons hx, Bool.false_or] at hD
      obtain ⟨rw', rn, rv, rf⟩ := r
      simp only at g0 g1 g2 g3
      clear hx
      by_cases hwk : rw' = (k : Int)
      case neg =>
        rw [losF_other _ _ hwk] at hD
        have HD := Lib.hid hD
        have hw2 : (rw' == (k : Int)) = false := by simpa using hwk
        clear hD hwk
        go_wp2_with fail
        go_roundw
        case rel => exact ⟨j + 1, false, by omega, by go_num, rfl, by rw [← HD.out]; rfl, trivial⟩
        case measure => simp [intOf]; omega
      subst hwk
      cases rf
      case true =>
        rw [losF_fin _ _ rfl] at hD
        have HD := Lib.hid hD
        clear hD
        go_wp2_with fail
        go_roundw
        case rel => exact ⟨j + 1, false, by omega, by go_num, rfl, by rw [← HD.out]; rfl, trivial⟩
        case measure => simp [intOf]; omega
      generalize hE : endsF (log.drop (j + 1)) k = E
      have HE := Lib.hid hE
      have hD2 : Hid (((!E) || losF (log.drop (j + 1)) k) = L) := by
        show _ = _
        cases E
        · rw [losF_lost _ _ rfl hE] at hD
          rw [← hD]; simp
        · rw [losF_done _ _ hE] at hD
          rw [← hD]; simp
      clear hE hD
      go_wp2_with (go_at_call 41; refine (ended_any _ _ m c2 log (j + 1) k _ (hr2.below hbl) (by omega) E HE.out).mono ?_; rintro e w3 ⟨rfl, rfl⟩)
      go_roundw
      case rel => exact ⟨j + 1, !E, by omega, by go_num, rfl, hD2.out, trivial⟩
      case measure => simp [intOf]; omega
end Go.Proofs.Ytpklfhefhfkkhaa
