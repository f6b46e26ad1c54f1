/- The walks over validNode (no) and validTree. -/
import Derived.Test.YtmnlelpfbnagpaaTreeV
namespace Go.Proofs.Ytmnlelpfbnagpaa
open Go.RowKit

theorem validNode_f (lo : Nat) (A : Option Addr) (n c : Nat) (t : List Nd) (k : Nat) (x : Nd) (w : World) (hr : Rd cN 3 w lo A n t) (hk : k < n) (hc : n ≤ c) (hx : t[k]? = some x) (ht : OkTo t k) (ho : ¬ OkAt t k x) (hz : x.name.size ≤ 1000000000000) :
    Calls Try.prog 63 #[.slice A n c, .int .i64 k] w fun e w' => e = .returned (.bool false) ∧ Below w.heap.size w w' := by
  have hl := hr.len
  have hn := hr.le
  obtain ⟨b, o, y, rfl, _, hb, hy, g0, g1, g2⟩ := hr.atN hk
  rw [hx] at hy; injection hy with hy; subst hy
  have hkn : (k : Int) ≤ (n : Int) := by omega
  have hkc : (k : Int) ≤ (c : Int) := by omega
  have hkn' : (k : Int) < (n : Int) := by omega
  by_cases hv : x.val < -1000 ∨ 1000 < x.val
  · clear ho hx ht
    go_enter Try.func63, Try.ntmps63
    go_wp2_with (go_at_call 47; refine (inRange_f _ _ _ _ hv).mono ?_; rintro e w' ⟨rfl, rfl⟩)
    go_ret
    exact ⟨rfl, Below.refl _ _⟩
  have v1 : -1000 ≤ x.val := by omega
  have v2 : x.val ≤ 1000 := by omega
  clear hv
  rcases Nat.eq_zero_or_pos k with rfl | hp
  · simp only [Nat.zero_mul, Nat.add_zero] at g0 g1 g2
    by_cases p0 : x.par = -1
    · have p1 : x.name.toList.isEmpty = false := by
        rw [Bool.eq_false_iff]
        intro h
        exact ho ⟨v1, v2, fun _ => ⟨p0, h⟩, fun h => absurd h (by omega)⟩
      rw [p0] at g0
      clear ho hx ht p0
      go_enter Try.func63, Try.ntmps63
      go_wp2_with (go_at_call 47; refine (inRange_t _ _ _ _ (by omega) (by omega)).mono ?_; rintro e w' ⟨rfl, rfl⟩)
      go_ret
      exact ⟨ret_bool (by simp), Below.refl _ _⟩
    · have p2 : (x.par == -1) = false := by simpa using p0
      clear ho hx ht
      go_enter Try.func63, Try.ntmps63
      go_wp2_with (go_at_call 47; refine (inRange_t _ _ _ _ (by omega) (by omega)).mono ?_; rintro e w' ⟨rfl, rfl⟩)
      go_ret
      exact ⟨ret_bool (by simp), Below.refl _ _⟩
  have k0 := aft g0
  have k1 := aft g1
  by_cases hpr : x.par < 0 ∨ (k : Int) - 1 < x.par
  · clear ho hx ht
    go_enter Try.func63, Try.ntmps63
    go_wp2_with (go_at_call 47; refine (inRange_t _ _ _ _ (by omega) (by omega)).mono ?_; rintro e w' ⟨rfl, rfl⟩)
    refine wp_region_after (by kernel_rfl) (by kernel_rfl) ?_
    repeat (go_big_quiet_step ((first
      | (go_at_call 47; exact aft_same (inRange_f _ _ _ _ hpr))
      | (fail))))
    refine wpQuiet_nil ?_
    intro w1 hb1
    go_wp2_with fail
    go_ret
    exact ⟨ret_bool (by simp), hb1⟩
  have p0 : 0 ≤ x.par := by omega
  have p1 : x.par ≤ (k : Int) - 1 := by omega
  clear hpr
  by_cases p2 : nmOk x.name = false
  · clear ho hx ht
    go_enter Try.func63, Try.ntmps63
    go_wp2_with (go_at_call 47; refine (inRange_t _ _ _ _ (by omega) (by omega)).mono ?_; rintro e w' ⟨rfl, rfl⟩)
    refine wp_region_after (by kernel_rfl) (by kernel_rfl) ?_
    repeat (go_big_quiet_step ((first
      | (go_at_call 47; exact aft_same (inRange_t _ _ _ _ (by omega) (by omega)))
      | (go_at_call 75; exact aft_same (validName_f _ _ hz p2)))))
    refine wpQuiet_nil ?_
    intro w1 hb1
    go_wp2_with fail
    go_ret
    exact ⟨ret_bool (by simp), hb1⟩
  have p2 : nmOk x.name = true := by simpa using p2
  have hd := desc_succ ht hx (by omega)
  have hk1 := kid_from1 (s := x.name) p0 (ht.first hp)
  have HD := Lib.hid hd
  generalize hv : kidF ((t.take k).drop 1) x.par x.name 1 = v at hk1
  generalize hq : dep t k = q
  have ho' : ¬ (v < 0 ∧ q ≤ 4) := by
    rintro ⟨a, b⟩
    exact ho ⟨v1, v2, fun h => absurd h (by omega), fun _ => ⟨p0, p1, p2, by rw [← hk1]; exact a, by rw [hq]; exact b⟩⟩
  have HV := Lib.hid hv
  have HQ := Lib.hid hq
  clear hv hq hx hd ht ho hk1
  by_cases q4 : 0 ≤ v
  · clear ho'
    have q4' : decide (v < 0) = false := decide_eq_false (by omega)
    go_enter Try.func63, Try.ntmps63
    go_wp2_with (go_at_call 47; refine (inRange_t _ _ _ _ (by omega) (by omega)).mono ?_; rintro e w' ⟨rfl, rfl⟩)
    refine wp_region_after (by kernel_rfl) (by kernel_rfl) ?_
    repeat (go_big_quiet_step ((first
      | (go_at_call 47; exact aft_same (inRange_t _ _ _ _ (by omega) (by omega)))
      | (go_at_call 75; exact aft_same (validName_t _ _ hz p2))
      | (go_at_call 76; exact aft_same (kid_any lo _ k _ (t.take k) _ _ _ ((hr.take (by omega)).below (After.below _)) hp v HV.out)))))
    refine wpQuiet_nil ?_
    intro w1 hb1
    go_wp2_with fail
    go_ret
    exact ⟨ret_bool (by simp), hb1⟩
  have v4 : v < 0 := by omega
  have q5 : (4 : Int) < (q : Int) := by omega
  have q6 : decide ((q : Int) ≤ 4) = false := decide_eq_false (by omega)
  clear ho' q4
  · skip
    go_enter Try.func63, Try.ntmps63
    go_wp2_with (go_at_call 47; refine (inRange_t _ _ _ _ (by omega) (by omega)).mono ?_; rintro e w' ⟨rfl, rfl⟩)
    refine wp_region_after (by kernel_rfl) (by kernel_rfl) ?_
    repeat (go_big_quiet_step ((first
      | (go_at_call 47; exact aft_same (inRange_t _ _ _ _ (by omega) (by omega)))
      | (go_at_call 75; exact aft_same (validName_t _ _ hz p2))
      | (go_at_call 76; exact aft_same (kid_any lo _ k _ (t.take k) _ _ _ ((hr.take (by omega)).below (After.below _)) hp v HV.out))
      | (go_at_call 77; exact aft_same (depth_any lo _ n _ t k _ (hr.below (After.below _)) hk HD.out q HQ.out)))))
    refine wpQuiet_nil ?_
    intro w1 hb1
    go_wp2_with fail
    go_ret
    exact ⟨ret_bool (by simp), hb1⟩

theorem validTree_any (lo : Nat) (A : Option Addr) (n c : Nat) (t : List Nd) (w : World) (hr : Rd cN 3 w lo A n t) (hc : n ≤ c) (hz : NmB t) :
    Calls Try.prog 39 #[.slice A n c] w fun e w' => e = .returned (.bool (vt t)) ∧ Below w.heap.size w w' := by
  have hl := hr.len
  have hn := hr.le
  go_enter Try.func39, Try.ntmps39
  go_wp2_with fail
  go_loopw [3] (fun i wr => ∃ k : Nat, k ≤ n ∧ i = .int .i64 k ∧ Below w.heap.size w wr ∧ OkTo t k) (fun i _ => n - (intOf i).toNat)
  case atStart => exact ⟨0, Nat.zero_le _, rfl, Below.refl _ _, OkTo.zero⟩
  case round =>
    obtain ⟨k, hk, rfl, hbl, hK⟩ := hrel
    by_cases hlt : k < n
    · obtain ⟨x, hx⟩ : ∃ x, t[k]? = some x := ⟨_, List.getElem?_eq_getElem (by omega)⟩
      by_cases ho : OkAt t k x
      · have HK := Lib.hid (hK.succ hx ho)
        go_wp2_with (go_at_call 63; refine (validNode_t lo A n c t k x _ (hr.below hbl) hlt hc hx hK ho (hz k x hx)).mono ?_; rintro e w1 ⟨rfl, hb1⟩)
        go_roundw
        case rel => exact ⟨k + 1, by omega, by go_num, hbl.trans (hb1.mono hbl.size), HK.out⟩
        case measure => simp [intOf]; omega
      · have HF := Lib.hid (vt_false (not_VT_at hx ho))
        go_wp2_with (go_at_call 63; refine (validNode_f lo A n c t k x _ (hr.below hbl) hlt hc hx hK ho (hz k x hx)).mono ?_; rintro e w1 ⟨rfl, hb1⟩)
        go_ret
        exact ⟨ret_bool (by rw [HF.out]), hbl.trans (hb1.mono hbl.size)⟩
    · have e : k = n := by omega
      subst e
      by_cases h1 : 1 ≤ k ∧ k ≤ 12
      · have HT := Lib.hid (vt_true (t := t) ⟨by omega, by omega, by rw [hl]; exact hK⟩)
        go_wp2_with (go_at_call 47; refine (inRange_t _ _ _ _ (by omega) (by omega)).mono ?_; rintro e w' ⟨rfl, rfl⟩)
        go_ret
        exact ⟨ret_bool (by rw [HT.out]), hbl⟩
      · have HT := Lib.hid (vt_false (t := t) (by rintro ⟨a, b, _⟩; omega))
        go_wp2_with (go_at_call 47; refine (inRange_f _ _ _ _ (by omega)).mono ?_; rintro e w' ⟨rfl, rfl⟩)
        go_ret
        exact ⟨ret_bool (by rw [HT.out]), hbl⟩
end Go.Proofs.Ytmnlelpfbnagpaa
