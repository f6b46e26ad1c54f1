/- The walk of the law on the order of walks. -/
import Derived.Test.YtmnlelpfbnagpaaLawWalk
namespace Go.Proofs.Ytmnlelpfbnagpaa
open Go.RowKit

open Classical in
/-- What WalkNodes gives. -/
noncomputable def wkN (t : List Nd) (a : Int) : List Int := if IsNd t a then wkI t a else []
theorem wkN_yes {t : List Nd} {a : Int} (h : IsNd t a) : wkN t a = wkI t a := by unfold wkN; rw [if_pos h]
theorem wkN_no {t : List Nd} {a : Int} (h : ¬ IsNd t a) : wkN t a = [] := by unfold wkN; rw [if_neg h]
def RdP (w : World) (l : List Int) (e : Ending) (w' : World) : Prop := ∃ (A : Option Addr) (m c : Nat), e = .returned (.slice A m c) ∧ m ≤ c ∧ Rd cI 1 w' w.heap.size A m l ∧ m ≤ 13 ∧ Below w.heap.size w w'
theorem IntsP.rd {w w' : World} {l : List Int} {e : Ending} (h : IntsP w l e w') (hl : l.length ≤ 13) : RdP w l e w' := by
  obtain ⟨v, rfl, ho, hb⟩ := h
  obtain ⟨A, m, c, rfl, hc, hr⟩ := ho.rdn elI.len (by omega)
  exact ⟨A, m, c, rfl, hc, hr, by have := hr.len; omega, hb⟩
theorem WalkNodes_r (lo : Nat) (A : Option Addr) (n c : Nat) (t : List Nd) (a : Int) (w : World) (hr : Rd cN 3 w lo A n t) (hc : n ≤ c) (hn : n ≤ 13) :
    Calls Try.prog 26 #[.slice A n c, .int .i64 a] w (RdP w (wkN t a)) := by
  by_cases h : IsNd t a
  · obtain ⟨k, rfl⟩ := Int.eq_ofNat_of_zero_le h.2.1
    rw [wkN_yes h]
    have := wk_le h.1 h.2.1 h.2.2
    have := hr.len
    exact (WalkNodes_t lo A n c t k w hr hc h).mono fun _ _ h => h.rd (by omega)
  · rw [wkN_no h]
    exact (WalkNodes_f lo A n c t a w hr hc h).mono fun _ _ ⟨h1, h2⟩ => ⟨none, 0, 0, h1, Nat.le_refl _, Rd.nil, by omega, h2⟩
theorem WalkNodesS_r (lo : Nat) (A : Option Addr) (n c : Nat) (t : List Nd) (a : Int) (w : World) (hr : Rd cN 3 w lo A n t) (hc : n ≤ c) (hz : NmB t) (hn : n ≤ 13) :
    Calls Try.prog 29 #[.slice A n c, .int .i64 a] w (RdP w (wkN t a)) := by
  by_cases h : IsNd t a
  · obtain ⟨k, rfl⟩ := Int.eq_ofNat_of_zero_le h.2.1
    rw [wkN_yes h]
    have := wk_le h.1 h.2.1 h.2.2
    have := hr.len
    exact (WalkNodesS_t lo A n c t k w hr hc hz h).mono fun _ _ h => h.rd (by omega)
  · rw [wkN_no h]
    exact (WalkNodesS_f lo A n c t a w hr hc hz h).mono fun _ _ ⟨h1, h2⟩ => ⟨none, 0, 0, h1, Nat.le_refl _, Rd.nil, by omega, h2⟩
theorem qsame {P : Program} {f : FuncId} {args : Array Value} {w : World} {n : Nat} {v : Value}
    (h : Calls P f args (w.drewN n) fun e w' => e = .returned v ∧ w.drewN n = w') : Calls P f args (w.drewN n) fun e w'' => e = .returned v ∧ ∃ m, w'' = w.drewN m :=
  h.mono fun _ _ ⟨he, hm⟩ => ⟨he, n, hm.symm⟩
set_option maxRecDepth 100000 in
set_option maxHeartbeats 4000000 in
theorem lawWalkNodesNames (A : Option Addr) (n c : Nat) (zs : List Int) (w : World) (hn : n ≤ 1048576) (hr : Rd cB 1 w 0 A n zs) (hc : n ≤ c) (hz : ∀ (k : Nat) (z : Int), zs[k]? = some z → 0 ≤ z ∧ z ≤ 255) :
    Calls Try.prog 9 #[.slice A n c] w fun e w' => e = .returned (.bool true) ∧ Below w.heap.size w w' := by
  have hn' : (n : Int) ≤ 1048576 := by omega
  go_enter Try.func9, Try.ntmps9
  go_wp2_with fail
  refine (DrawWalkNodes_any A n c zs _ hr hc hz).mono ?_
  rintro e w1 ⟨A1, n1, c1, t, a, rfl, hc1, hrt, hn1, hzt, hb1⟩
  have hs1 := hb1.size
  have HLT : Hid (t.length = n1) := hrt.len
  have HS := Lib.hid (fun w' (hb' : Below w1.heap.size w1 w') => WalkNodesS_r _ A1 n1 c1 t a w' (hrt.below hb') hc1 hzt hn1)
  have HI := Lib.hid (fun z w' (hb' : Below w1.heap.size w1 w') => WalkNodes_r _ A1 n1 c1 t z w' (hrt.below hb') hc1 hn1)
  have HVT := Lib.hid (fun w' (hb' : Below w1.heap.size w1 w') => ValidTree_any _ A1 n1 c1 t w' (hrt.below hb') hc1)
  clear hr hz
  go_wp2_with fail
  refine (HI.out a w1 (Below.refl _ _)).mono ?_
  rintro e w2 ⟨A2, m, c2, rfl, hc2, hr2, hm13, hb2⟩
  go_wp2_with fail
  refine (HS.out _ hb2).mono ?_
  rintro e w3 ⟨A3, m3, c3, rfl, hc3, hr3, _, hb3⟩
  have hb13 := hb2.trans (hb3.mono hb2.size)
  have HQ := Lib.hid (equalInts_t _ _ A2 A3 m c2 m3 c3 _ _ (hr2.below hb3) hr3)
  go_wp2_with fail
  refine HQ.out.mono ?_
  rintro e w4 ⟨rfl, hb4⟩
  have hb14 := hb13.trans (hb4.mono hb13.size)
  have hr24 := (hr2.below hb3).below hb4
  go_wp2_with fail
  refine (HVT.out _ hb14).mono ?_
  rintro e w5 ⟨rfl, hb5⟩
  have hb15 := hb14.trans (hb5.mono hb14.size)
  have hr25 := hr24.below hb5
  obtain ⟨b, hb⟩ : ∃ b, vt t = b := ⟨_, rfl⟩
  have HB := Lib.hid hb
  rw [hb]
  clear hb hr2 hr3 HQ hr24 hb13 hb14 hb2 hb3 hb4 hb5 HVT
  cases b with
  | false =>
    go_wp2_with fail
    refine (HS.out _ hb15).mono ?_
    rintro e w6 ⟨A6, m6, c6, rfl, hc6, hr6, _, hb6⟩
    have hb16 := hb15.trans (hb6.mono hb15.size)
    have HQ := Lib.hid (equalInts_t _ _ A2 A6 m c2 m6 c6 _ _ (hr25.below hb6) hr6)
    go_wp2_with fail
    refine HQ.out.mono ?_
    rintro e w7 ⟨rfl, hb7⟩
    have HE := Lib.hid (hb1.trans ((hb16.trans (hb7.mono hb16.size)).mono hs1))
    go_wp2_with fail
    go_ret
    exact ⟨rfl, HE.out⟩
  | true =>
    have HV : Hid (VT t) := VT_of HB.out
    have hd0 : IsNd t 0 := ⟨HV.out, Int.le_refl _, by have := HV.out.1; omega⟩
    have HW := Lib.hid (HI.out 0 _ hb15)
    rw [wkN_yes hd0] at HW
    clear hd0
    go_wp2_with fail
    refine HW.out.mono ?_
    rintro e w6 ⟨A6, m6, c6, rfl, hc6, hr6, hm6, hb6⟩
    have hb16 := hb15.trans (hb6.mono hb15.size)
    have hrt6 := hrt.below hb16
    have hb6w := hb1.trans (hb16.mono hs1)
    have hs6 := hb6w.size
    have HM6 : Hid (m6 = n1) := by show _ = _; have h1 := hr6.len; have h2 := wk_all HV.out; have := HLT.out; omega
    clear hr25 hb15 hb6 HI HS HW
    go_wp2_with fail
    go_loopw [7, 8] (fun i _ wr => ∃ k : Nat, 1 ≤ k ∧ k ≤ n1 ∧ i = .int .i64 k ∧ Below w6.heap.size w6 wr) (fun i _ _ => n1 - (intOf i).toNat)
    case atStart => exact ⟨1, Nat.le_refl _, by have := HV.out.1; have := HLT.out; omega, rfl, Below.refl _ _⟩
    case round =>
      rename World => W1
      obtain ⟨k, hk1, hk, rfl, hbl⟩ := hrel
      have hsl := hbl.size
      by_cases hlt : k < n1
      case neg =>
        have HE := Lib.hid (hb6w.trans (hbl.mono hs6))
        have hmn : (m6 : Int) = (n1 : Int) := by rw [HM6.out]
        go_wp2_with fail
        go_ret
        exact ⟨ret_bool (by simp), HE.out⟩
      obtain ⟨b, o, x, rfl, _, hb, hx, g0, g1, _⟩ := (hrt6.below hbl).atN hlt
      have hwd := wk_down HV.out hx (by omega)
      have HX := Lib.hid hx
      obtain ⟨pk, hpk⟩ : ∃ q, plF (wkI t 0) (k : Int) = q := ⟨_, rfl⟩
      obtain ⟨pp, hpp⟩ : ∃ q, plF (wkI t 0) x.par = q := ⟨_, rfl⟩
      have HP1 := Lib.hid (fun w' (hb' : Below w6.heap.size w6 w') => placeOf_any _ A6 m6 c6 (wkI t 0) (k : Int) w' (hr6.below hb'))
      have HP2 := Lib.hid (fun w' (hb' : Below w6.heap.size w6 w') => placeOf_any _ A6 m6 c6 (wkI t 0) x.par w' (hr6.below hb'))
      rw [hpk] at HP1 hwd
      rw [hpp] at HP2 hwd
      have HPK := Lib.hid hpk
      clear hpk hpp hx
      go_wp2_with fail
      go_quiet ((first
        | (go_at_call 30; with_reducible refine qsame (HP1.out _ (belN hbl _)))
        | (go_at_call 30; with_reducible refine qsame (HP2.out _ (belN hbl _)))))
      have hblq := belN hbl nq
      clear HP2 g0 g1
      go_wp2_with fail
      go_loopw [8] (fun j wr => ∃ q : Nat, 1 ≤ q ∧ q ≤ n1 ∧ j = .int .i64 q ∧ Below w6.heap.size w6 wr) (fun j _ => n1 - (intOf j).toNat)
      case atStart => exact ⟨1, Nat.le_refl _, by omega, rfl, hblq⟩
      case round =>
        rename World => W2
        obtain ⟨j, hj1, hj, rfl, hbl2⟩ := hrel
        by_cases hltj : j < n1
        case neg =>
          go_wp2_with fail
          go_roundw
          case rel => exact ⟨k + 1, by omega, by omega, by go_num, hbl2⟩
          case measure => simp [intOf]; omega
        have hr2 := hrt6.below hbl2
        obtain ⟨b1, o1, x1, e1, _, _, hx1, k0, k1, _⟩ := hr2.atN hlt
        simp only [Option.some.injEq, Addr.mk.injEq, and_true] at e1
        obtain ⟨rfl, rfl⟩ := e1
        have ex : x1 = x := by have := hx1.symm.trans HX.out; injection this
        subst ex
        obtain ⟨b1, o1, y, e1, _, _, hy, d0, d1, _⟩ := hr2.atN hltj
        simp only [Option.some.injEq, Addr.mk.injEq, and_true] at e1
        obtain ⟨rfl, rfl⟩ := e1
        by_cases hp : x1.par = y.par
        case neg =>
          have hp' : (x1.par == y.par) = false := by simpa using hp
          clear hp hx1 hy hr2
          go_wp2_with fail
          go_quiet (fail)
          go_wp2_with fail
          go_roundw
          case rel => exact ⟨j + 1, by omega, by omega, by go_num, belN hbl2 _⟩
          case measure => simp [intOf]; omega
        have hless := nlt_less hx1 hy
        cases hb2 : nlt t (k : Int) (j : Int) with
        | false =>
          rw [hb2] at hless
          rw [← hp] at d0
          clear hb2 hp hx1 hy hr2
          go_wp2_with fail
          go_quiet (fail)
          go_wp2_with fail
          go_roundw
          case rel => exact ⟨j + 1, by omega, by omega, by go_num, belN hbl2 _⟩
          case measure => simp [intOf]; omega
        | true =>
          have hwn := wk_names HV.out hx1 hy (by omega) (by omega) hp hb2
          obtain ⟨pj, hpj⟩ : ∃ q, plF (wkI t 0) (j : Int) = q := ⟨_, rfl⟩
          have HP3 := Lib.hid (fun w' (hb' : Below w6.heap.size w6 w') => placeOf_any _ A6 m6 c6 (wkI t 0) (j : Int) w' (hr6.below hb'))
          rw [hpj] at HP3 hwn
          rw [HPK.out] at hwn
          rw [hb2] at hless
          rw [← hp] at d0
          clear hb2 hp hx1 hy hr2 hpj
          go_wp2_with fail
          go_quiet ((first
            | (go_at_call 30; with_reducible refine qsame (HP1.out _ (belN hbl2 _)))
            | (go_at_call 30; with_reducible refine qsame (HP3.out _ (belN hbl2 _)))))
          go_wp2_with fail
          go_roundw
          case rel => exact ⟨j + 1, by omega, by omega, by go_num, belN hbl2 _⟩
          case measure => simp [intOf]; omega
end Go.Proofs.Ytmnlelpfbnagpaa
