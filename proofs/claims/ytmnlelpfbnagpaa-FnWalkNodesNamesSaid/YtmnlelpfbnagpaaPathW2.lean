/- The walks over PathTo and the reference's pathTo. -/
import Derived.Test.YtmnlelpfbnagpaaPathW
namespace Go.Proofs.Ytmnlelpfbnagpaa
open Go.RowKit

set_option maxHeartbeats 1000000 in
theorem PathTo_t (lo : Nat) (A : Option Addr) (n c : Nat) (t : List Nd) (a : Int) (w : World) (hr : Rd cN 3 w lo A n t) (hc : n ≤ c) (h : IsNd t a) :
    Calls Try.prog 43 #[.slice A n c, .int .i64 a] w (IntsP w (pathL t a)) := by
  have HC := Lib.hid (isNode_t lo A n c t a w hr hc h)
  have HL := Lib.hid hr.len
  have HV := Lib.hid h.1
  have hlen5 := h.path_len
  have hlen : (upI t a).length ≤ 5 ∧ 1 ≤ (upI t a).length := by unfold pathL at hlen5; simpa using hlen5
  have HLEN := Lib.hid hlen
  obtain ⟨_, h2, h3⟩ := h
  rw [hr.len] at h3
  clear hlen5 hlen
  go_enter Try.func43, Try.ntmps43
  go_wp2_with fail
  refine HC.out.mono ?_
  rintro e w1 ⟨rfl, hb1⟩
  go_wp2_with fail
  go_loopw [5, 6] (fun v i wr => ∃ (z : Int) (acc : List Int), i = .int .i64 z ∧ -1 ≤ z ∧ z < n ∧ Below w.heap.size w wr ∧ Own cI 1 3 wr w.heap.size v acc ∧ acc ++ upI t z = upI t a) (fun _ i _ => (intOf i + 1).toNat)
  case atStart => exact ⟨a, [], rfl, by omega, h3, hb1, Own.nil _ _, rfl⟩
  case round =>
    rename World => W1
    obtain ⟨z, acc, rfl, z0, z1, hbl, ho, hK⟩ := hrel
    have hs := hbl.size
    by_cases hz : 0 ≤ z
    case neg =>
      rw [upI_neg (by omega), List.append_nil] at hK
      have HK := Lib.hid hK
      obtain ⟨g, m, cap, rfl, hgb, _, hmc, hm⟩ := ho.form (by rw [hK]; exact HLEN.out.2)
      have hm5 : m ≤ 5 := by rw [hm, hK]; exact HLEN.out.1
      have hm1 : 1 ≤ m := by rw [hm, hK]; exact HLEN.out.2
      have hz' : z < 0 := by omega
      clear hK hm hz
      go_wp2_with fail
      refine (Reverse_any _ g m cap acc _ ho hm1 (by omega)).mono ?_
      rintro e w2 ⟨rfl, ho2, hg2⟩
      have hb2 := hbl.grown hg2 hs (fun k hk => by injection hk with hk; subst hk; exact hgb)
      go_wp2_with fail
      go_ret
      exact ⟨_, rfl, by unfold pathL; rw [← HK.out]; exact ho2, hb2⟩
    obtain ⟨j, rfl⟩ := Int.eq_ofNat_of_zero_le hz
    obtain ⟨b, o, x, hA, _, hb, hx, g0, g1, g2⟩ := (hr.below hbl).atN (k := j) (by omega)
    have hp := HV.out.parn hx
    have hp1 := HV.out.pargt hx
    rw [upI_step HV.out.desc hx] at hK
    have hacc : acc.length ≤ 5 := by
      have := congrArg List.length hK
      rw [List.length_append] at this
      have := HLEN.out.1
      omega
    have HK : Hid ((acc ++ [(j : Int)]) ++ upI t x.par = upI t a) := by show _ = _; rw [← hK]; simp
    have hbs := World.block_lt_of_cell? _ _ g0
    clear hK hx g1 g2
    subst hA
    go_wp2_with (at_builtin; refine wpList_append_rd elI _ rfl (.tmp 19) (.tmp 21) rfl rfl (ho.alloc _) rfl (Rd_one _ #[.int .i64 (j : Int)] 3 (j : Int) rfl) (by omega) (by simp; omega) ?_; intro v3 w3 ho3 hg3 _; have hb3 := below_own (hbl.alloc hs _) (ho.alloc (.cells #[.int .i64 (j : Int)] 3)) hg3 (Nat.le_refl _) (by simp; omega); have g0' : w3.cell? ⟨b, o + j * 3, none⟩ = some (.int .i64 x.par) := (by obtain ⟨b', o', x', hA', _, _, hx', k0, _, _⟩ := (hr.below hb3).atN (k := j) (by omega); obtain ⟨b2, o2, y2, hB, _, _, hy2, l0, _, _⟩ := (hr.below hbl).atN (k := j) (by omega); simp only [Option.some.injEq, Addr.mk.injEq, and_true] at hA' hB; obtain ⟨rfl, rfl⟩ := hA'; rw [hx'] at hy2; injection hy2 with hy2; subst hy2; obtain ⟨rfl, rfl⟩ := hB; rw [g0] at l0; rw [l0]; exact k0))
    go_roundw
    case rel => exact ⟨x.par, acc ++ [(j : Int)], rfl, hp1, by omega, hb3, ho3, HK.out⟩
    case measure => simp [intOf]; omega
theorem PathTo_f (lo : Nat) (A : Option Addr) (n c : Nat) (t : List Nd) (a : Int) (w : World) (hr : Rd cN 3 w lo A n t) (hc : n ≤ c) (h : ¬ IsNd t a) :
    Calls Try.prog 43 #[.slice A n c, .int .i64 a] w fun e w' => e = .returned (.slice none 0 0) ∧ Below w.heap.size w w' := by
  have HC := Lib.hid (isNode_f lo A n c t a w hr hc h)
  clear h
  go_enter Try.func43, Try.ntmps43
  go_wp2_with fail
  refine HC.out.mono ?_
  rintro e w1 ⟨rfl, hb1⟩
  go_wp2_with fail
  go_ret
  exact ⟨rfl, hb1⟩

set_option maxHeartbeats 1000000 in
theorem pathTo_any (lo : Nat) (A : Option Addr) (n c : Nat) (t : List Nd) (a : Int) (w : World) (hr : Rd cN 3 w lo A n t) (h : IsNd t a) :
    Calls Try.prog 66 #[.slice A n c, .int .i64 a] w (IntsP w (pathL t a)) := by
  have HV := Lib.hid h.1
  have HLEN := Lib.hid h.path_len
  obtain ⟨_, h2, h3⟩ := h
  rw [hr.len] at h3
  go_enter Try.func66, Try.ntmps66
  go_wp2_with fail
  go_loopw [1, 5] (fun i v wr => ∃ (z : Int) (rest : List Int), i = .int .i64 z ∧ 0 ≤ z ∧ z < n ∧ Below w.heap.size w wr ∧ Own cI 1 3 wr w.heap.size v (z :: rest) ∧ rest.reverse ++ upI t z = upI t a) (fun i _ _ => (intOf i).toNat)
  case atStart => exact ⟨a, [], rfl, h2, h3, (Below.refl _ _).alloc (Nat.le_refl _) _, Own.lit w _ [a] (by simp) elI.len rfl, rfl⟩
  case round =>
    rename World => W1
    obtain ⟨z, rest, rfl, z0, z1, hbl, ho, hK⟩ := hrel
    have hs := hbl.size
    obtain ⟨j, rfl⟩ := Int.eq_ofNat_of_zero_le z0
    obtain ⟨b, o, x, rfl, _, hb, hx, g0, g1, g2⟩ := (hr.below hbl).atN (k := j) (by omega)
    rw [upI_step HV.out.desc hx] at hK
    by_cases hz : 0 < j
    case neg =>
      have e : j = 0 := by omega
      subst e
      rw [upI_neg (by have := HV.out.par0 hx; omega)] at hK
      have HK : Hid (pathL t a = (0 : Int) :: rest) := by
        show _ = _
        unfold pathL
        rw [← hK]; simp
      clear hK hx hz
      go_wp2_with fail
      go_ret
      exact ⟨_, rfl, by rw [HK.out]; exact ho, hbl⟩
    have hp := HV.out.parp hx hz
    have hlr : (((j : Int) :: rest).length) ≤ 5 := by
      have := congrArg List.length hK
      have h5 := HLEN.out.1
      unfold pathL at h5
      rw [List.length_reverse] at h5
      simp only [List.length_append, List.length_reverse, List.length_cons] at this ⊢
      omega
    have HK : Hid (((j : Int) :: rest).reverse ++ upI t x.par = upI t a) := by show _ = _; rw [← hK]; simp
    obtain ⟨B, m, c', rfl, hmc, hrd⟩ := ho.rdn elI.len (by omega)
    have hzi : (0 : Int) < (j : Int) := by omega
    have hml := hrd.len
    have hm5 : m ≤ 5 := by omega
    have hol := Own.lit (cs := cI) (e := 3) W1 #[.int .i64 x.par] [x.par] (by simp) elI.len rfl
    clear hK hx g1 g2 hml ho
    go_wp2_with (at_builtin; refine wpList_append_rd elI _ rfl (.tmp 16) (.tmp 17) rfl rfl hol rfl (hrd.alloc _) (by simp; omega) (by simp) ?_; intro v3 w3 ho3 hg3 _; have hb3 := below_own (hbl.alloc hs _) hol hg3 hs (by simp; omega))
    go_roundw
    case rel => exact ⟨x.par, (j : Int) :: rest, rfl, hp.1, by omega, hb3, ho3.low hs, HK.out⟩
    case measure => simp [intOf]; omega
end Go.Proofs.Ytmnlelpfbnagpaa
