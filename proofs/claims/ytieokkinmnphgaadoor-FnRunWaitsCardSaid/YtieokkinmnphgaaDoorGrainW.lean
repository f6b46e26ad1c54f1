/- The walks over grains: LocksFor, hasOnPath, MayRead, MayWrite, GrainFault, the program's. -/
import Derived.Test.YtieokkinmnphgaaDoorPathW2
import Derived.Test.YtieokkinmnphgaaDoorTabW3
namespace Go.Proofs.YtieokkinmnphgaaDoor
open Go.RowKit

theorem take_snocI {l : List Int} {k : Nat} {x : Int} (h : l[k]? = some x) (f : Int → Lk) : (l.take (k + 1)).map f = (l.take k).map f ++ [f x] := by
  rw [take_snoc h, List.map_append]; rfl

set_option maxHeartbeats 1000000 in
theorem LocksFor_t (lo : Nat) (A : Option Addr) (n c : Nat) (t : List Nd) (who node mode : Int) (w : World) (hr : Rd cN 3 w lo A n t) (hc : n ≤ c) (h1 : IsNd t node) (h2 : OkAsk who node mode) :
    Calls Tryd.prog 76 #[.slice A n c, .int .i64 who, .int .i64 node, .int .i64 mode] w (LksP w (lkF t who node mode)) := by
  have HC := Lib.hid (isNode_t lo A n c t node w hr hc h1)
  have HA := fun w' => isAsk_t who node mode w' h2
  have HN := Lib.hid h1
  have HM := Lib.hid h2.isM
  have HPL := Lib.hid h1.path_len
  clear h1 h2
  go_enter Tryd.func76, Tryd.ntmps76
  go_wp2_with fail
  refine HC.out.mono ?_
  rintro e w1 ⟨rfl, hb1⟩
  go_wp2_with (go_at_call 52; refine (HA _).mono ?_; rintro e w3 ⟨rfl, rfl⟩)
  refine (PathTo_t lo A n c t node _ (hr.below hb1) hc HN.out).mono ?_
  rintro e w2 ⟨v2, rfl, ho2, hb2⟩
  have hB2 := hb1.trans (hb2.mono hb1.size)
  have hs2 := hB2.size
  obtain ⟨g, m, cap, rfl, hgb, hgl, hmc, hm⟩ := ho2.form HPL.out.2
  have hm5 : m ≤ 5 := by rw [hm]; exact HPL.out.1
  obtain ⟨q, rfl⟩ : ∃ q, m = q + 1 := ⟨m - 1, by have := HPL.out.2; omega⟩
  obtain ⟨_, hrd⟩ := ho2.rds elI.len (by have := HPL.out.1; omega)
  have hrt := hrd.take (k := q) (by omega)
  have HE : Hid ((pathL t node).take ((pathL t node).length - 1) = (pathL t node).take q) := by show _ = _; rw [← hm]; rfl
  generalize hP : (pathL t node).take q = P at *
  have hPl := hrt.len
  have hqc : (q : Int) ≤ (cap : Int) := by omega
  have hqn : (q : Int) + 1 - 1 = (q : Int) := by omega
  have HPL2 := Lib.hid hPl
  clear hb1 hb2 ho2 hrd hP hm hPl HA HC hgb hgl
  go_wp2_with fail
  go_loopw [10, 33] (fun v i wr => ∃ k : Nat, k ≤ q ∧ i = .int .i64 k ∧ Below w2.heap.size w2 wr ∧ Own cL 3 42 wr w2.heap.size v ((P.take k).map fun a => (⟨who, a, needF mode⟩ : Lk))) (fun _ i _ => q - (intOf i).toNat)
  case atStart => exact ⟨0, Nat.zero_le _, rfl, Below.refl _ _, by simpa using Own.nil _ _⟩
  case round =>
    rename World => W1
    obtain ⟨k, hk, rfl, hbl, ho⟩ := hrel
    have hs := hbl.size
    have hlen : ((P.take k).map fun a => (⟨who, a, needF mode⟩ : Lk)).length ≤ 5 := by rw [List.length_map, List.length_take]; omega
    by_cases hlt : k < q
    case neg =>
      have HT : Hid (P.take k = P) := List.take_of_length_le (by have := HPL2.out; omega)
      rw [HT.out] at ho hlen
      go_wp2_with (at_builtin; refine wpList_append_rd elL _ rfl (.tmp 46) (.tmp 51) rfl rfl (ho.alloc _) rfl (Rd_one _ #[.int .i64 who, .int .i64 node, .int .i64 mode] 42 ⟨who, node, mode⟩ rfl) (by omega) (by simp; omega) ?_; intro v5 w5 ho5 hg5 _)
      have hb5 := below_own (hbl.alloc hs _) (ho.alloc (.cells #[.int .i64 who, .int .i64 node, .int .i64 mode] 42)) hg5 (Nat.le_refl _) (by simp; omega)
      go_ret
      exact ⟨_, rfl, by unfold lkF; rw [HE.out]; exact ho5.low hs2, hB2.trans (hb5.mono hs2)⟩
    obtain ⟨b, o, x, hA, _, hb, hx, g0⟩ := (hrt.below hbl).atI (k := k) hlt
    simp only [Option.some.injEq, Addr.mk.injEq, and_true] at hA
    obtain ⟨rfl, rfl⟩ := hA
    simp only [Nat.zero_add] at g0
    have HS := Lib.hid (take_snocI hx fun a => (⟨who, a, needF mode⟩ : Lk))
    have HNA := Lib.hid (NeedAbove_t mode)
    clear hx
    generalize needF mode = nm at *
    go_wp2_with (first
      | (go_at_call 51; refine (HNA.out _ HM.out).mono ?_; rintro e w5 ⟨rfl, rfl⟩)
      | (at_builtin; refine wpList_append_rd elL _ rfl (.tmp 37) (.tmp 43) rfl rfl (ho.alloc _) rfl (Rd_one _ #[.int .i64 who, .int .i64 x, .int .i64 nm] 42 ⟨who, x, nm⟩ rfl) (by omega) (by simp; omega) ?_; intro v5 w5 ho5 hg5 _; have hb5 := below_own (hbl.alloc hs _) (ho.alloc (.cells #[.int .i64 who, .int .i64 x, .int .i64 nm] 42)) hg5 (Nat.le_refl _) (by simp; omega)))
    go_roundw
    case rel => exact ⟨k + 1, by omega, by go_num, hb5, by rw [HS.out]; exact ho5⟩
    case measure => simp [intOf]; omega
theorem LocksFor_f (lo : Nat) (A : Option Addr) (n c : Nat) (t : List Nd) (who node mode : Int) (w : World) (hr : Rd cN 3 w lo A n t) (hc : n ≤ c) (h : ¬ (IsNd t node ∧ OkAsk who node mode)) :
    Calls Tryd.prog 76 #[.slice A n c, .int .i64 who, .int .i64 node, .int .i64 mode] w fun e w' => e = .returned (.slice none 0 0) ∧ Below w.heap.size w w' := by
  by_cases h1 : IsNd t node
  case neg =>
    have HC := Lib.hid (isNode_f lo A n c t node w hr hc h1)
    clear h1 h
    go_enter Tryd.func76, Tryd.ntmps76
    go_wp2_with fail
    refine HC.out.mono ?_
    rintro e w1 ⟨rfl, hb1⟩
    go_wp2_with fail
    go_ret
    exact ⟨rfl, hb1⟩
  have HC := Lib.hid (isNode_t lo A n c t node w hr hc h1)
  have HA := fun w' => isAsk_f who node mode w' (fun h2 => h ⟨h1, h2⟩)
  clear h1 h
  go_enter Tryd.func76, Tryd.ntmps76
  go_wp2_with fail
  refine HC.out.mono ?_
  rintro e w1 ⟨rfl, hb1⟩
  go_wp2_with (go_at_call 52; refine (HA _).mono ?_; rintro e w3 ⟨rfl, rfl⟩)
  go_ret
  exact ⟨rfl, hb1⟩
/-- Whatever the arguments: a list that reads as the locks. -/
def LksR (w : World) (l : List Lk) (e : Ending) (w' : World) : Prop := ∃ A m c, e = .returned (.slice A m c) ∧ m ≤ c ∧ Rd cL 3 w' w.heap.size A m l ∧ Below w.heap.size w w'
theorem LocksFor_any (lo : Nat) (A : Option Addr) (n c : Nat) (t : List Nd) (who node mode : Int) (w : World) (hr : Rd cN 3 w lo A n t) (hc : n ≤ c) :
    Calls Tryd.prog 76 #[.slice A n c, .int .i64 who, .int .i64 node, .int .i64 mode] w (LksR w (lksF t who node mode)) := by
  by_cases h : IsNd t node ∧ OkAsk who node mode
  · rw [lksF_yes h.1 h.2]
    refine (LocksFor_t lo A n c t who node mode w hr hc h.1 h.2).mono ?_
    rintro e w1 ⟨v, rfl, ho, hb⟩
    obtain ⟨A', m, c', rfl, hmc, hrd⟩ := ho.rdn elL.len (by have := lkF_len (who := who) (mode := mode) h.1; omega)
    exact ⟨A', m, c', rfl, hmc, hrd, hb⟩
  · rw [lksF_no h]
    refine (LocksFor_f lo A n c t who node mode w hr hc h).mono ?_
    rintro e w1 ⟨rfl, hb⟩
    exact ⟨none, 0, 0, rfl, Nat.le_refl _, Rd.nil, hb⟩

set_option maxHeartbeats 1000000 in
theorem hasOnPath_any (lo lo2 : Nat) (A A2 : Option Addr) (n c n2 c2 : Nat) (t : List Nd) (l : List Lk) (who node mode : Int) (w : World) (hr : Rd cN 3 w lo A n t) (hc : n ≤ c) (hr2 : Rd cL 3 w lo2 A2 n2 l) (hc2 : n2 ≤ c2) (hm : IsM mode) (hT : Tb w) :
    Calls Tryd.prog 54 #[.slice A n c, .slice A2 n2 c2, .int .i64 who, .int .i64 node, .int .i64 mode] w fun e w' => e = .returned (.bool (mayF mode t l who node)) ∧ Below w.heap.size w w' := by
  by_cases h1 : IsNd t node
  case neg =>
    rw [mayF_no (fun h => h1 h.1)]
    have HC := Lib.hid (isNode_f lo A n c t node w hr hc h1)
    clear h1
    go_enter Tryd.func54, Tryd.ntmps54
    go_wp2_with fail
    refine HC.out.mono ?_
    rintro e w1 ⟨rfl, hb1⟩
    go_wp2_with fail
    go_ret
    exact ⟨rfl, hb1⟩
  have HC := Lib.hid (isNode_t lo A n c t node w hr hc h1)
  by_cases h2 : VTb l
  case neg =>
    rw [mayF_no (fun h => h2 h.2)]
    have H2 := Lib.hid h2
    clear h1 h2
    go_enter Tryd.func54, Tryd.ntmps54
    go_wp2_with fail
    refine HC.out.mono ?_
    rintro e w1 ⟨rfl, hb1⟩
    go_wp2_with fail
    refine (ValidTable_f lo2 A2 n2 c2 l _ (hr2.below hb1) hc2 (hT.below hb1) H2.out).mono ?_
    rintro e w2 ⟨rfl, hb2⟩
    go_wp2_with fail
    go_ret
    exact ⟨rfl, hb1.trans (hb2.mono hb1.size)⟩
  rw [mayF_yes h1 h2]
  generalize hR : onP t l who mode node = R
  have HR := Lib.hid hR
  have H2 := Lib.hid h2
  have HV := Lib.hid h1.1
  have hn0 := h1.2.1
  have hn1 := h1.2.2
  rw [hr.len] at hn1
  have HM := Lib.hid hm
  clear h1 h2 hR hm
  go_enter Tryd.func54, Tryd.ntmps54
  go_wp2_with fail
  refine HC.out.mono ?_
  rintro e w1 ⟨rfl, hb1⟩
  go_wp2_with fail
  refine (ValidTable_t lo2 A2 n2 c2 l _ (hr2.below hb1) hc2 (hT.below hb1) H2.out).mono ?_
  rintro e w2 ⟨rfl, hb2⟩
  have hB2 := hb1.trans (hb2.mono hb1.size)
  clear HC hb1 hb2
  go_wp2_with fail
  go_loopw [11] (fun i wr => ∃ z : Int, i = .int .i64 z ∧ -1 ≤ z ∧ z < n ∧ Below w.heap.size w wr ∧ onP t l who mode z = R) (fun i _ => (intOf i + 1).toNat)
  case atStart => exact ⟨node, rfl, by omega, hn1, hB2, HR.out⟩
  case round =>
    rename World => W1
    obtain ⟨z, rfl, z0, z1, hbl, hK⟩ := hrel
    have hs := hbl.size
    by_cases hz : 0 ≤ z
    case neg =>
      have hz' : z < 0 := by omega
      unfold onP at hK
      rw [upI_neg hz'] at hK
      have HK : Hid (false = R) := hK
      clear hK hz
      go_wp2_with fail
      go_ret
      exact ⟨ret_bool HK.out, hbl⟩
    obtain ⟨j, rfl⟩ := Int.eq_ofNat_of_zero_le hz
    obtain ⟨b, o, x, rfl, _, hb, hx, g0, g1, g2⟩ := (hr.below hbl).atN (k := j) (by omega)
    have hp := HV.out.parn hx
    have hp1 := HV.out.pargt hx
    unfold onP at hK
    rw [upI_step HV.out.desc hx, List.any_cons] at hK
    have HH := Lib.hid (heldIn_any lo2 A2 n2 c2 l who j _ (hr2.below hbl))
    have hg := fun w' (hb' : Below W1.heap.size W1 w') => IsStronger_t (heldF l who j) mode w' (heldF_isM H2.out _ _) HM.out ((hT.below hbl).below hb')
    have HGX := Lib.hid g0
    have HBX : Hid (b < W1.heap.size) := hb
    clear hx g1 g2 g0 hb
    cases hst : strF (heldF l who j) mode with
    | true =>
      rw [hst] at hg hK
      have HG := Lib.hid hg
      have HK : Hid (true = R) := hK
      clear hst hg hK
      go_wp2_with fail
      refine HH.out.mono ?_
      rintro e w3 ⟨rfl, hb3⟩
      go_wp2_with fail
      refine (HG.out _ hb3).mono ?_
      rintro e w4 ⟨rfl, rfl⟩
      go_wp2_with fail
      go_ret
      exact ⟨ret_bool HK.out, hbl.trans (hb3.mono hs)⟩
    | false =>
      rw [hst, Bool.false_or] at hK
      rw [hst] at hg
      have HG := Lib.hid hg
      have HK := Lib.hid hK
      clear hst hg hK
      go_wp2_with fail
      refine HH.out.mono ?_
      rintro e w3 ⟨rfl, hb3⟩
      go_wp2_with fail
      refine (HG.out _ hb3).mono ?_
      rintro e w4 ⟨rfl, rfl⟩
      have g0 := (hb3.cell (p := ⟨b, o + j * 3, none⟩) HBX.out).trans HGX.out
      go_wp2_with fail
      go_roundw
      case rel => exact ⟨x.par, rfl, hp1, by omega, hbl.trans (hb3.mono hs), HK.out⟩
      case measure => simp [intOf]; omega
theorem MayWrite_any (lo lo2 : Nat) (A A2 : Option Addr) (n c n2 c2 : Nat) (t : List Nd) (l : List Lk) (who node : Int) (w : World) (hr : Rd cN 3 w lo A n t) (hc : n ≤ c) (hr2 : Rd cL 3 w lo2 A2 n2 l) (hc2 : n2 ≤ c2) (hT : Tb w) :
    Calls Tryd.prog 33 #[.slice A n c, .slice A2 n2 c2, .int .i64 who, .int .i64 node] w fun e w' => e = .returned (.bool (mayF 5 t l who node)) ∧ Below w.heap.size w w' := by
  have HC := Lib.hid (hasOnPath_any lo lo2 A A2 n c n2 c2 t l who node 5 w hr hc hr2 hc2 (by decide) hT)
  go_enter Tryd.func33, Tryd.ntmps33
  go_wp2_with fail
  refine HC.out.mono ?_
  rintro e w1 ⟨rfl, hb1⟩
  go_wp2_with fail
  go_ret
  exact ⟨rfl, hb1⟩

set_option maxHeartbeats 1000000 in
theorem GrainFault_any (lo lo2 : Nat) (A A2 : Option Addr) (n c n2 c2 : Nat) (t : List Nd) (l : List Lk) (who : Int) (w : World) (hr : Rd cN 3 w lo A n t) (hc : n ≤ c) (hr2 : Rd cL 3 w lo2 A2 n2 l) (hc2 : n2 ≤ c2) (hT : Tb w) :
    Calls Tryd.prog 30 #[.slice A n c, .slice A2 n2 c2, .int .i64 who] w fun e w' => e = .returned (.int .i64 (gfF t l who)) ∧ Below w.heap.size w w' := by
  by_cases h1 : VT t
  case neg =>
    rw [gfF_no (fun h => h1 h.1)]
    have HC := Lib.hid (ValidTree_f lo A n c t w hr hc h1)
    clear h1
    go_enter Tryd.func30, Tryd.ntmps30
    go_wp2_with fail
    refine HC.out.mono ?_
    rintro e w1 ⟨rfl, hb1⟩
    go_wp2_with fail
    go_ret
    exact ⟨rfl, hb1⟩
  have HC := Lib.hid (ValidTree_t lo A n c t w hr hc h1)
  by_cases h2 : VTb l
  case neg =>
    rw [gfF_no (fun h => h2 h.2)]
    have H2 := Lib.hid h2
    clear h1 h2
    go_enter Tryd.func30, Tryd.ntmps30
    go_wp2_with fail
    refine HC.out.mono ?_
    rintro e w1 ⟨rfl, hb1⟩
    go_wp2_with fail
    refine (ValidTable_f lo2 A2 n2 c2 l _ (hr2.below hb1) hc2 (hT.below hb1) H2.out).mono ?_
    rintro e w2 ⟨rfl, hb2⟩
    go_wp2_with fail
    go_ret
    exact ⟨rfl, hb1.trans (hb2.mono hb1.size)⟩
  rw [gfF_yes h1 h2]
  generalize hR : gfL l who (t.drop 1) 1 = R
  have HR := Lib.hid hR
  have H2 := Lib.hid h2
  have HV := Lib.hid h1
  have HL := Lib.hid hr.len
  have hn1 : 1 ≤ n := by have := h1.1; rw [hr.len] at this; exact this
  have hle := hr.le
  clear h1 h2 hR
  go_enter Tryd.func30, Tryd.ntmps30
  go_wp2_with fail
  refine HC.out.mono ?_
  rintro e w1 ⟨rfl, hb1⟩
  go_wp2_with fail
  refine (ValidTable_t lo2 A2 n2 c2 l _ (hr2.below hb1) hc2 (hT.below hb1) H2.out).mono ?_
  rintro e w2 ⟨rfl, hb2⟩
  have hB2 := hb1.trans (hb2.mono hb1.size)
  clear HC hb1 hb2
  go_wp2_with fail
  go_loopw [7] (fun i wr => ∃ k : Nat, 1 ≤ k ∧ k ≤ n ∧ i = .int .i64 k ∧ Below w.heap.size w wr ∧ gfL l who (t.drop k) k = R) (fun i _ => n - (intOf i).toNat)
  case atStart => exact ⟨1, Nat.le_refl _, hn1, rfl, hB2, HR.out⟩
  case round =>
    rename World => W1
    obtain ⟨k, hk1, hk, rfl, hbl, hK⟩ := hrel
    have hs := hbl.size
    by_cases hlt : k < n
    case neg =>
      rw [List.drop_eq_nil_of_le (by have := HL.out; omega), gfL] at hK
      have HK := Lib.hid hK
      clear hK
      go_wp2_with fail
      go_ret
      exact ⟨ret_int HK.out, hbl⟩
    obtain ⟨b, o, x, rfl, _, hb, hx, g0, g1, g2⟩ := (hr.below hbl).atN (k := k) hlt
    rw [drop_cons hx, gfL] at hK
    have hm := heldF_isM H2.out
    have HMM := Lib.hid hm
    have HH := Lib.hid (heldIn_any lo2 A2 n2 c2 l who k _ (hr2.below hbl))
    have HGX := Lib.hid g0
    have HBX : Hid (b < W1.heap.size) := hb
    clear hx g0 g1 g2 hb
    by_cases h0 : heldF l who k = 0
    · rw [h0, needF_zero, strF_zero (hm _ _), if_neg (by simp)] at hK
      rw [h0] at HH
      have HK := Lib.hid hK
      clear hK h0 hm
      go_wp2_with fail
      refine HH.out.mono ?_
      rintro e w3 ⟨rfl, hb3⟩
      go_wp2_with fail
      go_roundw
      case rel => exact ⟨k + 1, by omega, by omega, by go_num, hbl.trans (hb3.mono hs), HK.out⟩
      case measure => simp [intOf]; omega
    have h0' : (heldF l who k != 0) = true := by simpa using h0
    generalize hpv : x.par = px at *
    have HP := Lib.hid (fun w' (hb' : Below W1.heap.size W1 w') => heldIn_any lo2 A2 n2 c2 l who px w' ((hr2.below hbl).below hb'))
    have HN := Lib.hid (fun w' => NeedAbove_t (heldF l who k) w' (hm _ _))
    have hg := fun w' (hb' : Below W1.heap.size W1 w') => IsStronger_t (heldF l who px) (needF (heldF l who k)) w' (hm _ _) (needF_isM _) ((hT.below hbl).below hb')
    clear hpv hm h0
    generalize heldF l who k = hk' at *
    cases hst : strF (heldF l who px) (needF hk') with
    | false =>
      rw [hst, if_pos rfl] at hK
      rw [hst] at hg
      have HG := Lib.hid hg
      have HK := Lib.hid hK
      clear hst hg hK
      go_wp2_with fail
      refine HH.out.mono ?_
      rintro e w3 ⟨rfl, hb3⟩
      have g0 := (hb3.cell (p := ⟨b, o + k * 3, none⟩) HBX.out).trans HGX.out
      go_wp2_with fail
      refine (HP.out _ hb3).mono ?_
      rintro e w4 ⟨rfl, hb4⟩
      have hb34 := hb3.trans (hb4.mono hb3.size)
      go_wp2_with (go_at_call 51; refine (HN.out _).mono ?_; rintro e w5 ⟨rfl, rfl⟩)
      refine (HG.out _ hb34).mono ?_
      rintro e w5 ⟨rfl, rfl⟩
      go_wp2_with fail
      go_ret
      exact ⟨ret_int HK.out, hbl.trans (hb34.mono hs)⟩
    | true =>
      rw [hst, if_neg (by simp)] at hK
      rw [hst] at hg
      have HG := Lib.hid hg
      have HK := Lib.hid hK
      clear hst hg hK
      go_wp2_with fail
      refine HH.out.mono ?_
      rintro e w3 ⟨rfl, hb3⟩
      have g0 := (hb3.cell (p := ⟨b, o + k * 3, none⟩) HBX.out).trans HGX.out
      go_wp2_with fail
      refine (HP.out _ hb3).mono ?_
      rintro e w4 ⟨rfl, hb4⟩
      have hb34 := hb3.trans (hb4.mono hb3.size)
      go_wp2_with (go_at_call 51; refine (HN.out _).mono ?_; rintro e w5 ⟨rfl, rfl⟩)
      refine (HG.out _ hb34).mono ?_
      rintro e w5 ⟨rfl, rfl⟩
      go_wp2_with fail
      go_roundw
      case rel => exact ⟨k + 1, by omega, by omega, by go_num, hbl.trans (hb34.mono hs), HK.out⟩
      case measure => simp [intOf]; omega
end Go.Proofs.YtieokkinmnphgaaDoor
