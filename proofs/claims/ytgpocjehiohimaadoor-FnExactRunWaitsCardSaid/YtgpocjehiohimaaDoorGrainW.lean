/- The walks over grains: LocksFor, hasOnPath, MayRead, MayWrite, GrainFault, the program's. -/
import Derived.Test.YtgpocjehiohimaaDoorPathW2
import Derived.Test.YtgpocjehiohimaaDoorTabW3
namespace Go.Proofs.YtgpocjehiohimaaDoor
open Go.RowKit

theorem take_snocI {l : List Int} {k : Nat} {x : Int} (h : l[k]? = some x) (f : Int → Lk) : (l.take (k + 1)).map f = (l.take k).map f ++ [f x] := by
  rw [take_snoc h, List.map_append]; rfl

set_option maxHeartbeats 1000000 in
theorem LocksFor_t (lo : Nat) (A : Option Addr) (n c : Nat) (t : List Nd) (who node mode : Int) (w : World) (hr : Rd cN 3 w lo A n t) (hc : n ≤ c) (h1 : IsNd t node) (h2 : OkAsk who node mode) :
    Calls Tryd.prog 67 #[.slice A n c, .int .i64 who, .int .i64 node, .int .i64 mode] w (LksP w (lkF t who node mode)) := by
  have HC := Lib.hid (isNode_t lo A n c t node w hr hc h1)
  have HA := fun w' => isAsk_t who node mode w' h2
  have HN := Lib.hid h1
  have HM := Lib.hid h2.isM
  have HPL := Lib.hid h1.path_len
  clear h1 h2
  go_enter Tryd.func67, Tryd.ntmps67
  go_wp2_with fail
  refine HC.out.mono ?_
  rintro e w1 ⟨rfl, hb1⟩
  go_wp2_with (go_at_call 69; refine (HA _).mono ?_; rintro e w3 ⟨rfl, rfl⟩)
  refine (PathTo_t lo A n c t node _ (hr.below hb1) hc HN.out).mono ?_
  rintro e w2 ⟨v2, rfl, ho2, hb2⟩
  have hB2 := hb1.trans (hb2.mono hb1.size)
  have hs2 := hB2.size
  obtain ⟨g, m, cap, rfl, hgb, hgl, hmc, hm⟩ := ho2.form HPL.out.2
  have hm5 : m ≤ 5 := by rw [hm]; exact HPL.out.1
  obtain ⟨q, rfl⟩ : ∃ q, m = q + 1 := ⟨m - 1, by have := HPL.out.2; omega⟩
  obtain ⟨_, hrd⟩ := ho2.rds elI.len (by have := HPL.out.1; omega)
  have hrt := hrd.take (k := q) (by omega)
  have HE : Hid ((pathL t node).take ((pathL t node).length - 1) = (pathL t node).take q) := by show _ = _; rw [← hm]; rfl
  generalize hP : (pathL t node).take q = P at *
  have hPl := hrt.len
  have hqc : (q : Int) ≤ (cap : Int) := by omega
  have hqn : (q : Int) + 1 - 1 = (q : Int) := by omega
  have HPL2 := Lib.hid hPl
  clear hb1 hb2 ho2 hrd hP hm hPl HA HC hgb hgl
  go_wp2_with fail
  go_loopw [10, 33] (fun v i wr => ∃ k : Nat, k ≤ q ∧ i = .int .i64 k ∧ Below w2.heap.size w2 wr ∧ Own cL 3 67 wr w2.heap.size v ((P.take k).map fun a => (⟨who, a, needF mode⟩ : Lk))) (fun _ i _ => q - (intOf i).toNat)
  case atStart => exact ⟨0, Nat.zero_le _, rfl, Below.refl _ _, by simpa using Own.nil _ _⟩
  case round =>
    rename World => W1
    obtain ⟨k, hk, rfl, hbl, ho⟩ := hrel
    have hs := hbl.size
    have hlen : ((P.take k).map fun a => (⟨who, a, needF mode⟩ : Lk)).length ≤ 5 := by rw [List.length_map, List.length_take]; omega
    by_cases hlt : k < q
    case neg =>
      have HT : Hid (P.take k = P) := List.take_of_length_le (by have := HPL2.out; omega)
      rw [HT.out] at ho hlen
      go_wp2_with (at_builtin; refine wpList_append_rd elL _ rfl (.tmp 46) (.tmp 51) rfl rfl (ho.alloc _) rfl (Rd_one _ #[.int .i64 who, .int .i64 node, .int .i64 mode] 67 ⟨who, node, mode⟩ rfl) (by omega) (by simp; omega) ?_; intro v5 w5 ho5 hg5 _)
      have hb5 := below_own (hbl.alloc hs _) (ho.alloc (.cells #[.int .i64 who, .int .i64 node, .int .i64 mode] 67)) hg5 (Nat.le_refl _) (by simp; omega)
      go_ret
      exact ⟨_, rfl, by unfold lkF; rw [HE.out]; exact ho5.low hs2, hB2.trans (hb5.mono hs2)⟩
    obtain ⟨b, o, x, hA, _, hb, hx, g0⟩ := (hrt.below hbl).atI (k := k) hlt
    simp only [Option.some.injEq, Addr.mk.injEq, and_true] at hA
    obtain ⟨rfl, rfl⟩ := hA
    simp only [Nat.zero_add] at g0
    have HS := Lib.hid (take_snocI hx fun a => (⟨who, a, needF mode⟩ : Lk))
    have HNA := Lib.hid (NeedAbove_t mode)
    clear hx
    generalize needF mode = nm at *
    go_wp2_with (first
      | (go_at_call 83; refine (HNA.out _ HM.out).mono ?_; rintro e w5 ⟨rfl, rfl⟩)
      | (at_builtin; refine wpList_append_rd elL _ rfl (.tmp 37) (.tmp 43) rfl rfl (ho.alloc _) rfl (Rd_one _ #[.int .i64 who, .int .i64 x, .int .i64 nm] 67 ⟨who, x, nm⟩ rfl) (by omega) (by simp; omega) ?_; intro v5 w5 ho5 hg5 _; have hb5 := below_own (hbl.alloc hs _) (ho.alloc (.cells #[.int .i64 who, .int .i64 x, .int .i64 nm] 67)) hg5 (Nat.le_refl _) (by simp; omega)))
    go_roundw
    case rel => exact ⟨k + 1, by omega, by go_num, hb5, by rw [HS.out]; exact ho5⟩
    case measure => simp [intOf]; omega
theorem LocksFor_f (lo : Nat) (A : Option Addr) (n c : Nat) (t : List Nd) (who node mode : Int) (w : World) (hr : Rd cN 3 w lo A n t) (hc : n ≤ c) (h : ¬ (IsNd t node ∧ OkAsk who node mode)) :
    Calls Tryd.prog 67 #[.slice A n c, .int .i64 who, .int .i64 node, .int .i64 mode] w fun e w' => e = .returned (.slice none 0 0) ∧ Below w.heap.size w w' := by
  by_cases h1 : IsNd t node
  case neg =>
    have HC := Lib.hid (isNode_f lo A n c t node w hr hc h1)
    clear h1 h
    go_enter Tryd.func67, Tryd.ntmps67
    go_wp2_with fail
    refine HC.out.mono ?_
    rintro e w1 ⟨rfl, hb1⟩
    go_wp2_with fail
    go_ret
    exact ⟨rfl, hb1⟩
  have HC := Lib.hid (isNode_t lo A n c t node w hr hc h1)
  have HA := fun w' => isAsk_f who node mode w' (fun h2 => h ⟨h1, h2⟩)
  clear h1 h
  go_enter Tryd.func67, Tryd.ntmps67
  go_wp2_with fail
  refine HC.out.mono ?_
  rintro e w1 ⟨rfl, hb1⟩
  go_wp2_with (go_at_call 69; refine (HA _).mono ?_; rintro e w3 ⟨rfl, rfl⟩)
  go_ret
  exact ⟨rfl, hb1⟩
/-- Whatever the arguments: a list that reads as the locks. -/
def LksR (w : World) (l : List Lk) (e : Ending) (w' : World) : Prop := ∃ A m c, e = .returned (.slice A m c) ∧ m ≤ c ∧ Rd cL 3 w' w.heap.size A m l ∧ Below w.heap.size w w'
theorem LocksFor_any (lo : Nat) (A : Option Addr) (n c : Nat) (t : List Nd) (who node mode : Int) (w : World) (hr : Rd cN 3 w lo A n t) (hc : n ≤ c) :
    Calls Tryd.prog 67 #[.slice A n c, .int .i64 who, .int .i64 node, .int .i64 mode] w (LksR w (lksF t who node mode)) := by
  by_cases h : IsNd t node ∧ OkAsk who node mode
  · rw [lksF_yes h.1 h.2]
    refine (LocksFor_t lo A n c t who node mode w hr hc h.1 h.2).mono ?_
    rintro e w1 ⟨v, rfl, ho, hb⟩
    obtain ⟨A', m, c', rfl, hmc, hrd⟩ := ho.rdn elL.len (by have := lkF_len (who := who) (mode := mode) h.1; omega)
    exact ⟨A', m, c', rfl, hmc, hrd, hb⟩
  · rw [lksF_no h]
    refine (LocksFor_f lo A n c t who node mode w hr hc h).mono ?_
    rintro e w1 ⟨rfl, hb⟩
    exact ⟨none, 0, 0, rfl, Nat.le_refl _, Rd.nil, hb⟩


end Go.Proofs.YtgpocjehiohimaaDoor
