/- The walks over grains, the reference's: locksFor, LocksFor, mayRead, mayWrite, MayRead, MayWrite, GrainFault. -/
import Derived.Test.YtgpocjehiohimaaDoorGrainW
import Derived.Test.YtgpocjehiohimaaDoorTabS
import Derived.Deep.RegionHeld3
namespace Go.Proofs.YtgpocjehiohimaaDoor
open Go.RowKit

theorem take_snocI' {l : List Int} {k : Nat} {x : Int} (h : l[k]? = some x) (f : Int → Lk) : (l.take (k + 1)).map f = (l.take k).map f ++ [f x] := by
  rw [take_snoc h, List.map_append]; rfl

set_option maxRecDepth 100000 in
set_option maxHeartbeats 1000000 in
theorem locksForS_t (lo : Nat) (A : Option Addr) (n c : Nat) (t : List Nd) (who node mode : Int) (w : World) (hr : Rd cN 3 w lo A n t) (h1 : IsNd t node) (hm : IsM mode) :
    Calls Tryd.prog 45 #[.slice A n c, .int .i64 who, .int .i64 node, .int .i64 mode] w (LksP w (lkF t who node mode)) := by
  have HN := Lib.hid h1
  have HM := Lib.hid hm
  have HPL := Lib.hid h1.path_len
  have hW := (Below.refl w.heap.size w).alloc (Nat.le_refl _) (.cells #[] 67)
  clear h1 hm
  go_enter Tryd.func45, Tryd.ntmps45
  go_wp2_with fail
  refine (pathTo_any lo A n c t node _ (hr.alloc _) HN.out).mono ?_
  rintro e w2 ⟨v2, rfl, ho2, hb2⟩
  have hB2 := hW.trans (hb2.mono hW.size)
  have hs2 := hB2.size
  obtain ⟨g, m, cap, rfl, hgb, hgl, hmc, hm⟩ := ho2.form HPL.out.2
  have hm5 : m ≤ 5 := by rw [hm]; exact HPL.out.1
  obtain ⟨q, rfl⟩ : ∃ q, m = q + 1 := ⟨m - 1, by have := HPL.out.2; omega⟩
  obtain ⟨_, hrd⟩ := ho2.rds elI.len (by have := HPL.out.1; omega)
  have hrt := hrd.take (k := q) (by omega)
  have HE : Hid ((pathL t node).take ((pathL t node).length - 1) = (pathL t node).take q) := by show _ = _; rw [← hm]; rfl
  generalize hP : (pathL t node).take q = P at *
  have hPl := hrt.len
  have hgs : w.heap.size < g := by have := hW.size; simp at hgb; omega
  have HPL2 := Lib.hid hPl
  have hol := ((Own.empty (cs := cL) (e := 67) w elL.len).below hb2)
  clear hb2 ho2 hrd hP hm hPl hW hgb
  go_wp2_with fail
  go_loopw [9, 11] (fun v i wr => ∃ k : Nat, k ≤ q ∧ i = .int .i64 k ∧ Below w.heap.size w wr ∧ Rd cI 1 wr g (some ⟨g, 0, none⟩) q P ∧ Own cL 3 67 wr w.heap.size v ((P.take k).map fun a => (⟨who, a, needF mode⟩ : Lk)) ∧ v.ownBlock ≠ some g) (fun _ i _ => q - (intOf i).toNat)
  case atStart => exact ⟨0, Nat.zero_le _, rfl, hB2, ⟨hrt.1, hrt.2.1, fun h => by obtain ⟨b, o, e, _, r⟩ := hrt.2.2 h; simp only [Option.some.injEq, Addr.mk.injEq, and_true] at e; obtain ⟨rfl, rfl⟩ := e; exact ⟨g, 0, rfl, Nat.le_refl _, r⟩⟩, by simpa using hol, by simp [Value.ownBlock]; omega⟩
  case round =>
    rename World => W1
    obtain ⟨k, hk, rfl, hbl, hrp, ho, hob⟩ := hrel
    have hs := hbl.size
    have hlen : ((P.take k).map fun a => (⟨who, a, needF mode⟩ : Lk)).length ≤ 5 := by rw [List.length_map, List.length_take]; omega
    have hqk : (q : Int) + 1 = (q : Int) + 1 := rfl
    by_cases hlt : k < q
    case neg =>
      have e : k = q := by omega
      subst e
      have HT : Hid (P.take k = P) := List.take_of_length_le (by have := HPL2.out; omega)
      rw [HT.out] at ho hlen
      clear hqk
      go_wp2_with (at_builtin; refine wpList_append_rd elL _ rfl (.tmp 34) (.tmp 39) rfl rfl (ho.alloc _) rfl (Rd_one _ #[.int .i64 who, .int .i64 node, .int .i64 mode] 67 ⟨who, node, mode⟩ rfl) (by omega) (by simp; omega) ?_; intro v5 w5 ho5 hg5 _)
      have hb5 := below_own (hbl.alloc hs _) (ho.alloc (.cells #[.int .i64 who, .int .i64 node, .int .i64 mode] 67)) hg5 (Nat.le_refl _) (by simp; omega)
      go_ret
      exact ⟨_, rfl, by unfold lkF; rw [HE.out]; exact ho5, hb5⟩
    obtain ⟨b, o, x, hA, _, hb, hx, g0⟩ := hrp.atI (k := k) hlt
    simp only [Option.some.injEq, Addr.mk.injEq, and_true] at hA
    obtain ⟨rfl, rfl⟩ := hA
    simp only [Nat.zero_add] at g0
    have HS := Lib.hid (take_snocI' hx fun a => (⟨who, a, needF mode⟩ : Lk))
    have HNA := Lib.hid (needAbove_t mode)
    have hki : (k : Int) + 1 < (q : Int) + 1 := by omega
    have hkl : (k : Int) < (q : Int) + 1 := by omega
    have HGB : Hid (g < W1.heap.size) := hb
    clear hx hqk
    generalize needF mode = nm at *
    go_wp2_with fail
    go_region_held3 (fun w' => w'.cell? ⟨g, k, none⟩ = some (.int .i64 x)) (first | go_keep | exact (World.cell?_of_block (hg5.block g (by simp; have := HGB.out; omega) (by intro e; exact hob e.symm))).trans ((World.cell?_alloc_lt W1 _ _ HGB.out).trans g0))
      ((first
        | (refine step_append_rd elL _ rfl (.tmp 23) (.tmp 32) rfl rfl (ho.alloc (.cells #[.int .i64 who, .int .i64 x, .int .i64 nm] 67)).drew rfl (Rd_one W1 #[.int .i64 who, .int .i64 x, .int .i64 nm] 67 ⟨who, x, nm⟩ rfl).drew (by omega) (by simp; omega) ?_; intro v5 w5 ho5 hg5 hx5; have hb5 := below_own ((hbl.alloc hs (.cells #[.int .i64 who, .int .i64 x, .int .i64 nm] 67)).drew) (ho.alloc (.cells #[.int .i64 who, .int .i64 x, .int .i64 nm] 67)).drew hg5 (Nat.le_refl _) (by simp; omega))
        | (go_simp; go_at_call 65; refine (HNA.out _ HM.out).mono ?_; rintro e w5 ⟨rfl, rfl⟩)))
    have hrp5 := Rd.ne ((hrp.alloc (.cells #[.int .i64 who, .int .i64 x, .int .i64 nm] 67)).drew) hg5 (fun e => hob e.symm)
    have hob5 : v5.ownBlock ≠ some g := by
      rcases hx5 with h | h
      · rw [h]; exact hob
      · rw [h]
        intro e
        injection e with e
        have e' : (W1.alloc (.cells #[.int .i64 who, .int .i64 x, .int .i64 nm] 67)).heap.size = g := e
        rw [World.size_alloc] at e'
        omega
    clear hg5 hx5 hrp
    go_wp2_with fail
    go_roundw
    case rel => exact ⟨k + 1, by omega, by go_num, hb5, hrp5, by rw [HS.out]; exact ho5, hob5⟩
    case measure => simp [intOf]; omega

theorem any_rev {α : Type} (l : List α) (f : α → Bool) : l.reverse.any f = l.any f := by simp
theorem onP_rev (t : List Nd) (l : List Lk) (who mode node : Int) : onP t l who mode node = (pathL t node).any fun a => strF (heldF l who a) mode := by
  unfold onP pathL
  rw [any_rev]

end Go.Proofs.YtgpocjehiohimaaDoor
