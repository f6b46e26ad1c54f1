/- The walks over WalkNodes and over the reference's kids. -/
import Derived.Test.YtmnlelpfbnagpaaWalkW2
import Derived.Test.YtmnlelpfbnagpaaPathW
namespace Go.Proofs.Ytmnlelpfbnagpaa
open Go.RowKit

theorem Rd.blk {lo n c : Nat} {A : Option Addr} {t : List Nd} {w : World} (h : Rd cN 3 w lo A n t) (hn : 0 < n) (_ : n ≤ c) : ∀ q, A = some q → q.block < w.heap.size := by
  intro q hq
  obtain ⟨b, o, e, _, hlt, _⟩ := h.2.2 hn
  rw [hq] at e
  injection e with e
  rw [e]; exact hlt
theorem WalkNodes_f (lo : Nat) (A : Option Addr) (n c : Nat) (t : List Nd) (a : Int) (w : World) (hr : Rd cN 3 w lo A n t) (hc : n ≤ c) (h : ¬ IsNd t a) :
    Calls Try.prog 26 #[.slice A n c, .int .i64 a] w fun e w' => e = .returned (.slice none 0 0) ∧ Below w.heap.size w w' := by
  have HC := Lib.hid (isNode_f lo A n c t a w hr hc h)
  clear h
  go_enter Try.func26, Try.ntmps26
  go_wp2_with fail
  refine HC.out.mono ?_
  rintro e w1 ⟨rfl, hb1⟩
  go_wp2_with fail
  go_ret
  exact ⟨rfl, hb1⟩
theorem WalkNodes_t (lo : Nat) (A : Option Addr) (n c : Nat) (t : List Nd) (a : Nat) (w : World) (hr : Rd cN 3 w lo A n t) (hc : n ≤ c) (h : IsNd t (a : Int)) :
    Calls Try.prog 26 #[.slice A n c, .int .i64 (a : Int)] w (IntsP w (wkI t (a : Int))) := by
  have HC := Lib.hid (isNode_t lo A n c t a w hr hc h)
  have HN : Hid (t.length = n) := hr.len
  have han : a < n := by have := h.2.2; have := HN.out; omega
  have hle := wk_le h.1 h.2.1 h.2.2
  have h12 := h.1.2.1
  have HW : Hid (∀ w1, Below w.heap.size w w1 → Calls Try.prog 58 #[.slice A n c, .int .i64 (a : Int), .slice none 0 0] w1 (WalkP w1 w.heap.size (.slice none 0 0) ([] ++ wkI t (a : Int)))) := by
    intro w1 hb
    exact walkFrom_any lo A n c t h.1 hc HN.out n a _ [] w.heap.size w1 (by omega) han (hr.below hb) (hr.blk (by omega) hc) hb.size (Own.nil _ _) (by simp; omega)
  clear h hle h12
  go_enter Try.func26, Try.ntmps26
  go_wp2_with fail
  refine HC.out.mono ?_
  rintro e w1 ⟨rfl, hb1⟩
  go_wp2_with fail
  refine (HW.out _ hb1).mono ?_
  rintro e w2 ⟨v2, rfl, ho2, hap⟩
  have HB := Lib.hid (hb1.trans (hap.below (Own.nil w1 w.heap.size) (Nat.le_refl _) hb1.size))
  have HO := Lib.hid ho2
  clear ho2 hap
  go_wp2_with fail
  go_ret
  exact ⟨v2, rfl, HO.out, HB.out⟩
set_option maxHeartbeats 1000000 in
theorem kidsS_any (lo : Nat) (A : Option Addr) (n c : Nat) (t : List Nd) (a : Int) (w : World) (hr : Rd cN 3 w lo A n t) (hv : VT t) (h0 : 0 ≤ a) :
    Calls Try.prog 71 #[.slice A n c, .int .i64 a] w (IntsP w (kidsF t a)) := by
  have HN : Hid (t.length = n) := hr.len
  have hn1 : 1 ≤ n := by have := hv.1; have := HN.out; omega
  have hn12 : n ≤ 12 := by have := hv.2.1; have := HN.out; omega
  have HK1 : Hid (kdK t a 1 = []) := by
    show _ = _
    have hl : 0 < t.length := hv.1
    have hx : t[0]? = some t[0] := List.getElem?_eq_getElem hl
    have := hv.par0 hx
    rw [show (1 : Nat) = 0 + 1 from rfl, kdK_f hx (by omega)]
    rfl
  clear hv
  go_enter Try.func71, Try.ntmps71
  go_wp2_with fail
  go_loopw [5, 6] (fun v i wr => ∃ k : Nat, 1 ≤ k ∧ k ≤ n ∧ i = .int .i64 k ∧ Below w.heap.size w wr ∧ Own cI 1 3 wr w.heap.size v (kdK t a k)) (fun _ i _ => n - (intOf i).toNat)
  case atStart => exact ⟨1, Nat.le_refl _, hn1, rfl, (Below.refl _ _).alloc (Nat.le_refl _) _, by rw [HK1.out]; exact Own.empty w elI.len⟩
  case round =>
    rename World => W1
    obtain ⟨k, hk1, hk, rfl, hbl, ho7⟩ := hrel
    have hs7 := hbl.size
    have hkl := kdK_len t a k
    by_cases hlt : k < n
    · obtain ⟨b, o, x, rfl, _, hb, hx, g0, g1, g2⟩ := (hr.below hbl).atN hlt
      by_cases hp : x.par = a
      · have HK := Lib.hid (kdK_t hx hp)
        have hp' : (x.par == a) = true := by simpa using hp
        clear hx hp
        go_wp2_with (at_builtin; refine wpList_append_rd elI _ rfl (.tmp 21) (.tmp 23) rfl rfl (ho7.alloc _) rfl (Rd_one W1 #[.int .i64 (k : Int)] 3 (k : Int) rfl) (by omega) (by simp; omega) ?_; intro v5 w5 ho5 hg5 _)
        have hb5 := below_own (hbl.alloc hs7 _) (ho7.alloc (.cells #[.int .i64 (k : Int)] 3)) hg5 (Nat.le_refl _) (by simp; omega)
        go_roundw
        case rel => exact ⟨k + 1, by omega, by omega, by go_num, hb5, by rw [HK.out]; exact ho5⟩
        case measure => simp [intOf]; omega
      · have HK := Lib.hid (kdK_f hx hp)
        have hp' : (x.par == a) = false := by simpa using hp
        clear hx hp
        go_wp2_with fail
        go_roundw
        case rel => exact ⟨k + 1, by omega, by omega, by go_num, hbl, by rw [HK.out]; exact ho7⟩
        case measure => simp [intOf]; omega
    · have hkn : k = n := by omega
      have HK : Hid (kdK t a k = kidsF t a) := by show _ = _; rw [hkn]; exact kdK_all HN.out
      have HO := Lib.hid ho7
      clear hkn ho7
      go_wp2_with fail
      go_ret
      exact ⟨_, rfl, by rw [← HK.out]; exact HO.out, hbl⟩
end Go.Proofs.Ytmnlelpfbnagpaa
