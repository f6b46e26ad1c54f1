/- The walks over ValidTree and validTree. -/
import Derived.Test.YtmnlelpfbnagpaaTreeW
namespace Go.Proofs.Ytmnlelpfbnagpaa
open Go.RowKit

theorem validName_t (s : ByteArray) (w : World) (hz : s.size ≤ 1000000000000) (h : nmOk s = true) :
    Calls Try.prog 75 #[.string s] w fun e w' => e = .returned (.bool true) ∧ w = w' := by rw [← h]; exact validName_any s w hz
theorem validName_f (s : ByteArray) (w : World) (hz : s.size ≤ 1000000000000) (h : nmOk s = false) :
    Calls Try.prog 75 #[.string s] w fun e w' => e = .returned (.bool false) ∧ w = w' := by rw [← h]; exact validName_any s w hz
theorem isName_t (s : ByteArray) (w : World) (h : nmOk s = true) :
    Calls Try.prog 42 #[.string s] w fun e w' => e = .returned (.bool true) ∧ w = w' := by rw [← h]; exact isName_any s w
theorem isName_f (s : ByteArray) (w : World) (h : nmOk s = false) :
    Calls Try.prog 42 #[.string s] w fun e w' => e = .returned (.bool false) ∧ w = w' := by rw [← h]; exact isName_any s w

theorem OkTo.first {t : List Nd} {k : Nat} (h : OkTo t k) (hk : 1 ≤ k) : ∀ x, (t.take k)[0]? = some x → x.par = -1 := by
  intro x hx
  rw [List.getElem?_take, if_pos (by omega)] at hx
  exact ((h 0 x (by omega) hx).2.2.1 rfl).1

theorem validNode_t (lo : Nat) (A : Option Addr) (n c : Nat) (t : List Nd) (k : Nat) (x : Nd) (w : World) (hr : Rd cN 3 w lo A n t) (hk : k < n) (hc : n ≤ c) (hx : t[k]? = some x) (ht : OkTo t k) (ho : OkAt t k x) (hz : x.name.size ≤ 1000000000000) :
    Calls Try.prog 63 #[.slice A n c, .int .i64 k] w fun e w' => e = .returned (.bool true) ∧ Below w.heap.size w w' := by
  have hl := hr.len
  have hn := hr.le
  have hd : Desc t (k + 1) := (ht.succ hx ho).desc
  obtain ⟨b, o, y, rfl, _, hb, hy, g0, g1, g2⟩ := hr.atN hk
  rw [hx] at hy; injection hy with hy; subst hy
  obtain ⟨v1, v2, o0, o1⟩ := ho
  rcases Nat.eq_zero_or_pos k with rfl | hp
  · obtain ⟨p0, p1⟩ := o0 rfl
    rw [p0] at g0
    simp only [Nat.zero_mul, Nat.add_zero] at g0 g1 g2
    clear hd hx p0 o0 o1
    go_enter Try.func63, Try.ntmps63
    go_wp2_with (go_at_call 47; refine (inRange_t _ _ _ _ (by omega) (by omega)).mono ?_; rintro e w' ⟨rfl, rfl⟩)
    go_ret
    exact ⟨ret_bool (by simp), Below.refl _ _⟩
  · obtain ⟨p0, p1, p2, p3, p4⟩ := o1 hp
    rw [← kid_from1 p0 (ht.first hp)] at p3
    have HX := Lib.hid hx
    have HD := Lib.hid hd
    generalize hv : kidF ((t.take k).drop 1) x.par x.name 1 = v at p3
    generalize hq : dep t k = q at p4
    have HV := Lib.hid hv
    have HQ := Lib.hid hq
    clear hv hq o0 o1 hx hd ht
    have k0 := aft g0
    have k1 := aft g1
    have q4 : (q : Int) ≤ 4 := by omega
    have hkn : (k : Int) ≤ (n : Int) := by omega
    have hkc : (k : Int) ≤ (c : Int) := by omega
    have hkn' : (k : Int) < (n : Int) := by omega
    go_enter Try.func63, Try.ntmps63
    go_wp2_with (go_at_call 47; refine (inRange_t _ _ _ _ (by omega) (by omega)).mono ?_; rintro e w' ⟨rfl, rfl⟩)
    refine wp_region_after (by kernel_rfl) (by kernel_rfl) ?_
    repeat (go_big_quiet_step ((first
      | (go_at_call 47; exact aft_same (inRange_t _ _ _ _ (by omega) (by omega)))
      | (go_at_call 75; exact aft_same (validName_t _ _ hz p2))
      | (go_at_call 76; exact aft_same (kid_any lo _ k _ (t.take k) _ _ _ ((hr.take (by omega)).below (After.below _)) hp v HV.out))
      | (go_at_call 77; exact aft_same (depth_any lo _ n _ t k _ (hr.below (After.below _)) hk HD.out q HQ.out)))))
    refine wpQuiet_nil ?_
    intro w1 hb1
    go_wp2_with fail
    go_ret
    exact ⟨ret_bool (by simp), hb1⟩

end Go.Proofs.Ytmnlelpfbnagpaa
