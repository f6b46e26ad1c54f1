/- The walks over DrawResolvePath, DrawPathText, DrawDropNode, DrawAddNode. -/
import Derived.Test.YtmnlelpfbnagpaaDrawC
import Derived.Test.YtmnlelpfbnagpaaPathS
namespace Go.Proofs.Ytmnlelpfbnagpaa
open Go.RowKit

/-- A tree and a node are drawn. -/
def TAtP (w : World) (e : Ending) (w' : World) : Prop := ∃ (A : Option Addr) (n c : Nat) (t : List Nd) (a : Int),
  e = .returned (.tuple #[.slice A n c, .int .i64 a]) ∧ n ≤ c ∧ Rd cN 3 w' w.heap.size A n t ∧ n ≤ 13 ∧ NmB t ∧ Below w.heap.size w w'
theorem DrawDropNode_any (A : Option Addr) (n c : Nat) (zs : List Int) (w : World) (hr : Rd cB 1 w 0 A n zs) (hc : n ≤ c) (hz : ∀ (k : Nat) (z : Int), zs[k]? = some z → 0 ≤ z ∧ z ≤ 255) :
    Calls Try.prog 23 #[.slice A n c] w (TAtP w) := by
  go_enter Try.func23, Try.ntmps23
  go_wp2_with fail
  refine (newReader_any A n c zs _ hr hc hz).mono ?_
  rintro e w1 ⟨rfl, hr1, hb1⟩
  have hs1 := hr1.lt
  clear hr hz
  go_wp2_with fail
  refine (anyTree_any _ 0 _ hr1 (by omega)).mono ?_
  rintro e w2 ⟨A2, n2, c2, t, rfl, hc2, hrd2, hn2, hz2, ⟨p2, hp2, hr2⟩, hg2⟩
  go_wp2_with fail
  refine (someAt_any _ p2 A2 n2 c2 _ hr2 (by omega) (by omega)).mono ?_
  rintro e w3 ⟨x, rfl, ⟨p3, hp3, hr3⟩, hg3⟩
  have hbw := below_of_grown hb1 (grown_trans hg2 hg3) (Nat.le_refl _)
  have H1 := Lib.hid ((hrd2.grown hg3 hs1).low (lo' := w.heap.size) hb1.size)
  clear hrd2
  go_wp2_with fail
  refine bodyPost_ret (v := .tuple #[.slice A2 n2 c2, .int .i64 x]) (by simp [results, Try.results23, go_sem]) rfl ?_
  exact ⟨A2, n2, c2, t, x, rfl, hc2, H1.out, hn2, hz2, hbw⟩
theorem DrawPathText_any (A : Option Addr) (n c : Nat) (zs : List Int) (w : World) (hr : Rd cB 1 w 0 A n zs) (hc : n ≤ c) (hz : ∀ (k : Nat) (z : Int), zs[k]? = some z → 0 ≤ z ∧ z ≤ 255) :
    Calls Try.prog 16 #[.slice A n c] w (TAtP w) := by
  go_enter Try.func16, Try.ntmps16
  go_wp2_with fail
  refine (DrawDropNode_any A n c zs _ hr hc hz).mono ?_
  rintro e w1 ⟨A2, n2, c2, t, x, rfl, hc2, h2, hn2, hz2, hb⟩
  go_wp2_with fail
  refine bodyPost_ret (v := .tuple #[.slice A2 n2 c2, .int .i64 x]) (by simp [results, Try.results16, go_sem]) rfl ?_
  exact ⟨A2, n2, c2, t, x, rfl, hc2, h2, hn2, hz2, hb⟩
/-- A tree, where, a name, a value are drawn. -/
def TAddP (w : World) (e : Ending) (w' : World) : Prop := ∃ (A : Option Addr) (n c : Nat) (t : List Nd) (a : Int) (s : ByteArray) (v : Int),
  e = .returned (.tuple #[.slice A n c, .int .i64 a, .string s, .int .i64 v]) ∧ n ≤ c ∧ Rd cN 3 w' w.heap.size A n t ∧ n ≤ 13 ∧ NmB t ∧ s.size ≤ 1000 ∧ Below w.heap.size w w'
set_option maxHeartbeats 1000000 in
theorem DrawAddNode_any (A : Option Addr) (n c : Nat) (zs : List Int) (w : World) (hr : Rd cB 1 w 0 A n zs) (hc : n ≤ c) (hz : ∀ (k : Nat) (z : Int), zs[k]? = some z → 0 ≤ z ∧ z ≤ 255) :
    Calls Try.prog 19 #[.slice A n c] w (TAddP w) := by
  go_enter Try.func19, Try.ntmps19
  go_wp2_with fail
  refine (newReader_any A n c zs _ hr hc hz).mono ?_
  rintro e w1 ⟨rfl, hr1, hb1⟩
  have hs1 := hr1.lt
  clear hr hz
  go_wp2_with fail
  refine (anyTree_any _ 0 _ hr1 (by omega)).mono ?_
  rintro e w2 ⟨A2, n2, c2, t, rfl, hc2, hrd2, hn2, hz2, ⟨p2, hp2, hr2⟩, hg2⟩
  go_wp2_with fail
  refine (someAt_any _ p2 A2 n2 c2 _ hr2 (by omega) (by omega)).mono ?_
  rintro e w3 ⟨a, rfl, ⟨p3, hp3, hr3⟩, hg3⟩
  go_wp2_with fail
  refine (someName_any _ p3 _ hr3 (by omega)).mono ?_
  rintro e w4 ⟨s, rfl, hs, ⟨p4, hp4, hr4⟩, hg4⟩
  go_wp2_with fail
  refine (pick_any _ p4 12 _ hr4 (by omega) (by omega)).mono ?_
  rintro e w5 ⟨x, rfl, _, _, _, hr5, hg5⟩
  have hg35 := grown_trans hg3 (grown_trans hg4 hg5)
  clear hg3 hg4 hg5 hr2 hr3 hr4
  by_cases h0 : x = 0
  · subst h0
    go_wp2_with fail
    refine (of_any _ (p4 + 1) _ _ 3 3 [⟨#[]⟩, ⟨#[65]⟩, ⟨#[97, 98, 99, 100, 101]⟩] _ (hr5.alloc _) (by omega) (Rd_newT w5 _ _ _ (by simp) rfl) (by have := hr5.lt; omega) (by omega)).mono ?_
    rintro e w6 ⟨s2, rfl, ⟨k, hk⟩, hr6, hg6⟩
    have hs2 : s2.size ≤ 1000 := by
      have hm := List.mem_of_getElem? hk
      simp only [List.mem_cons, List.not_mem_nil, or_false] at hm
      rcases hm with h | h | h <;> subst h <;> decide
    have hg56 := grown_trans (grown_of_below (row := some w.heap.size) ((Below.refl _ _).alloc (Nat.le_refl _) _)) hg6
    clear hk
    go_wp2_with fail
    refine (one_any _ (p4 + 2) _ _ 5 5 [0, 7, -7, 1000, 1001] _ (hr6.alloc _) (by omega) (Rd_newI w6 _ _ _ (by simp) rfl) (by have := hr6.lt; omega) (by omega)).mono ?_
    rintro e w8 ⟨z, rfl, _, hr8, hg8⟩
    have hg68 := grown_trans (grown_trans hg35 hg56) (grown_trans (grown_of_below (row := some w.heap.size) ((Below.refl _ _).alloc (Nat.le_refl _) _)) hg8)
    have hbw := below_of_grown hb1 (grown_trans hg2 hg68) (Nat.le_refl _)
    have H1 := Lib.hid ((hrd2.grown hg68 hs1).low (lo' := w.heap.size) hb1.size)
    clear hrd2
    go_wp2_with fail
    refine bodyPost_ret (v := .tuple #[.slice A2 n2 c2, .int .i64 a, .string s2, .int .i64 z]) (by simp [results, Try.results19, go_sem]) rfl ?_
    exact ⟨A2, n2, c2, t, a, s2, z, rfl, hc2, H1.out, hn2, hz2, hs2, hbw⟩
  · have h0' : (x == 0) = false := by simpa using h0
    clear h0
    go_wp2_with fail
    refine (one_any _ (p4 + 1) _ _ 5 5 [0, 7, -7, 1000, 1001] _ (hr5.alloc _) (by omega) (Rd_newI w5 _ _ _ (by simp) rfl) (by have := hr5.lt; omega) (by omega)).mono ?_
    rintro e w8 ⟨z, rfl, _, hr8, hg8⟩
    have hg68 := grown_trans hg35 (grown_trans (grown_of_below (row := some w.heap.size) ((Below.refl _ _).alloc (Nat.le_refl _) _)) hg8)
    have hbw := below_of_grown hb1 (grown_trans hg2 hg68) (Nat.le_refl _)
    have H1 := Lib.hid ((hrd2.grown hg68 hs1).low (lo' := w.heap.size) hb1.size)
    clear hrd2
    go_wp2_with fail
    refine bodyPost_ret (v := .tuple #[.slice A2 n2 c2, .int .i64 a, .string s, .int .i64 z]) (by simp [results, Try.results19, go_sem]) rfl ?_
    exact ⟨A2, n2, c2, t, a, s, z, rfl, hc2, H1.out, hn2, hz2, hs, hbw⟩
theorem ba_size (l : List UInt8) : (⟨l.toArray⟩ : ByteArray).size = l.length := by rw [Lib.size_eq]
set_option maxHeartbeats 1000000 in
theorem somePath_any (R p lo : Nat) (A : Option Addr) (n c : Nat) (t : List Nd) (w : World) (hr : Rdr w R p) (hp : p ≤ 900000000) (hrd : Rd cN 3 w lo A n t) (hlo : R < lo) (hc : n ≤ c) (hn : n ≤ 13) (hz : NmB t) :
    Calls Try.prog 35 #[.pointer (some ⟨R, 0, none⟩), .slice A n c] w (NameP w R p 3) := by
  have hRl := hr.lt
  have HNX : Hid (t.length = n) := hrd.len
  have HL : Hid (∀ (W : World) (q : Nat), Rdr W R q → q ≤ p + 1 → Calls Try.prog 52 #[.pointer (some ⟨R, 0, none⟩), .slice (some ⟨W.heap.size, 0, none⟩) 9 9] (W.alloc (.cells #[.string ⟨#[47]⟩, .string ⟨#[47, 97]⟩, .string ⟨#[47, 97, 47, 98]⟩, .string ⟨#[]⟩, .string ⟨#[97]⟩, .string ⟨#[47, 120, 47]⟩, .string ⟨#[47, 47]⟩, .string ⟨#[47, 98, 47, 99]⟩, .string ⟨#[47, 113]⟩] 9)) (NameP W R q 1)) := by
    intro W q hq hqp
    refine (of_any R q _ _ 9 9 [⟨#[47]⟩, ⟨#[47, 97]⟩, ⟨#[47, 97, 47, 98]⟩, ⟨#[]⟩, ⟨#[97]⟩, ⟨#[47, 120, 47]⟩, ⟨#[47, 47]⟩, ⟨#[47, 98, 47, 99]⟩, ⟨#[47, 113]⟩] _ (hq.alloc _) (by omega) (Rd_newT W _ _ _ (by simp) rfl) (by have := hq.lt; omega) (by omega)).mono ?_
    rintro e w1 ⟨x, rfl, ⟨k, hk⟩, hr1, hg1⟩
    refine ⟨x, rfl, ?_, ⟨q + 1, by omega, hr1⟩, grown_trans (grown_of_below ((Below.refl _ _).alloc (Nat.le_refl _) _)) hg1⟩
    have hm := List.mem_of_getElem? hk
    simp only [List.mem_cons, List.not_mem_nil, or_false] at hm
    rcases hm with h | h | h | h | h | h | h | h | h <;> subst h <;> decide
  by_cases h0 : 0 < n
  case neg =>
    have e0 : n = 0 := by omega
    subst e0
    clear h0
    go_enter Try.func35, Try.ntmps35
    go_wp2_with fail
    refine (HL.out _ _ hr (by omega)).mono ?_
    rintro e w1 ⟨x, rfl, hx, hA⟩
    have HA := Lib.hid hA
    clear hA
    go_wp2_with fail
    go_ret
    exact ⟨x, rfl, hx, HA.out.1.imp (fun p' h => ⟨by omega, h.2⟩), HA.out.2⟩
  by_cases hv : VT t
  case neg =>
    have HC := Lib.hid (validTree_f lo A n c t w hrd hc hz hv)
    clear hv
    go_enter Try.func35, Try.ntmps35
    go_wp2_with fail
    refine HC.out.mono ?_
    rintro e w0 ⟨rfl, hb0⟩
    have hr0 := hr.below hb0
    go_wp2_with fail
    refine (HL.out _ _ hr0 (by omega)).mono ?_
    rintro e w1 ⟨x, rfl, hx, hA⟩
    have HA := Lib.hid hA
    have HG := Lib.hid (grown_trans (grown_of_below hb0) hA.2)
    clear hA
    go_wp2_with fail
    go_ret
    exact ⟨x, rfl, hx, HA.out.1.imp (fun p' h => ⟨by omega, h.2⟩), HG.out⟩
  have HC := Lib.hid (validTree_t lo A n c t w hrd hc hz hv)
  have HV := Lib.hid hv
  clear hv
  go_enter Try.func35, Try.ntmps35
  go_wp2_with fail
  refine HC.out.mono ?_
  rintro e w0 ⟨rfl, hb0⟩
  have hr0 := hr.below hb0
  have hrd0 := hrd.below hb0
  go_wp2_with fail
  refine (pick_any R p 3 _ hr0 (by omega) (by omega)).mono ?_
  rintro e w1 ⟨x, rfl, hx0, _, _, hr1, hg1⟩
  have hG1 := grown_trans (grown_of_below hb0) hg1
  have hrd1 := hrd0.grown hg1 hlo
  by_cases h1 : 0 < x
  case neg =>
    go_wp2_with fail
    refine (HL.out _ _ hr1 (by omega)).mono ?_
    rintro e w2 ⟨y, rfl, hy, hA⟩
    have HA := Lib.hid hA
    have HG := Lib.hid (grown_trans hG1 hA.2)
    clear hA
    go_wp2_with fail
    go_ret
    exact ⟨y, rfl, hy, HA.out.1.imp (fun p' h => ⟨by omega, h.2⟩), HG.out⟩
  go_wp2_with fail
  refine (pick_any R (p + 1) n _ hr1 (by omega) (by omega)).mono ?_
  rintro e w2 ⟨y, rfl, hy0, _, hy2, hr2, hg2⟩
  have hyn := hy2 (by omega)
  have hrd2 := hrd1.grown hg2 hlo
  have hd : IsNd t y := ⟨HV.out, hy0, by rw [HNX.out]; omega⟩
  have HP := Lib.hid (pathTextS_any lo A n c t y _ hrd2 hd)
  have HSZ := Lib.hid (ptL_len hd)
  have hG2 := grown_trans hG1 hg2
  clear hd hy2
  go_wp2_with fail
  refine HP.out.mono ?_
  rintro e w3 ⟨rfl, hb3⟩
  have HA : Hid (Adv w R p 3 w3) := ⟨⟨p + 2, by omega, hr2.below hb3⟩, grown_below hG2 hb3⟩
  go_wp2_with fail
  go_ret
  exact ⟨_, rfl, by rw [ba_size]; have := HSZ.out; omega, HA.out⟩
/-- A tree and a path are drawn. -/
def TPthP (w : World) (e : Ending) (w' : World) : Prop := ∃ (A : Option Addr) (n c : Nat) (t : List Nd) (s : ByteArray),
  e = .returned (.tuple #[.slice A n c, .string s]) ∧ n ≤ c ∧ Rd cN 3 w' w.heap.size A n t ∧ n ≤ 13 ∧ NmB t ∧ s.size ≤ 1000 ∧ Below w.heap.size w w'
theorem DrawResolvePath_any (A : Option Addr) (n c : Nat) (zs : List Int) (w : World) (hr : Rd cB 1 w 0 A n zs) (hc : n ≤ c) (hz : ∀ (k : Nat) (z : Int), zs[k]? = some z → 0 ≤ z ∧ z ≤ 255) :
    Calls Try.prog 12 #[.slice A n c] w (TPthP w) := by
  go_enter Try.func12, Try.ntmps12
  go_wp2_with fail
  refine (newReader_any A n c zs _ hr hc hz).mono ?_
  rintro e w1 ⟨rfl, hr1, hb1⟩
  have hs1 := hr1.lt
  clear hr hz
  go_wp2_with fail
  refine (anyTree_any _ 0 _ hr1 (by omega)).mono ?_
  rintro e w2 ⟨A2, n2, c2, t, rfl, hc2, hrd2, hn2, hz2, ⟨p2, hp2, hr2⟩, hg2⟩
  go_wp2_with fail
  refine (somePath_any _ p2 _ A2 n2 c2 t _ hr2 (by omega) hrd2 hs1 hc2 hn2 hz2).mono ?_
  rintro e w3 ⟨x, rfl, hx, ⟨p3, hp3, hr3⟩, hg3⟩
  have hbw := below_of_grown hb1 (grown_trans hg2 hg3) (Nat.le_refl _)
  have H1 := Lib.hid ((hrd2.grown hg3 hs1).low (lo' := w.heap.size) hb1.size)
  clear hrd2
  go_wp2_with fail
  refine bodyPost_ret (v := .tuple #[.slice A2 n2 c2, .string x]) (by simp [results, Try.results12, go_sem]) rfl ?_
  exact ⟨A2, n2, c2, t, x, rfl, hc2, H1.out, hn2, hz2, hx, hbw⟩
end Go.Proofs.Ytmnlelpfbnagpaa
