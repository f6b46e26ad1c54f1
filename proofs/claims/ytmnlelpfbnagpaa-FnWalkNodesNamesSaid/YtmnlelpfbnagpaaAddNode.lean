/- The walk over the reference's AddNode. -/
import Derived.Test.YtmnlelpfbnagpaaElems
namespace Go.Proofs.Ytmnlelpfbnagpaa
open Go.RowKit

/-- What AddNode gives: the longer tree, if both are valid. -/
noncomputable def addOk (t : List Nd) (x : Nd) : Bool := vt t && vt (t ++ [x])

def AddP (w : World) (t : List Nd) (x : Nd) (e : Ending) (w' : World) : Prop :=
  Below w.heap.size w w' ∧ ((addOk t x = true ∧ ∃ out, e = .returned (.tuple #[out, .int .i64 t.length, .bool true]) ∧ Own cN 3 44 w' w.heap.size out (t ++ [x])) ∨
    (addOk t x = false ∧ e = .returned (.tuple #[.slice none 0 0, .int .i64 (-1), .bool false])))

theorem len_lt_of_addOk {t : List Nd} {x : Nd} (h : addOk t x = true) : t.length < 12 := by
  simp only [addOk, Bool.and_eq_true] at h
  have := (VT_of h.2).2.1
  simp at this; omega

theorem AddNodeS_any (lo : Nat) (A : Option Addr) (n c : Nat) (t : List Nd) (p : Int) (s : ByteArray) (v : Int) (w : World) (hr : Rd cN 3 w lo A n t) (hc : n ≤ c) (hz : NmB t) (hs : s.size ≤ 1000000000000) :
    Calls Try.prog 21 #[.slice A n c, .int .i64 p, .string s, .int .i64 v] w (AddP w t ⟨p, s, v⟩) := by
  have hl := hr.len
  have HN := Lib.hid hl
  by_cases h1 : vt t = false
  · have HF : Hid (addOk t ⟨p, s, v⟩ = false) := by show _ = _; simp [addOk, h1]
    go_enter Try.func21, Try.ntmps21
    go_wp2_with fail
    refine (validTree_any lo A n c t _ hr hc hz).mono ?_
    rintro e w1 ⟨rfl, hb1⟩
    rw [h1]
    go_wp2_with fail
    go_ret3
    exact ⟨hb1, .inr ⟨HF.out, rfl⟩⟩
  have h1' : vt t = true := by simpa using h1
  have hv := VT_of h1'
  by_cases h2 : n = 12
  · have HF : Hid (addOk t ⟨p, s, v⟩ = false) := by
      show _ = _
      rw [Bool.eq_false_iff]
      intro h
      have := len_lt_of_addOk h
      omega
    have h3 : (n : Int) = 12 := by omega
    clear h2
    go_enter Try.func21, Try.ntmps21
    go_wp2_with fail
    refine (validTree_any lo A n c t _ hr hc hz).mono ?_
    rintro e w1 ⟨rfl, hb1⟩
    rw [h1']
    go_wp2_with fail
    go_ret3
    exact ⟨hb1, .inr ⟨HF.out, rfl⟩⟩
  have h3 : ((n : Int) == 12) = false := by simp; omega
  have hn12 : n ≤ 12 := by have := hv.2.1; omega
  clear h2
  go_enter Try.func21, Try.ntmps21
  go_wp2_with fail
  refine (validTree_any lo A n c t _ hr hc hz).mono ?_
  rintro e w1 ⟨rfl, hb1⟩
  rw [h1']
  have hs1 := hb1.size
  go_wp2_with (first
    | (at_builtin; refine (wpList_append_rd elN _ rfl (.tmp 20) (.tmp 21) rfl rfl (Own.empty w1 (fun _ => rfl)) rfl ((hr.below hb1).alloc _) (by simp; omega) (by simp) ?_); intro v2 w2 ho2 hg2 _)
    | (at_builtin; refine (wpList_append_rd elN _ rfl (.tmp 22) (.tmp 27) rfl rfl (ho2.alloc _) rfl (Rd_one w2 _ _ ⟨p, s, v⟩ rfl) (by simp; omega) (by have := hg2.size; simp at this ⊢; omega) ?_); intro v3 w3 ho3 hg3 _))
  have hbw2 : Below w.heap.size w w2 := below_own (hb1.alloc hs1 _) (Own.empty (cs := cN) (sz := 3) (e := 44) w1 (fun _ => rfl)) hg2 hs1 (by simp; omega)
  have hbw3 : Below w.heap.size w w3 := below_own (hbw2.alloc hbw2.size _) (ho2.alloc _) hg3 hs1 (by have := hbw2.size; simp; omega)
  have ho4 : Own cN 3 44 w3 w.heap.size v3 (t ++ [⟨p, s, v⟩]) := by
    have := ho3.low hs1
    simpa using this
  obtain ⟨A4, m4, c4, rfl, hc4, hr4⟩ := ho4.rdn (fun _ => rfl) (by simp; omega)
  have hz4 : NmB (t ++ [⟨p, s, v⟩]) := by
    intro i x hx
    rcases Nat.lt_or_ge i t.length with h | h
    · rw [List.getElem?_append_left h] at hx; exact hz i x hx
    · rw [List.getElem?_append_right h] at hx
      have := List.mem_of_getElem? hx
      simp only [List.mem_cons, List.not_mem_nil, or_false] at this
      subst this; exact hs
  have HO := Lib.hid ho4
  clear ho2 ho3 hg2 hg3 hr ho4
  refine (validTree_any _ _ _ _ _ _ hr4 hc4 hz4).mono ?_
  rintro e w4 ⟨rfl, hb4⟩
  have hbw4 : Below w.heap.size w w4 := hbw3.trans (hb4.mono hbw3.size)
  have HO4 := Lib.hid (HO.out.below hb4)
  by_cases h5 : vt (t ++ [⟨p, s, v⟩]) = true
  · rw [h5]
    have HT : Hid (addOk t ⟨p, s, v⟩ = true) := by show _ = _; simp [addOk, h1', h5]
    go_wp2_with fail
    go_ret3
    exact ⟨hbw4, .inl ⟨HT.out, _, by rw [HN.out]; rfl, HO4.out⟩⟩
  · have h6 : vt (t ++ [⟨p, s, v⟩]) = false := by simpa using h5
    rw [h6]
    have HT : Hid (addOk t ⟨p, s, v⟩ = false) := by show _ = _; simp [addOk, h6]
    go_wp2_with fail
    go_ret3
    exact ⟨hbw4, .inr ⟨HT.out, rfl⟩⟩
end Go.Proofs.Ytmnlelpfbnagpaa
