/- The walks over slices.Clone at nodes and over AddNode. -/
import Derived.Test.YtmnlelpfbnagpaaAddNode
import Derived.Test.YtmnlelpfbnagpaaWords4
import Derived.Test.YtmnlelpfbnagpaaTreeV3
namespace Go.Proofs.Ytmnlelpfbnagpaa
open Go.RowKit

theorem eql_nilN {P : Program} {t e : TypeId} (h : P.underlying t = some (.slice e)) (a : Option Addr) (n c : Nat) (w : World) : (binOp .eql t (.slice a n c) (.slice none 0 0)).run P w = .ok (.bool a.isNone) w := by
  simp only [binOp]
  simp [Op.equal, Op.maxDepth, Lib.run_equalIn_slice_nil w 9999 t e a n c 0 0 h]
def CloneNP (w : World) (l : List Nd) (e : Ending) (w' : World) : Prop := ∃ v, e = .returned v ∧ Own cN 3 44 w' w.heap.size v l ∧ Below w.heap.size w w'
theorem CloneN_any (lo : Nat) (A : Option Addr) (n c : Nat) (l : List Nd) (w : World) (hr : Rd cN 3 w lo A n l) (hn : n ≤ 1000000) :
    Calls Try.prog 54 #[.slice A n c] w (CloneNP w l) := by
  have hl := hr.len
  cases A with
  | none =>
    have h0 : n = 0 := by
      rcases Nat.eq_zero_or_pos n with h | h
      · exact h
      · obtain ⟨b, o, h', _⟩ := hr.2.2 h
        cases h'
    subst h0
    have hl0 : l = [] := List.eq_nil_of_length_eq_zero hl
    subst hl0
    have hq := eql_nilN Try.underlying23 none 0 c
    go_enter Try.func54, Try.ntmps54
    go_wp2_with fail
    go_ret
    exact ⟨_, rfl, Own.nil _ _, Below.refl _ _⟩
  | some a =>
    have hq := eql_nilN Try.underlying23 (some a) n c
    clear hl
    go_enter Try.func54, Try.ntmps54
    go_wp2_with (at_builtin; refine wpList_append_rd elN _ rfl (.tmp 5) (.tmp 6) rfl rfl (Own.empty w elN.len) rfl (hr.alloc _) (by simp; omega) (by simp) ?_; intro v4 w4 ho4 hg4 _; have hb4 := below_own ((Below.refl w.heap.size w).alloc (Nat.le_refl _) _) (Own.empty (e := 44) w elN.len) hg4 (Nat.le_refl _) (by simp))
    go_ret
    exact ⟨_, rfl, ho4, hb4⟩
set_option maxHeartbeats 1000000 in
theorem AddNodeI_any (lo : Nat) (A : Option Addr) (n c : Nat) (t : List Nd) (p : Int) (s : ByteArray) (v : Int) (w : World) (hr : Rd cN 3 w lo A n t) (hc : n ≤ c) :
    Calls Try.prog 20 #[.slice A n c, .int .i64 p, .string s, .int .i64 v] w (AddP w t ⟨p, s, v⟩) := by
  have HN := Lib.hid hr.len
  by_cases h1 : vt t = false
  · have HF : Hid (addOk t ⟨p, s, v⟩ = false) := by show _ = _; simp [addOk, h1]
    go_enter Try.func20, Try.ntmps20
    go_wp2_with fail
    refine (ValidTree_any lo A n c t _ hr hc).mono ?_
    rintro e w1 ⟨rfl, hb1⟩
    rw [h1]
    go_wp2_with fail
    go_ret3
    exact ⟨hb1, .inr ⟨HF.out, rfl⟩⟩
  have h1' : vt t = true := by simpa using h1
  have hn12 : n ≤ 12 := by have := (VT_of h1').2.1; have := HN.out; omega
  have H1 := Lib.hid h1'
  clear h1 h1'
  go_enter Try.func20, Try.ntmps20
  go_wp2_with fail
  refine (ValidTree_any lo A n c t _ hr hc).mono ?_
  rintro e w1 ⟨rfl, hb1⟩
  rw [H1.out]
  have hs1 := hb1.size
  go_wp2_with fail
  refine (CloneN_any lo A n c t _ (hr.below hb1) (by omega)).mono ?_
  rintro e w2 ⟨v2, rfl, ho2, hb2⟩
  have hbw2 := hb1.trans (hb2.mono hs1)
  have hs2 := hb2.size
  go_wp2_with (at_builtin; refine wpList_append_rd elN _ rfl (.tmp 16) (.tmp 21) rfl rfl (ho2.alloc _) rfl (Rd_one _ #[.int .i64 p, .string s, .int .i64 v] 44 ⟨p, s, v⟩ rfl) (by rw [HN.out]; omega) (by have := hbw2.size; simp; omega) ?_; intro v3 w3 ho3 hg3 _)
  have hbw3 : Below w.heap.size w w3 := below_own (hbw2.alloc hbw2.size _) (ho2.alloc _) hg3 hs1 (by have := hbw2.size; simp; omega)
  have ho4 := ho3.low hs1
  obtain ⟨A4, m4, c4, rfl, hc4, hr4⟩ := ho4.rdn (fun _ => rfl) (by simp; rw [HN.out]; omega)
  have HO := Lib.hid ho4
  clear ho2 ho3 hg3 hr ho4
  go_wp2_with fail
  refine (ValidTree_any _ _ _ _ _ _ hr4 hc4).mono ?_
  rintro e w4 ⟨rfl, hb4⟩
  have hbw4 : Below w.heap.size w w4 := hbw3.trans (hb4.mono hbw3.size)
  have HO4 := Lib.hid (HO.out.below hb4)
  by_cases h5 : vt (t ++ [⟨p, s, v⟩]) = true
  · rw [h5]
    have HT : Hid (addOk t ⟨p, s, v⟩ = true) := by show _ = _; simp [addOk, H1.out, h5]
    clear h5
    go_wp2_with fail
    go_ret3
    exact ⟨hbw4, .inl ⟨HT.out, _, by rw [HN.out]; rfl, HO4.out⟩⟩
  · have h6 : vt (t ++ [⟨p, s, v⟩]) = false := by simpa using h5
    rw [h6]
    have HT : Hid (addOk t ⟨p, s, v⟩ = false) := by show _ = _; simp [addOk, h6]
    clear h5 h6
    go_wp2_with fail
    go_ret3
    exact ⟨hbw4, .inr ⟨HT.out, rfl⟩⟩
end Go.Proofs.Ytmnlelpfbnagpaa
