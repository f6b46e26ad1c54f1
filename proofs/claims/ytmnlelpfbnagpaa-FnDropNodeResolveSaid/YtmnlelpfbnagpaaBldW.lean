/- The walks over a strings.Builder's copyCheck, WriteByte, WriteString. -/
import Derived.Test.YtmnlelpfbnagpaaElems
import Derived.Test.YtmnlelpfbnagpaaWords6
import Derived.Lib.Builder
import Derived.Lib.AppendStr
import Derived.Lib.UnsafeStr
import Derived.Shelf.Strings.BuilderX
namespace Go.Proofs.Ytmnlelpfbnagpaa
open Go.RowKit

/-- A builder of the call's own that has been written at least once, and holds these bytes. -/
def Bld (w : World) (B b : Nat) (l : List UInt8) : Prop := Lib.IsBuilder 60 5 B b (Lib.byteCells l) w
theorem sizeBld : (Try.prog.info? 60).map (·.size) = some 2 := by kernel_rfl
theorem Bld.below {w w' : World} {B b : Nat} {l : List UInt8} (h : Bld w B b l) (hb : Below w.heap.size w w') : Bld w' B b l := by
  have key : ∀ p, Lib.BuilderAt 60 5 B b p (Lib.byteCells l) w → Lib.BuilderAt 60 5 B b p (Lib.byteCells l) w' := fun p ⟨h1, v, h2, h3, h4⟩ =>
    ⟨h1, v, blk_below h2 hb, by
      refine ⟨h3.1, ?_⟩
      rcases h3.2 with hn | ⟨g, cap, cur, e, hg, hh, rest⟩
      · exact .inl hn
      · exact .inr ⟨g, cap, cur, e, hg, blk_below hh hb, rest⟩, h4⟩
  exact h.imp (key _) (key _)
set_option maxHeartbeats 1000000 in
set_option maxRecDepth 100000 in
theorem copyCheck_any (B b : Nat) (bs : List Value) (w : World) (h : Lib.IsBuilder 60 5 B b bs w) :
    Calls Try.prog 65 #[.pointer (some ⟨b, 0, none⟩)] w fun e w' => e = .returned (.tuple #[]) ∧ Lib.BuilderAt 60 5 B b (.pointer (some ⟨b, 0, none⟩)) bs w' ∧ Below B w w' := by
  obtain ⟨j, hj, hjs⟩ := Option.map_eq_some_iff.1 sizeBld
  rcases h with h | h
  · have h0 := h.cell0
    have hsh := h.shape
    have hfz := h.frozen0
    have HU := Lib.hid (h.used (.pointer (some ⟨b, 0, none⟩)))
    have HB := Lib.hid h.1
    clear h
    go_enter Try.func65, Try.ntmps65
    go_wp2
    rw [Lib.run_to_unsafe w ⟨b, 0, none⟩ Try.underlying58 Try.underlying87 hj (by rw [hjs]; decide) hsh (Nat.zero_lt_succ 1)]
    simp only [Result.andThen]
    rw [Oper.upon_value]
    go_wp2
    rw [run_callFunc_extern Try.func78 (by kernel_rfl) (by kernel_rfl) (by kernel_rfl) (e := Extern.AbiNoEscape.same) (by kernel_rfl)]
    rw [Lib.run_noEscape]
    simp only [Result.andThen]
    rw [Oper.upon_value]
    go_wp2
    rw [Lib.run_from_unsafe w ⟨b, 0, none⟩ Try.underlying87 Try.underlying58 hj hsh (by kernel_rfl)]
    simp only [Result.andThen]
    rw [Oper.upon_value]
    go_wp2
    go_end0
    exact ⟨rfl, HU.out, (Below.refl B w).setCell (p := ⟨b, 0, none⟩) HB.out _⟩
  · have h0 := h.cell0
    have H := Lib.hid h
    clear h
    go_enter Try.func65, Try.ntmps65
    go_wp2
    rw [Lib.run_neq_ptr_same w _ Try.underlying58 hj]
    go_wp2
    go_end0
    exact ⟨rfl, H.out, Below.refl B _⟩
theorem infoU8 : (Try.prog.info? 5).map (fun i => (i.zero, i.size, i.bytes)) = some (some (.int .u8 0), 1, 1) := by kernel_rfl
set_option maxHeartbeats 2000000 in
set_option maxRecDepth 100000 in
theorem WriteByte_any (B b : Nat) (l : List UInt8) (w : World) (h : Bld w B b l) (hlen : l.length ≤ 1000000) (hBw : B ≤ w.heap.size) :
    Calls Try.prog 44 #[.pointer (some ⟨b, 0, none⟩), .int .u8 47] w fun e w' => e = .returned .nilIface ∧ Bld w' B b (l ++ [47]) ∧ Below B w w' := by
  obtain ⟨i0, hi, hz0, hz1, hz2⟩ := info_parts infoU8
  have HCC := Lib.hid (copyCheck_any B b _ w h)
  have HBL : Hid ((Lib.byteCells l).length = l.length) := Lib.byteCells_length l
  go_enter Try.func44, Try.ntmps44
  go_wp2_with fail
  refine HCC.out.mono ?_
  rintro e w1 ⟨rfl, h1, hb1⟩
  obtain ⟨hB, v, hbk, hown, hne⟩ := h1
  have c0 := blk_cell hbk (i := 0) rfl
  have c1 := blk_cell hbk (i := 1) rfl
  have hs1 := hb1.size
  go_wp2_with (at_builtin; refine wpList_append_own _ rfl _ _ 22 rfl B 5 i0 (.int .u8 0) 1 1 Try.underlying22 hi hz0 hz1 hz2 rfl (by decide) _ _ _ rfl (hown.alloc _) ⟨w1.heap.size, 0, none⟩ 1 1 [.int .u8 47] rfl rfl ?c1 ?c2 ?c3 ?c4 ?c5 ?_)
  case c1 =>
    intro j u hj
    match j, hj with
    | 0, hj => simp at hj; subst hj; simp [Addr.add]
  case c2 => intro u hu; simp at hu; subst hu; rfl
  case c3 => have := HBL.out; unfold maxLen; omega
  case c4 => have := HBL.out; omega
  case c5 => simp; omega
  intro v' w2 hown' hgrow _
  have hlt := blk_lt hbk
  have hb2 : w2.heap[b]? = some (.cells #[.pointer (some ⟨b, 0, none⟩), v] 60 (0, 0)) := by
    rw [hgrow.block b (by simp; omega) (fun e => hne e.symm)]
    exact blk_alloc hbk _
  have d0 := blk_cell hb2 (i := 0) rfl
  have d1 := blk_cell hb2 (i := 1) rfl
  have f1 := blk_free hb2 1
  obtain ⟨g, cap, rfl⟩ : ∃ g cap, v' = .slice (some ⟨g, 0, none⟩) ((Lib.byteCells l).length + 1) cap := by
    rcases hown'.2 with ⟨_, h0⟩ | ⟨g, cap, cur, hv, _⟩
    · omega
    · exact ⟨g, cap, hv⟩
  have HP := Lib.hid (Lib.BuilderAt.put (T := 60) (e := 5) hB hb2 (bs' := Lib.byteCells l ++ [.int .u8 47]) (by simpa using hown') (by decide))
  have HB : Hid (Below B w (w2.setCell ⟨b, 1, none⟩ (.slice (some ⟨g, 0, none⟩) ((Lib.byteCells l).length + 1) cap))) := ((hb1.alloc (by omega) _).grown hgrow (by simp; omega) (fun k hk => (hown.lt k hk).1)).setCell (p := ⟨b, 1, none⟩) hB _
  clear hb2 hown hown' hgrow hbk hb1 h
  go_wp2_with fail
  go_ret
  refine ⟨rfl, .inr ?_, HB.out⟩
  have e : Lib.byteCells (l ++ [47]) = Lib.byteCells l ++ [.int .u8 47] := by unfold Lib.byteCells; simp
  rw [e]
  exact HP.out
set_option maxHeartbeats 2000000 in
set_option maxRecDepth 100000 in
theorem WriteString_any (B b : Nat) (l : List UInt8) (s : ByteArray) (w : World) (h : Bld w B b l) (hlen : l.length + s.size ≤ 2000000000000) (hBw : B ≤ w.heap.size) :
    Calls Try.prog 45 #[.pointer (some ⟨b, 0, none⟩), .string s] w fun e w' => (∃ z, e = .returned (.tuple #[z, .nilIface])) ∧ Bld w' B b (l ++ s.data.toList) ∧ Below B w w' := by
  obtain ⟨i0, hi, hz0, hz1, hz2⟩ := info_parts infoU8
  have HCC := Lib.hid (copyCheck_any B b _ w h)
  have HBL : Hid ((Lib.byteCells l).length = l.length) := Lib.byteCells_length l
  go_enter Try.func45, Try.ntmps45
  go_wp2_with fail
  refine HCC.out.mono ?_
  rintro e w1 ⟨rfl, h1, hb1⟩
  obtain ⟨hB, v, hbk, hown, hne⟩ := h1
  have c0 := blk_cell hbk (i := 0) rfl
  have c1 := blk_cell hbk (i := 1) rfl
  have hs1 := hb1.size
  go_wp2_with (at_builtin; refine Lib.wpList_append_own_string _ rfl _ _ 22 9 rfl B 5 i0 Try.underlying22 Try.underlying9 hi hz0 hz1 hz2 _ _ _ rfl hown s rfl ?c3 ?c4 ?c5 ?_)
  case c3 => have := HBL.out; unfold maxLen; omega
  case c4 => have := HBL.out; omega
  case c5 => omega
  intro v' w2 hown' hgrow _
  have hlt := blk_lt hbk
  have hb2 : w2.heap[b]? = some (.cells #[.pointer (some ⟨b, 0, none⟩), v] 60 (0, 0)) := by
    rw [hgrow.block b hlt (fun e => hne e.symm)]
    exact hbk
  have d0 := blk_cell hb2 (i := 0) rfl
  have d1 := blk_cell hb2 (i := 1) rfl
  have f1 := blk_free hb2 1
  obtain ⟨ao, n', cap, rfl⟩ : ∃ ao n' cap, v' = .slice ao n' cap := by
    rcases hown'.2 with ⟨hv, _⟩ | ⟨g, cap, cur, hv, _⟩
    · exact ⟨_, _, _, hv⟩
    · exact ⟨_, _, _, hv⟩
  have HP := Lib.hid (Lib.BuilderAt.put (T := 60) (e := 5) hB hb2 (bs' := Lib.byteCells l ++ Lib.strCells s) (by simpa [Lib.strCells_length] using hown') (by decide))
  have HB : Hid (Below B w (w2.setCell ⟨b, 1, none⟩ (.slice ao n' cap))) := (hb1.grown hgrow (by omega) (fun k hk => (hown.lt k hk).1)).setCell (p := ⟨b, 1, none⟩) hB _
  clear hb2 hown hown' hgrow hbk hb1 h
  go_wp2_with fail
  go_ret2
  refine ⟨⟨_, rfl⟩, .inr ?_, HB.out⟩
  have e : Lib.byteCells (l ++ s.data.toList) = Lib.byteCells l ++ Lib.strCells s := by unfold Lib.byteCells Lib.strCells; simp
  rw [e]
  exact HP.out
end Go.Proofs.Ytmnlelpfbnagpaa
