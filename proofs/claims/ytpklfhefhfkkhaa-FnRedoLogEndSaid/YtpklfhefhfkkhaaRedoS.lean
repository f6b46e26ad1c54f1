/- The walk over the reference's RedoLog. -/
import Derived.Test.YtpklfhefhfkkhaaRedoI
namespace Go.Proofs.Ytpklfhefhfkkhaa
open Go.RowKit

theorem doneF_ended {log : List Rc} {k : Nat} {r : Rc} (h : log[k]? = some r) (hf : r.fin = false) : doneF (log.drop k) = endsF (log.drop (k + 1)) r.who := by
  rw [drop_cons h, doneF, if_neg (by simp [hf])]
theorem doneF_fin {log : List Rc} {k : Nat} {r : Rc} (h : log[k]? = some r) (hf : r.fin = true) : doneF (log.drop k) = false := by
  rw [drop_cons h, doneF, if_pos hf]

set_option maxHeartbeats 1000000 in
theorem RedoLogS_any (lo lo2 : Nat) (A A2 : Option Addr) (n c m c2 : Nat) (t : List Nd) (log : List Rc) (w : World) (hr : Rd cN 3 w lo A n t) (hc : n ≤ c) (hz : NmB t) (hr2 : Rd cR 4 w lo2 A2 m log) :
    Calls Try.prog 22 #[.slice A n c, .slice A2 m c2] w (RedoP w t log) := by
  have HL := Lib.hid hr.len
  have HL2 := Lib.hid hr2.len
  have hn := hr.le
  have HE : Hid (vl t log = (vt t && vl0 n log)) := by
    show _ = _
    rw [vl_eq, hr.len]
  by_cases h1 : vt t = true
  case neg =>
    have h1' : vt t = false := by simpa using h1
    have HF := Lib.hid (redo_no (t := t) (log := log) (by rw [HE.out, h1']; rfl))
    go_enter Try.func22, Try.ntmps22
    go_wp2_with fail
    refine (validTree_any _ A n c t _ hr hc hz).mono ?_
    rintro e w1 ⟨rfl, hb1⟩
    rw [h1']
    go_wp2_with fail
    go_ret
    exact ⟨_, rfl, by rw [HF.out]; exact Own.nil _ _, hb1⟩
  by_cases h2 : vl0 n log = true
  case neg =>
    have h2' : vl0 n log = false := by simpa using h2
    have HF := Lib.hid (redo_no (t := t) (log := log) (by rw [HE.out, h2']; simp))
    go_enter Try.func22, Try.ntmps22
    go_wp2_with fail
    refine (validTree_any _ A n c t _ hr hc hz).mono ?_
    rintro e w1 ⟨rfl, hb1⟩
    rw [h1]
    go_wp2_with fail
    refine (validLog_any _ A A2 n c m c2 log _ hn (hr2.below hb1)).mono ?_
    rintro e w2 ⟨rfl, hb2⟩
    rw [h2']
    go_wp2_with fail
    go_ret
    exact ⟨_, rfl, by rw [HF.out]; exact Own.nil _ _, hb1.trans (hb2.mono hb1.size)⟩
  have hv : vl t log = true := by rw [HE.out, h1, h2]; rfl
  have HR := Lib.hid (redo_yes hv)
  have hVL := VL_of hv
  have hn1 : 1 ≤ n := by have := hVL.1.1; have := HL.out; omega
  have hn12 : n ≤ 12 := by have := hVL.1.2.1; have := HL.out; omega
  have hm16 : m ≤ 16 := by have := hVL.2.1; have := HL2.out; omega
  have HOK := Lib.hid hVL.2.2
  clear hVL hv
  go_enter Try.func22, Try.ntmps22
  go_wp2_with fail
  refine (validTree_any _ A n c t _ hr hc hz).mono ?_
  rintro e w1 ⟨rfl, hb1⟩
  rw [h1]
  go_wp2_with fail
  refine (validLog_any _ A A2 n c m c2 log _ hn (hr2.below hb1)).mono ?_
  rintro e w2 ⟨rfl, hb2⟩
  rw [h2]
  have hB2 := hb1.trans (hb2.mono hb1.size)
  have hs2 := hB2.size
  clear h1 h2
  go_wp2_with (at_builtin; refine wpList_append_rd elN _ rfl (.tmp 16) (.tmp 17) rfl rfl (Own.empty w2 elN.len) rfl ((hr.below hB2).alloc _) (by simp; omega) (by simp) ?_; intro v3 w3 ho3 hg3 _; have hb3 := below_own ((Below.refl w2.heap.size w2).alloc (Nat.le_refl _) _) (Own.empty (e := 42) w2 elN.len) hg3 (Nat.le_refl _) (by simp))
  simp only [List.nil_append] at ho3
  clear hg3
  have hB3 := hB2.trans (hb3.mono hs2)
  obtain ⟨g, n', cap, rfl, hgb, _, _, hn'⟩ := ho3.form (by have := HL.out; omega)
  have hgw : w.heap.size ≤ g := Nat.le_trans hs2 hgb
  obtain rfl : n' = n := hn'.trans HL.out
  clear hn'
  have ho3' := ho3.low hs2
  clear ho3
  go_loopw [6] (fun i wr => ∃ (k : Nat) (l : List Nd), k ≤ m ∧ i = .int .i64 k ∧ Below w.heap.size w wr ∧ Own cN 3 42 wr w.heap.size (.slice (some ⟨g, 0, none⟩) n' cap) l ∧ l.length = n' ∧ redoL (log.drop k) l = redo t log) (fun i _ => m - (intOf i).toNat)
  case atStart => exact ⟨0, t, Nat.zero_le _, rfl, hB3, ho3', HL.out, by rw [HR.out]; rfl⟩
  case round =>
    obtain ⟨k, l, hk, rfl, hbl, ho, hll, hK⟩ := hrel
    have hs := hbl.size
    have HLL := Lib.hid hll
    clear hll
    by_cases hlt : k < m
    case neg =>
      rw [List.drop_eq_nil_of_le (by have := HL2.out; omega), redoL] at hK
      have HK := Lib.hid hK; clear hK
      go_wp2_with fail
      go_ret
      exact ⟨_, rfl, by rw [← HK.out]; exact ho, hbl⟩
    have hr2b := hr2.below hbl
    obtain ⟨b, o, r, rfl, _, hb, hx, g0, g1, g2, g3⟩ := hr2b.atR hlt
    have hbg : b < w.heap.size := by
      obtain ⟨b2, o2, he, _, hb2, _⟩ := hr2.2.2 (by omega)
      simp only [Option.some.injEq, Addr.mk.injEq, and_true] at he
      omega
    obtain ⟨_, _, q0, q1, _, _, _⟩ := HOK.out k r hx
    rw [drop_cons hx, redoL, ← drop_cons hx] at hK
    obtain ⟨rw', rn, rv, rf⟩ := r
    simp only at hK q0 q1 g0 g1 g2 g3
    obtain ⟨j, rfl⟩ := Int.eq_ofNat_of_zero_le q0
    simp only [Int.toNat_natCast] at hK
    have hjn : j < n' := by have := HL.out; omega
    clear q0 q1
    cases rf
    case true =>
      rw [doneF_fin hx rfl] at hK
      simp only [Bool.false_eq_true, if_false] at hK
      have HK := Lib.hid hK; clear hK hx
      go_wp2_with fail
      go_roundw
      case rel => exact ⟨k + 1, l, by omega, by go_num, hbl, ho, HLL.out, HK.out⟩
      case measure => simp [intOf]; omega
    rw [doneF_ended hx rfl] at hK
    simp only at hK
    have HX := Lib.hid hx
    clear hx
    generalize hd : endsF (log.drop (k + 1)) rw' = d at hK
    have HD := Lib.hid hd
    clear hd
    go_wp2_with fail
    refine (ended_any _ _ m c2 log (k + 1) rw' _ hr2b (by omega) d HD.out).mono ?_
    rintro e w3 ⟨rfl, rfl⟩
    cases d
    · simp only [Bool.false_eq_true, if_false] at hK
      have HK := Lib.hid hK; clear hK
      go_wp2_with fail
      go_roundw
      case rel => exact ⟨k + 1, l, by omega, by go_num, hbl, ho, HLL.out, HK.out⟩
      case measure => simp [intOf]; omega
    · obtain ⟨_, hrd3⟩ := ho.rds elN.len (by have := HLL.out; omega)
      obtain ⟨b', o', x, hA', _, _, hx', c0, c1, c2'⟩ := hrd3.atN hjn
      simp only [Option.some.injEq, Addr.mk.injEq, and_true] at hA'
      obtain ⟨rfl, rfl⟩ := hA'
      simp only [Nat.zero_add] at c0 c1 c2'
      have f0 := ho.free (j * 3 + 2)
      rw [if_pos rfl, setV_some hx'] at hK
      have HK := Lib.hid hK; clear hK
      have HO4 := Lib.hid (ho.set (u := .int .i64 rv) (x' := ⟨x.par, x.name, rv⟩) (j := 2) elN.len hx' rfl (by omega) (q := j * 3 + 2) rfl)
      clear hx' hrd3 hr2b
      go_wp2_with fail
      go_region
      go_wp2_with fail
      go_roundw
      case rel => exact ⟨k + 1, l.set j ⟨x.par, x.name, rv⟩, by omega, by go_num, (hbl.setCell hgw _).drew, HO4.out.drew, by rw [List.length_set]; exact HLL.out, HK.out⟩
      case measure => simp [intOf]; omega
end Go.Proofs.Ytpklfhefhfkkhaa
