/- The walks over RedoLog, the program's and the reference's. -/
import Derived.Test.YtpklfhefhfkkhaaRedoW
import Derived.Test.YtpklfhefhfkkhaaLawValidLog
namespace Go.Proofs.Ytpklfhefhfkkhaa
open Go.RowKit

def RedoP (w : World) (t : List Nd) (log : List Rc) (e : Ending) (w' : World) : Prop := ∃ v, e = .returned v ∧ Own cN 3 42 w' w.heap.size v (redo t log) ∧ Below w.heap.size w w'

theorem ValidLog_f0 (lo lo2 : Nat) (A A2 : Option Addr) (n c m c2 : Nat) (t : List Nd) (log : List Rc) (w : World) (hr : Rd cN 3 w lo A n t) (hc : n ≤ c) (hr2 : Rd cR 4 w lo2 A2 m log) (h : vl t log = false) :
    Calls Try.prog 11 #[.slice A n c, .slice A2 m c2] w fun e w' => e = .returned (.bool false) ∧ Below w.heap.size w w' := by rw [← h]; exact ValidLog_any lo lo2 A A2 n c m c2 t log w hr hc hr2

theorem redo_yes {t : List Nd} {log : List Rc} (h : vl t log = true) : redo t log = redoL log t := by simp [redo, h]
theorem redo_no {t : List Nd} {log : List Rc} (h : vl t log = false) : redo t log = [] := by simp [redo, h]
theorem setV_some {t : List Nd} {k : Nat} {x : Nd} (h : t[k]? = some x) (v : Int) : setV t k v = t.set k ⟨x.par, x.name, v⟩ := by simp [setV, h]

set_option maxHeartbeats 1000000 in
theorem RedoLog_any (lo lo2 : Nat) (A A2 : Option Addr) (n c m c2 : Nat) (t : List Nd) (log : List Rc) (w : World) (hr : Rd cN 3 w lo A n t) (hc : n ≤ c) (hr2 : Rd cR 4 w lo2 A2 m log) (hc2 : m ≤ c2) :
    Calls Try.prog 20 #[.slice A n c, .slice A2 m c2] w (RedoP w t log) := by
  have HL := Lib.hid hr.len
  have HL2 := Lib.hid hr2.len
  by_cases hv : vl t log = true
  case neg =>
    have hv' : vl t log = false := by simpa using hv
    have HF := Lib.hid (redo_no hv')
    go_enter Try.func20, Try.ntmps20
    go_wp2_with fail
    refine (ValidLog_f0 _ _ A A2 n c m c2 t log _ hr hc hr2 hv').mono ?_
    rintro e w1 ⟨rfl, hb1⟩
    go_wp2_with fail
    go_ret
    exact ⟨_, rfl, by rw [HF.out]; exact Own.nil _ _, hb1⟩
  have HR := Lib.hid (redo_yes hv)
  have hVL := VL_of hv
  have hn1 : 1 ≤ n := by have := hVL.1.1; have := HL.out; omega
  have hn12 : n ≤ 12 := by have := hVL.1.2.1; have := HL.out; omega
  have hm16 : m ≤ 16 := by have := hVL.2.1; have := HL2.out; omega
  have HOK := Lib.hid hVL.2.2
  have HV := Lib.hid hv
  clear hVL hv
  go_enter Try.func20, Try.ntmps20
  go_wp2_with fail
  refine (ValidLog_t _ _ A A2 n c m c2 t log _ hr hc hr2 HV.out).mono ?_
  rintro e w1 ⟨rfl, hb1⟩
  go_wp2_with fail
  refine (CloneN_any _ A n c t _ (hr.below hb1) (by omega)).mono ?_
  rintro e w2 ⟨v, rfl, ho2, hb2⟩
  have hB2 := hb1.trans (hb2.mono hb1.size)
  obtain ⟨g, n', cap, rfl, hgb, _, _, hn'⟩ := ho2.form (by have := HL.out; omega)
  have hgw : w.heap.size ≤ g := Nat.le_trans hb1.size hgb
  obtain rfl : n' = n := hn'.trans HL.out
  clear hn'
  have ho2' := ho2.low hb1.size
  clear ho2
  go_wp2_with fail
  go_loopw [16] (fun i wr => ∃ (k : Nat) (l : List Nd), k ≤ m ∧ i = .int .i64 k ∧ Below w.heap.size w wr ∧ Own cN 3 42 wr w.heap.size (.slice (some ⟨g, 0, none⟩) n' cap) l ∧ l.length = n' ∧ redoL (log.drop k) l = redo t log) (fun i _ => m - (intOf i).toNat)
  case atStart => exact ⟨0, t, Nat.zero_le _, rfl, hB2, ho2', HL.out, by rw [HR.out]; rfl⟩
  case round =>
    obtain ⟨k, l, hk, rfl, hbl, ho, hll, hK⟩ := hrel
    have hs := hbl.size
    have HLL := Lib.hid hll
    clear hll
    by_cases hlt : k < m
    case neg =>
      rw [List.drop_eq_nil_of_le (by have := HL2.out; omega), redoL] at hK
      have HK := Lib.hid hK; clear hK
      go_wp2_with fail
      go_ret
      exact ⟨_, rfl, by rw [← HK.out]; exact ho, hbl⟩
    have hr2b := hr2.below hbl
    obtain ⟨b, o, r, rfl, _, hb, hx, g0, g1, g2, g3⟩ := hr2b.atR hlt
    obtain ⟨_, _, q0, q1, _, _, _⟩ := HOK.out k r hx
    rw [drop_cons hx, redoL, ← drop_cons hx] at hK
    have HX := Lib.hid hx
    clear hx
    obtain ⟨rw', rn, rv, rf⟩ := r
    simp only at hK q0 q1 g0 g1 g2 g3
    obtain ⟨j, rfl⟩ := Int.eq_ofNat_of_zero_le q0
    simp only [Int.toNat_natCast] at hK
    have hjn : j < n' := by have := HL.out; omega
    clear q0 q1
    generalize hd : doneF (log.drop k) = d at hK
    have HD := Lib.hid hd
    clear hd
    go_wp2_with fail
    refine (isDone_any _ _ m c2 log k _ (hr2b.alloc _) hlt hc2 d HD.out).mono ?_
    rintro e w3 ⟨rfl, hb3⟩
    have hbw := (hbl.alloc hs (.cells #[.int .i64 rw', .int .i64 j, .int .i64 rv, .bool rf] 30)).trans (hb3.mono (by simp; omega))
    have d1 : (wr.alloc (.cells #[.int .i64 rw', .int .i64 j, .int .i64 rv, .bool rf] 30)).cell? ⟨wr.heap.size, 1, none⟩ = some (.int .i64 j) := by simp [World.cell?_alloc_new]
    have d2 : (wr.alloc (.cells #[.int .i64 rw', .int .i64 j, .int .i64 rv, .bool rf] 30)).cell? ⟨wr.heap.size, 2, none⟩ = some (.int .i64 rv) := by simp [World.cell?_alloc_new]
    have e1 := (hb3.cell (by simp)).trans d1
    have e2 := (hb3.cell (by simp)).trans d2
    have ho3 := (ho.alloc (.cells #[.int .i64 rw', .int .i64 j, .int .i64 rv, .bool rf] 30)).below hb3
    clear d1 d2 g0 g1 g2 g3 ho hr2b hb3
    cases d
    · simp only [Bool.false_eq_true, if_false] at hK
      have HK := Lib.hid hK; clear hK
      go_wp2_with fail
      go_roundw
      case rel => exact ⟨k + 1, l, by omega, by go_num, hbw, ho3, HLL.out, HK.out⟩
      case measure => simp [intOf]; omega
    · obtain ⟨_, hrd3⟩ := ho3.rds elN.len (by have := HLL.out; omega)
      obtain ⟨b', o', x, hA', _, _, hx', c0, c1, c2'⟩ := hrd3.atN hjn
      simp only [Option.some.injEq, Addr.mk.injEq, and_true] at hA'
      obtain ⟨rfl, rfl⟩ := hA'
      simp only [Nat.zero_add] at c0 c1 c2'
      have f0 := ho3.free (j * 3 + 2)
      rw [if_pos rfl, setV_some hx'] at hK
      have HK := Lib.hid hK; clear hK
      have HO4 := Lib.hid (ho3.set (u := .int .i64 rv) (x' := ⟨x.par, x.name, rv⟩) (j := 2) elN.len hx' rfl (by omega) (q := j * 3 + 2) rfl)
      clear hx' hrd3
      go_wp2_with fail
      go_roundw
      case rel => exact ⟨k + 1, l.set j ⟨x.par, x.name, rv⟩, by omega, by go_num, hbw.setCell hgw _, HO4.out, by rw [List.length_set]; exact HLL.out, HK.out⟩
      case measure => simp [intOf]; omega
end Go.Proofs.Ytpklfhefhfkkhaa
