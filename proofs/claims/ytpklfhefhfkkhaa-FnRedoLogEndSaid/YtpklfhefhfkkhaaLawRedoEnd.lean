/- The walk of the law FnRedoLogEnd. -/
import Derived.Test.YtpklfhefhfkkhaaLawRedoTwice
import Derived.Test.YtpklfhefhfkkhaaLawValidLogEnd
import Derived.Test.YtpklfhefhfkkhaaWords6
import Derived.Deep.RegionHeld3
namespace Go.Proofs.Ytpklfhefhfkkhaa
open Go.RowKit

theorem lastF_end {r e : Rc} (hr : r.fin = false) (he : e.fin = true) (hw : e.who = r.who) : ∀ l : List Rc, lastF (l ++ [r, e]) r.node.toNat = some r.val := by
  intro l
  induction l with
  | nil =>
    show lastF [r, e] _ = _
    simp [lastF, doneF, endsF, hr, he, hw]
  | cons a l ih => rw [List.cons_append, lastF, ih]

theorem redo_end {t : List Nd} {log : List Rc} (h : VL t log) {k : Nat} {r : Rc} (hk : log[k]? = some r) (hm : log.length = k + 1) (hl : log.length < 16) :
    (redo t (log ++ [⟨r.who, 0, 0, true⟩])).length = t.length ∧ (r.fin = false → ∀ x, (redo t (log ++ [⟨r.who, 0, 0, true⟩]))[r.node.toNat]? = some x → x.val = r.val) ∧ 0 ≤ r.node ∧ r.node < t.length := by
  obtain ⟨o1, o2, o3, o4, _, _, _⟩ := h.2.2 k r hk
  have hv := VL_end h hl r.who o1 o2
  rw [redo_yes (vl_true hv)]
  refine ⟨redoL_len _ _, fun hf x hx => ?_, o3, by omega⟩
  rw [redoL_get] at hx
  have e : log ++ [⟨r.who, 0, 0, true⟩] = log.take k ++ [r, ⟨r.who, 0, 0, true⟩] := by
    have := take_snoc hk
    rw [List.take_of_length_le (by omega)] at this
    conv => lhs; rw [this]
    rw [List.append_assoc]
    rfl
  rw [e, lastF_end (e := ⟨r.who, 0, 0, true⟩) hf rfl rfl] at hx
  cases ht : t[r.node.toNat]? with
  | none => rw [ht] at hx; simp at hx
  | some y =>
    rw [ht] at hx
    simp only [Option.map_some, Option.some.injEq] at hx
    subst hx
    rfl

set_option maxHeartbeats 400000 in
theorem lawRedoEnd (A : Option Addr) (n c : Nat) (zs : List Int) (w : World) (hn : n ≤ 1048576) (hr : Rd cB 1 w 0 A n zs) (hc : n ≤ c) (hz : ∀ (k : Nat) (z : Int), zs[k]? = some z → 0 ≤ z ∧ z ≤ 255) :
    Calls Try.prog 7 #[.slice A n c] w fun e w' => e = .returned (.bool true) ∧ Below w.heap.size w w' := by
  have hn' : (n : Int) ≤ 1048576 := by omega
  go_enter Try.func7, Try.ntmps7
  go_wp2_with fail
  refine (DrawRedoLog_any A n c zs _ hr hc hz).mono ?_
  rintro e w1 ⟨A1, n1, c1, t, A2, m, c2, log, rfl, hc1, hrt, hn1, hzt, hc2, hrl, hm, hb1⟩
  go_wp2_with fail
  refine (RedoLog_any _ _ A1 A2 n1 c1 m c2 t log _ hrt hc1 hrl hc2).mono ?_
  rintro e w2 ⟨v2, rfl, ho2, hb2⟩
  have hB2 := hb1.trans (hb2.mono hb1.size)
  obtain ⟨A3, n3, c3, rfl, hc3, hr3⟩ := ho2.rdn elN.len (by unfold redo; split; rw [redoL_len, hrt.len]; omega; simp)
  clear ho2
  go_wp2_with fail
  refine (RedoLogS_any _ _ A1 A2 n1 c1 m c2 t log _ (hrt.below hb2) hc1 hzt (hrl.below hb2)).mono ?_
  rintro e w4 ⟨v4, rfl, ho4, hb4⟩
  have hB4 := hB2.trans (hb4.mono hB2.size)
  obtain ⟨A5, n5, c5, rfl, hc5, hr5⟩ := ho4.rdn elN.len (by unfold redo; split; rw [redoL_len, hrt.len]; omega; simp)
  clear ho4
  go_wp2_with fail
  refine (equalNodes_t _ _ A3 A5 n3 c3 n5 c5 _ _ (hr3.below hb4) hr5).mono ?_
  rintro e w6 ⟨rfl, hb6⟩
  have hB6 := hB4.trans (hb6.mono hB4.size)
  have hrt6 := ((hrt.below hb2).below hb4).below hb6
  have hrl6 := ((hrl.below hb2).below hb4).below hb6
  have hr36 := (hr3.below hb4).below hb6
  have HL3 := Lib.hid hr3.len
  have HL1 := Lib.hid hrt.len
  have HL2 := Lib.hid hrl.len
  clear hr5 hr3 hrt hrl hr hz
  by_cases hv : vl t log = true
  case neg =>
    have hv' : vl t log = false := by simpa using hv
    have h3 : n3 = 0 := by
      have := HL3.out
      rw [redo_no hv'] at this
      simpa using this.symm
    subst h3
    go_wp2_with fail
    refine (RedoLogS_any _ _ A1 A2 n1 c1 m c2 t log _ hrt6 hc1 hzt hrl6).mono ?_
    rintro e w7 ⟨v7, rfl, ho7, hb7⟩
    obtain ⟨A8, n8, c8, rfl, hc8, hr8⟩ := ho7.rdn elN.len (by unfold redo; split; rw [redoL_len, HL1.out]; omega; simp)
    clear ho7
    go_wp2_with fail
    refine (equalNodes_t _ _ A3 A8 0 c3 n8 c8 _ _ (hr36.below hb7) hr8).mono ?_
    rintro e w9 ⟨rfl, hb9⟩
    go_wp2_with fail
    go_ret
    exact ⟨rfl, hB6.trans ((hb7.trans (hb9.mono hb7.size)).mono hB6.size)⟩
  have hVL := VL_of hv
  have h31 : n3 = n1 := by have := HL3.out; rw [redo_len hv, HL1.out] at this; omega
  have hn1' : 1 ≤ n1 := by have := hVL.1.1; have := HL1.out; omega
  have h3 : ((n3 : Int) == 0) = false := by simp; omega
  have hl16 := hVL.2.1
  have HVL := Lib.hid hVL
  clear hVL hv h31
  rcases Nat.eq_zero_or_pos m with hm0 | hm0
  · have hmi : (m : Int) = 0 := by omega
    clear hl16 hm0
    go_wp2_with fail
    refine (RedoLogS_any _ _ A1 A2 n1 c1 m c2 t log _ hrt6 hc1 hzt hrl6).mono ?_
    rintro e w7 ⟨v7, rfl, ho7, hb7⟩
    obtain ⟨A8, n8, c8, rfl, hc8, hr8⟩ := ho7.rdn elN.len (by unfold redo; split; rw [redoL_len, HL1.out]; omega; simp)
    clear ho7
    go_wp2_with fail
    refine (equalNodes_t _ _ A3 A8 n3 c3 n8 c8 _ _ (hr36.below hb7) hr8).mono ?_
    rintro e w9 ⟨rfl, hb9⟩
    go_wp2_with fail
    go_ret
    exact ⟨rfl, hB6.trans ((hb7.trans (hb9.mono hb7.size)).mono hB6.size)⟩
  by_cases hm16 : m = 16
  · have hmi : (m : Int) = 16 := by omega
    have hmz : ((m : Int) == 0) = false := by simp; omega
    clear hl16 hm16 hm0
    go_wp2_with fail
    refine (RedoLogS_any _ _ A1 A2 n1 c1 m c2 t log _ hrt6 hc1 hzt hrl6).mono ?_
    rintro e w7 ⟨v7, rfl, ho7, hb7⟩
    obtain ⟨A8, n8, c8, rfl, hc8, hr8⟩ := ho7.rdn elN.len (by unfold redo; split; rw [redoL_len, HL1.out]; omega; simp)
    clear ho7
    go_wp2_with fail
    refine (equalNodes_t _ _ A3 A8 n3 c3 n8 c8 _ _ (hr36.below hb7) hr8).mono ?_
    rintro e w9 ⟨rfl, hb9⟩
    go_wp2_with fail
    go_ret
    exact ⟨rfl, hB6.trans ((hb7.trans (hb9.mono hb7.size)).mono hB6.size)⟩
  obtain ⟨k, rfl⟩ : ∃ k, m = k + 1 := ⟨m - 1, by omega⟩
  have hk15 : k + 1 < 16 := by have := HL2.out; omega
  clear hl16
  have hm1 : ((k : Int) + 1 == 16) = false := by simp; omega
  have hm2 : ((k : Int) + 1 == 0) = false := by simp; omega
  obtain ⟨b, o, r, rfl, _, hbs, hx, g0, g1, g2, g3⟩ := hrl6.atR (k := k) (by omega)
  have hP := redo_end HVL.out hx HL2.out (by have := HL2.out; omega)
  obtain ⟨rw', rn, rv, rf⟩ := r
  simp only at hP g0 g1 g2 g3
  obtain ⟨p1, p2, p3, p4⟩ := hP
  have P1 := Lib.hid p1
  have P2 := Lib.hid p2
  obtain ⟨j, rfl⟩ := Int.eq_ofNat_of_zero_le p3
  have hjn : j < n1 := by have := HL1.out; omega
  have HX := Lib.hid hx
  have hkk : (k : Int) + 1 - 1 = (k : Int) := by omega
  clear p1 p2 p3 p4 hx hm0 hm16
  have hs6 := hB6.size
  go_wp2_with fail
  have hbW := (Below.refl w6.heap.size w6).alloc (Nat.le_refl _) (.cells #[.int .i64 rw', .int .i64 j, .int .i64 rv, .bool rf] 30)
  have hsW : (w6.alloc (.cells #[.int .i64 rw', .int .i64 j, .int .i64 rv, .bool rf] 30)).heap.size = w6.heap.size + 1 := by simp
  have d0 : (w6.alloc (.cells #[.int .i64 rw', .int .i64 j, .int .i64 rv, .bool rf] 30)).cell? ⟨w6.heap.size, 0, none⟩ = some (.int .i64 rw') := by simp [World.cell?_alloc_new]
  have d1 : (w6.alloc (.cells #[.int .i64 rw', .int .i64 j, .int .i64 rv, .bool rf] 30)).cell? ⟨w6.heap.size, 1, none⟩ = some (.int .i64 j) := by simp [World.cell?_alloc_new]
  have d2 : (w6.alloc (.cells #[.int .i64 rw', .int .i64 j, .int .i64 rv, .bool rf] 30)).cell? ⟨w6.heap.size, 2, none⟩ = some (.int .i64 rv) := by simp [World.cell?_alloc_new]
  have d3 : (w6.alloc (.cells #[.int .i64 rw', .int .i64 j, .int .i64 rv, .bool rf] 30)).cell? ⟨w6.heap.size, 3, none⟩ = some (.bool rf) := by simp [World.cell?_alloc_new]
  have hrW := hrl6.alloc (.cells #[.int .i64 rw', .int .i64 j, .int .i64 rv, .bool rf] 30)
  have hrtW := hrt6.alloc (.cells #[.int .i64 rw', .int .i64 j, .int .i64 rv, .bool rf] 30)
  generalize w6.alloc (.cells #[.int .i64 rw', .int .i64 j, .int .i64 rv, .bool rf] 30) = W at *
  have HSW := Lib.hid hsW
  clear g0 g1 g2 g3 hsW
  have ho0 : Own cR 4 30 (W.alloc (.cells #[] 30)).drew W.heap.size (.slice (some ⟨W.heap.size, 0, none⟩) 0 0) ([] : List Rc) := (Own.empty W elR.len).drew
  have hrA := (hrW.alloc (.cells #[] 30)).drew
  have h2B := two_B (cs := cR) (sz := 4) (e := 30) W #[.int .i64 rw', .int .i64 0, .int .i64 0, .bool true] ⟨rw', 0, 0, true⟩ elR.len rfl
  have h2C := two_C (cs := cR) (sz := 4) (e := 30) W #[.int .i64 rw', .int .i64 0, .int .i64 0, .bool true] ⟨rw', 0, 0, true⟩ elR.len rfl
  have hrB := ((hrW.alloc (.cells #[] 30)).alloc (.cells #[.int .i64 rw', .int .i64 0, .int .i64 0, .bool true] 30)).drew
  have hrC := ((hrW.alloc (.cells #[.int .i64 rw', .int .i64 0, .int .i64 0, .bool true] 30)).alloc (.cells #[] 30)).drew
  go_region_held3? (fun w' => w'.cell? ⟨w6.heap.size, 0, none⟩ = some (.int .i64 rw')) (first | go_keep | exact (hb7.cell (by have := HSW.out; simp; omega)).trans d0 | exact (hb8.cell (by have := HSW.out; simp; omega)).trans d0 | exact (hb9.cell (by have := HSW.out; have := hb8.size; simp; omega)).trans ((hb8.cell (by have := HSW.out; simp; omega)).trans d0))
    ((first
      | (refine step_append_rd elR _ rfl (.tmp 52) (.tmp 53) rfl rfl ho0 rfl hrA (by simp; omega) (by simp) ?_; intro v7 w7 ho7 hg7 _; have hb7 := below_own (((Below.refl W.heap.size W).alloc (Nat.le_refl _) _).drew) ho0 hg7 (Nat.le_refl _) (by simp))
      | (refine step_append_rd elR _ rfl (.tmp 52) (.tmp 53) rfl rfl h2B.1 rfl hrB (by simp; omega) (by simp; omega) ?_; intro v7 w7 ho7 hg7 _; have hb7 := below_own (((Below.refl W.heap.size W).alloc (Nat.le_refl _) _).alloc (by simp) _).drew h2B.1 hg7 (Nat.le_refl _) (by simp; omega); have hx7 := h2B.2.ne (row := some W.heap.size) hg7 (by simp))
      | (refine step_append_rd elR _ rfl (.tmp 52) (.tmp 53) rfl rfl h2C.1 rfl hrC (by simp; omega) (by simp; omega) ?_; intro v7 w7 ho7 hg7 _; have hb7 := below_own (((Below.refl W.heap.size W).alloc (Nat.le_refl _) _).alloc (by simp) _).drew h2C.1 hg7 (Nat.le_refl _) (by simp; omega); have hx7 := h2C.2.ne (row := some (W.heap.size + 1)) hg7 (by simp))
      | (refine step_append_rd elR _ rfl (.tmp 54) (.tmp 58) rfl rfl ho7 rfl hx7 (by have := HL2.out; simp only [List.nil_append]; omega) (by have := hb7.size; omega) ?_; intro v8 w8 ho8 hg8 _; have hb8 := below_own hb7 ho7 hg8 (Nat.le_refl _) hb7.size; simp only [List.nil_append] at ho8; obtain ⟨A8, m8, c8, rfl, hc8, hr8⟩ := ho8.rdn elR.len (by have := HL2.out; simp; omega); clear ho7 ho8 hg7 hg8)
      | (go_simp; go_at_call 20; refine (RedoLog_any _ _ A1 A8 n1 c1 m8 c8 t _ _ (hrtW.below hb8) hc1 hr8 hc8).mono ?_; rintro e w9 ⟨v9, rfl, ho9, hb9⟩)
      | (refine step_append_rd elR _ rfl (.tmp 54) (.tmp 58) rfl rfl (ho7.alloc (.cells #[.int .i64 rw', .int .i64 0, .int .i64 0, .bool true] 30)) rfl (Rd_one w7 #[.int .i64 rw', .int .i64 0, .int .i64 0, .bool true] 30 ⟨rw', 0, 0, true⟩ rfl) ?_ ?_ ?_
         · have := HL2.out; simp only [List.nil_append]; omega
         · have := hb7.size; simp only [World.size_alloc]; omega
         intro v8 w8 ho8 hg8 _
         have hb8 := below_own (hb7.alloc hb7.size (.cells #[.int .i64 rw', .int .i64 0, .int .i64 0, .bool true] 30)) (ho7.alloc _) hg8 (Nat.le_refl _) (by have := hb7.size; simp only [World.size_alloc]; omega)
         simp only [List.nil_append] at ho8
         obtain ⟨A8, m8, c8, rfl, hc8, hr8⟩ := ho8.rdn elR.len (by have := HL2.out; simp; omega)
         clear ho7 ho8 hg7 hg8)))
  all_goals (
    obtain ⟨A9, n9, c9, rfl, hc9, hr9⟩ := ho9.rdn elN.len (by rw [P1.out, HL1.out]; omega)
    have hB9 := hB6.trans ((hbW.trans ((hb8.trans (hb9.mono hb8.size)).mono hbW.size)).mono hs6)
    obtain rfl : n9 = n1 := hr9.len.symm.trans (P1.out.trans HL1.out)
    have q1 := aft ((hb9.cell (by have := HSW.out; have := hb8.size; simp; omega)).trans ((hb8.cell (by have := HSW.out; simp; omega)).trans d1))
    have q2 := aft ((hb9.cell (by have := HSW.out; have := hb8.size; simp; omega)).trans ((hb8.cell (by have := HSW.out; simp; omega)).trans d2))
    have q3 := aft ((hb9.cell (by have := HSW.out; have := hb8.size; simp; omega)).trans ((hb8.cell (by have := HSW.out; simp; omega)).trans d3))
    obtain ⟨b9, o9, y, rfl, _, _, hy, c0, c1', c2'⟩ := hr9.atN hjn
    clear ho9 hr9 hb9 hb8 h2B h2C hrA hrB hrC hrW hrtW hrt6 hrl6 hr36 ho0 hbW d0 d1 d2 d3
    cases rf
    case true =>
      clear hy c0 c1' c2'
      go_wp2_with fail
      refine wp_region_after (by kernel_rfl) (by kernel_rfl) ?_
      repeat (go_big_quiet_step (fail))
      refine wpQuiet_nil ?_
      intro w10 hb10
      go_wp2_with fail
      go_ret
      exact ⟨rfl, hB9.trans (hb10.mono hB9.size)⟩
    have hyv : y.val = rv := P2.out rfl y hy
    rw [hyv] at c2'
    have q4 := aft c2'
    clear hy c0 c1' c2' hyv
    go_wp2_with fail
    refine wp_region_after (by kernel_rfl) (by kernel_rfl) ?_
    repeat (go_big_quiet_step (fail))
    refine wpQuiet_nil ?_
    intro w10 hb10
    go_wp2_with fail
    go_ret
    exact ⟨rfl, hB9.trans (hb10.mono hB9.size)⟩)
end Go.Proofs.Ytpklfhefhfkkhaa
