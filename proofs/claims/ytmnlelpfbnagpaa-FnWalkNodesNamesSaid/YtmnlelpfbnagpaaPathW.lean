/- The walks over paths: isNode, reaches, IsAbove, Reverse, PathTo; the reference's pathTo. -/
import Derived.Test.YtmnlelpfbnagpaaReader
import Derived.Test.YtmnlelpfbnagpaaInts
import Derived.Test.YtmnlelpfbnagpaaGrainP
import Derived.Test.YtmnlelpfbnagpaaWords6
namespace Go.Proofs.Ytmnlelpfbnagpaa
open Go.RowKit

theorem ValidTree_t (lo : Nat) (A : Option Addr) (n c : Nat) (t : List Nd) (w : World) (hr : Rd cN 3 w lo A n t) (hc : n ≤ c) (h : VT t) :
    Calls Try.prog 15 #[.slice A n c] w fun e w' => e = .returned (.bool true) ∧ Below w.heap.size w w' := by rw [← vt_true h]; exact ValidTree_any lo A n c t w hr hc
theorem ValidTree_f (lo : Nat) (A : Option Addr) (n c : Nat) (t : List Nd) (w : World) (hr : Rd cN 3 w lo A n t) (hc : n ≤ c) (h : ¬ VT t) :
    Calls Try.prog 15 #[.slice A n c] w fun e w' => e = .returned (.bool false) ∧ Below w.heap.size w w' := by rw [← vt_false h]; exact ValidTree_any lo A n c t w hr hc
theorem validTree_t (lo : Nat) (A : Option Addr) (n c : Nat) (t : List Nd) (w : World) (hr : Rd cN 3 w lo A n t) (hc : n ≤ c) (hz : NmB t) (h : VT t) :
    Calls Try.prog 39 #[.slice A n c] w fun e w' => e = .returned (.bool true) ∧ Below w.heap.size w w' := by rw [← vt_true h]; exact validTree_any lo A n c t w hr hc hz
theorem validTree_f (lo : Nat) (A : Option Addr) (n c : Nat) (t : List Nd) (w : World) (hr : Rd cN 3 w lo A n t) (hc : n ≤ c) (hz : NmB t) (h : ¬ VT t) :
    Calls Try.prog 39 #[.slice A n c] w fun e w' => e = .returned (.bool false) ∧ Below w.heap.size w w' := by rw [← vt_false h]; exact validTree_any lo A n c t w hr hc hz

theorem isNode_t (lo : Nat) (A : Option Addr) (n c : Nat) (t : List Nd) (a : Int) (w : World) (hr : Rd cN 3 w lo A n t) (hc : n ≤ c) (h : IsNd t a) :
    Calls Try.prog 55 #[.slice A n c, .int .i64 a] w fun e w' => e = .returned (.bool true) ∧ Below w.heap.size w w' := by
  obtain ⟨h1, h2, h3⟩ := h
  rw [hr.len] at h3
  have hn := hr.le
  have HC := Lib.hid (ValidTree_t lo A n c t w hr hc h1)
  clear h1
  go_enter Try.func55, Try.ntmps55
  go_wp2_with (go_at_call 41; refine (within_t _ _ _ _ (by omega) (by omega)).mono ?_; rintro e w' ⟨rfl, rfl⟩)
  refine HC.out.mono ?_
  rintro e w1 ⟨rfl, hb1⟩
  go_wp2_with fail
  go_ret
  exact ⟨rfl, hb1⟩
theorem isNode_f (lo : Nat) (A : Option Addr) (n c : Nat) (t : List Nd) (a : Int) (w : World) (hr : Rd cN 3 w lo A n t) (hc : n ≤ c) (h : ¬ IsNd t a) :
    Calls Try.prog 55 #[.slice A n c, .int .i64 a] w fun e w' => e = .returned (.bool false) ∧ Below w.heap.size w w' := by
  have hn := hr.le
  by_cases h2 : 0 ≤ a ∧ a < n
  case neg =>
    have h2' : a < 0 ∨ (n : Int) - 1 < a := by omega
    clear h h2
    go_enter Try.func55, Try.ntmps55
    go_wp2_with (go_at_call 41; refine (within_f _ _ _ _ (by omega)).mono ?_; rintro e w' ⟨rfl, rfl⟩)
    go_ret
    exact ⟨rfl, Below.refl _ _⟩
  have h1 : ¬ VT t := fun h1 => h ⟨h1, h2.1, by rw [hr.len]; exact h2.2⟩
  have HC := Lib.hid (ValidTree_f lo A n c t w hr hc h1)
  clear h1 h
  go_enter Try.func55, Try.ntmps55
  go_wp2_with (go_at_call 41; refine (within_t _ _ _ _ (by omega) (by omega)).mono ?_; rintro e w' ⟨rfl, rfl⟩)
  refine HC.out.mono ?_
  rintro e w1 ⟨rfl, hb1⟩
  go_wp2_with fail
  go_ret
  exact ⟨rfl, hb1⟩

theorem reaches_any (lo : Nat) (A : Option Addr) (n c : Nat) (t : List Nd) (a low : Int) (w : World) (hr : Rd cN 3 w lo A n t) (hv : VT t) (ha : 0 ≤ a) (hl0 : 0 ≤ low) (hl : low < n) :
    Calls Try.prog 56 #[.slice A n c, .int .i64 a, .int .i64 low] w fun e w' => e = .returned (.bool (decide (a ∈ upI t low))) ∧ w = w' := by
  have HL := Lib.hid hr.len
  have hn := hr.le
  have HV := Lib.hid hv
  generalize hR : decide (a ∈ upI t low) = R
  have HR := Lib.hid hR
  clear hv hR
  go_enter Try.func56, Try.ntmps56
  go_wp2_with fail
  go_loop [2] (fun i => ∃ z : Int, i = .int .i64 z ∧ -1 ≤ z ∧ z < n ∧ decide (a ∈ upI t z) = R) (fun i => (intOf i).toNat)
  case atStart => exact ⟨low, rfl, by omega, hl, HR.out⟩
  case round =>
    obtain ⟨z, rfl, z0, z1, hK⟩ := hrel
    by_cases hlt : a < z
    case neg =>
      by_cases e : z = a
      · subst e
        obtain ⟨j, rfl⟩ := Int.eq_ofNat_of_zero_le ha
        have := upI_self HV.out.desc (k := j) (by have := HL.out; omega)
        rw [decide_eq_true this] at hK
        subst hK
        go_wp2_with fail
        go_ret
        exact ⟨rfl, rfl⟩
      · have hno : ¬ a ∈ upI t z := fun h => by have := upI_lt HV.out.desc (by have := HL.out; omega) h; omega
        rw [decide_eq_false hno] at hK
        subst hK
        have e1 : (z == a) = false := by simpa using e
        clear e hno
        go_wp2_with fail
        go_ret
        exact ⟨rfl, rfl⟩
    obtain ⟨j, rfl⟩ := Int.eq_ofNat_of_zero_le (show 0 ≤ z by omega)
    obtain ⟨b, o, x, rfl, _, hb, hx, g0, g1, g2⟩ := hr.atN (k := j) (by omega)
    have hp := HV.out.parn hx
    have hp1 := HV.out.pargt hx
    have e : decide (a ∈ upI t x.par) = R := by
      rw [← hK, upI_step HV.out.desc hx]
      congr 1
      apply propext
      rw [List.mem_cons]
      constructor
      · exact Or.inr
      · rintro (h | h)
        · omega
        · exact h
    have HE := Lib.hid e
    clear e hK hx
    go_wp2_with fail
    go_round
    case rel => exact ⟨x.par, rfl, hp1, by omega, HE.out⟩
    case measure => simp [intOf]; omega

/-- The node a is above b, or b itself. -/
noncomputable def abv (t : List Nd) (a b : Int) : Bool := decide (a ∈ upI t b)
theorem IsAbove_t (lo : Nat) (A : Option Addr) (n c : Nat) (t : List Nd) (a b : Int) (w : World) (hr : Rd cN 3 w lo A n t) (hc : n ≤ c) (ha : IsNd t a) (hb : IsNd t b) :
    Calls Try.prog 31 #[.slice A n c, .int .i64 a, .int .i64 b] w fun e w' => e = .returned (.bool (abv t a b)) ∧ Below w.heap.size w w' := by
  have HA := Lib.hid ha
  have HB := Lib.hid hb
  have HL := Lib.hid hr.len
  clear ha hb
  go_enter Try.func31, Try.ntmps31
  go_wp2_with fail
  refine (isNode_t lo A n c t a _ hr hc HA.out).mono ?_
  rintro e w1 ⟨rfl, hb1⟩
  go_wp2_with fail
  refine (isNode_t lo A n c t b _ (hr.below hb1) hc HB.out).mono ?_
  rintro e w2 ⟨rfl, hb2⟩
  have hB2 := hb1.trans (hb2.mono hb1.size)
  go_wp2_with fail
  refine (reaches_any lo A n c t a b _ (hr.below hB2) HA.out.1 HA.out.2.1 HB.out.2.1 (by have := HB.out.2.2; have := HL.out; omega)).mono ?_
  rintro e w3 ⟨rfl, rfl⟩
  go_wp2_with fail
  go_ret
  exact ⟨rfl, hB2⟩
theorem IsAbove_f (lo : Nat) (A : Option Addr) (n c : Nat) (t : List Nd) (a b : Int) (w : World) (hr : Rd cN 3 w lo A n t) (hc : n ≤ c) (h : ¬ (IsNd t a ∧ IsNd t b)) :
    Calls Try.prog 31 #[.slice A n c, .int .i64 a, .int .i64 b] w fun e w' => e = .returned (.bool false) ∧ Below w.heap.size w w' := by
  by_cases ha : IsNd t a
  case neg =>
    have HA := Lib.hid ha
    clear h ha
    go_enter Try.func31, Try.ntmps31
    go_wp2_with fail
    refine (isNode_f lo A n c t a _ hr hc HA.out).mono ?_
    rintro e w1 ⟨rfl, hb1⟩
    go_wp2_with fail
    go_ret
    exact ⟨rfl, hb1⟩
  have HB : Hid (¬ IsNd t b) := fun hb => h ⟨ha, hb⟩
  have HA := Lib.hid ha
  clear h ha
  go_enter Try.func31, Try.ntmps31
  go_wp2_with fail
  refine (isNode_t lo A n c t a _ hr hc HA.out).mono ?_
  rintro e w1 ⟨rfl, hb1⟩
  go_wp2_with fail
  refine (isNode_f lo A n c t b _ (hr.below hb1) hc HB.out).mono ?_
  rintro e w2 ⟨rfl, hb2⟩
  go_wp2_with fail
  go_ret
  exact ⟨rfl, hb1.trans (hb2.mono hb1.size)⟩

theorem rev_end {l L : List Int} {n k m : Nat} (hl : l.length = n) (hL : L.length = n) (he : m + k + 1 = n) (hkm : m ≤ k)
    (h : ∀ i, i < n → L[i]? = if i < k ∨ n - 1 - i < k then l[n - 1 - i]? else l[i]?) : L = l.reverse := by
  apply List.ext_getElem?
  intro i
  by_cases hi : i < n
  · rw [h i hi, List.getElem?_reverse (by omega), hl]
    split
    · rfl
    · have : i = n - 1 - i := by omega
      rw [← this]
  · rw [List.getElem?_eq_none (by omega), List.getElem?_eq_none (by rw [List.length_reverse]; omega)]
theorem rev_step {l L : List Int} {n k m : Nat} {x y : Int} (_ : l.length = n) (hL : L.length = n) (he : m + k + 1 = n) (hkm : k < m)
    (h : ∀ i, i < n → L[i]? = if i < k ∨ n - 1 - i < k then l[n - 1 - i]? else l[i]?) (hx : L[k]? = some x) (hy : L[m]? = some y) :
    ∀ i, i < n → ((L.set k y).set m x)[i]? = if i < k + 1 ∨ n - 1 - i < k + 1 then l[n - 1 - i]? else l[i]? := by
  intro i hi
  have h1 := h k (by omega)
  have h2 := h m (by omega)
  rw [if_neg (by omega), hx] at h1
  rw [if_neg (by omega), hy] at h2
  rw [List.getElem?_set, List.length_set]
  by_cases e1 : m = i
  · subst e1
    rw [if_pos rfl, if_pos (by omega), if_pos (by omega), show n - 1 - m = k by omega, ← h1]
  · rw [if_neg e1, List.getElem?_set]
    by_cases e2 : k = i
    · subst e2
      rw [if_pos rfl, if_pos (by omega), if_pos (by omega), show n - 1 - k = m by omega, ← h2]
    · rw [if_neg e2, h i hi]
      by_cases e3 : i < k ∨ n - 1 - i < k
      · rw [if_pos e3, if_pos (by omega)]
      · rw [if_neg e3, if_neg (by omega)]

set_option maxHeartbeats 1000000 in
theorem Reverse_any (base g n cap : Nat) (l : List Int) (w : World) (ho : Own cI 1 3 w base (.slice (some ⟨g, 0, none⟩) n cap) l) (h1 : 1 ≤ n) (hn : n ≤ 1000000) :
    Calls Try.prog 64 #[.slice (some ⟨g, 0, none⟩) n cap] w fun e w' => e = .returned (.tuple #[]) ∧ Own cI 1 3 w' base (.slice (some ⟨g, 0, none⟩) n cap) l.reverse ∧ w.grownBy w' (some g) := by
  have hl : l.length = n := by
    have := ho.lenV
    exact this.symm
  have HL := Lib.hid hl
  clear hl
  go_enter Try.func64, Try.ntmps64
  go_wp2_with fail
  go_loopw [2, 3] (fun i j wr => ∃ (k m : Nat) (L : List Int), i = .int .i64 k ∧ j = .int .i64 m ∧ Hid (m + k + 1 = n) ∧ L.length = n ∧ Own cI 1 3 wr base (.slice (some ⟨g, 0, none⟩) n cap) L ∧ w.grownBy wr (some g) ∧
      Hid (∀ i, i < n → L[i]? = if i < k ∨ n - 1 - i < k then l[n - 1 - i]? else l[i]?)) (fun _ j _ => (intOf j).toNat)
  case atStart => exact ⟨0, n - 1, l, rfl, by congr 1; omega, (by show _ = _; omega), HL.out, ho, World.grownBy.refl w _, fun i hi => by rw [if_neg (by omega)]⟩
  case round =>
    rename World => W1
    obtain ⟨k, m, L, rfl, rfl, HE, hLn, hO, hg, HP⟩ := hrel
    have HLn := Lib.hid hLn
    clear hLn
    by_cases hlt : k < m
    case neg =>
      have HR := Lib.hid (rev_end HL.out HLn.out HE.out (by omega) HP.out)
      go_wp2_with fail
      go_end0
      exact ⟨rfl, by rw [← HR.out]; exact hO, hg⟩
    have hkn : k < n := by have := HE.out; omega
    have hmn : m < n := by have := HE.out; omega
    obtain ⟨_, hrd⟩ := hO.rds elI.len (by rw [HLn.out]; omega)
    obtain ⟨b, o, x, hA, _, _, hx, g0⟩ := hrd.atI hkn
    simp only [Option.some.injEq, Addr.mk.injEq, and_true] at hA
    obtain ⟨rfl, rfl⟩ := hA
    obtain ⟨b, o, y, hA, _, _, hy, d0⟩ := hrd.atI hmn
    simp only [Option.some.injEq, Addr.mk.injEq, and_true] at hA
    obtain ⟨rfl, rfl⟩ := hA
    simp only [Nat.zero_add] at g0 d0
    have f0 := hO.free k
    have f1 := hO.free m
    have j1 : (W1.setCell ⟨g, k, none⟩ (.int .i64 y)).cell? ⟨g, m, none⟩ = some (.int .i64 y) := by
      rw [World.cell?_setCell_other _ _ _ _ (by intro e; injection e with _ e; omega)]; exact d0
    have hO1 := hO.set (u := .int .i64 y) (x' := y) (j := 0) elI.len hx rfl (by omega) (q := k) (by omega)
    have hO2 := hO1.set (u := .int .i64 x) (x' := x) (j := 0) (k := m) (x := y) elI.len (by rw [List.getElem?_set_ne (by omega)]; exact hy) rfl (by omega) (q := m) (by omega)
    have HO2 := Lib.hid hO2
    have HN := Lib.hid (rev_step HL.out HLn.out HE.out hlt HP.out hx hy)
    have HG := Lib.hid (grown_set (grown_set hg (p := ⟨g, k, none⟩) (.inl rfl) (.int .i64 y)) (p := ⟨g, m, none⟩) (.inl rfl) (.int .i64 x))
    have hmi : (m : Int) - 1 = ((m - 1 : Nat) : Int) := by omega
    have HMI := Lib.hid hmi
    clear hx hy hrd hO hO1 hO2 hmi
    go_wp2_with fail
    go_region
    go_wp2_with fail
    go_roundw
    case rel => exact ⟨k + 1, m - 1, _, by go_num, by rw [← HMI.out], (by have := HE.out; show _ = _; omega), by simp [HLn.out], HO2.out.drew, grown_trans HG.out (grown_of_below (Below.refl _ _).drew), HN.out⟩
    case measure => simp [intOf]; omega
end Go.Proofs.Ytmnlelpfbnagpaa
