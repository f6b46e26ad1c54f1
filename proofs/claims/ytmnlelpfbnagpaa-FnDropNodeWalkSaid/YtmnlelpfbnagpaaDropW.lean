/- The walks over DropNode, and the reference's above and without. -/
import Derived.Test.YtmnlelpfbnagpaaDropP
import Derived.Test.YtmnlelpfbnagpaaPathW
import Derived.Test.YtmnlelpfbnagpaaElems
namespace Go.Proofs.Ytmnlelpfbnagpaa
open Go.RowKit

theorem aboveS_any (lo : Nat) (A : Option Addr) (n c : Nat) (t : List Nd) (a low : Int) (w : World) (hr : Rd cN 3 w lo A n t) (hv : VT t) (ha : 0 ≤ a) (hl0 : 0 ≤ low) (hl : low < n) :
    Calls Try.prog 67 #[.slice A n c, .int .i64 a, .int .i64 low] w fun e w' => e = .returned (.bool (decide (a ∈ upI t low))) ∧ w = w' := by
  have HL := Lib.hid hr.len
  have hn := hr.le
  have HV := Lib.hid hv
  generalize hR : decide (a ∈ upI t low) = R
  have HR := Lib.hid hR
  clear hv hR
  go_enter Try.func67, Try.ntmps67
  go_wp2_with fail
  go_loop [2] (fun i => ∃ z : Int, i = .int .i64 z ∧ -1 ≤ z ∧ z < n ∧ decide (a ∈ upI t z) = R) (fun i => (intOf i).toNat)
  case atStart => exact ⟨low, rfl, by omega, hl, HR.out⟩
  case round =>
    obtain ⟨z, rfl, z0, z1, hK⟩ := hrel
    by_cases hlt : a < z
    case neg =>
      by_cases e : z = a
      · subst e
        obtain ⟨j, rfl⟩ := Int.eq_ofNat_of_zero_le ha
        have := upI_self HV.out.desc (k := j) (by have := HL.out; omega)
        rw [decide_eq_true this] at hK
        subst hK
        go_wp2_with fail
        go_ret
        exact ⟨rfl, rfl⟩
      · have hno : ¬ a ∈ upI t z := fun h => by have := upI_lt HV.out.desc (by have := HL.out; omega) h; omega
        rw [decide_eq_false hno] at hK
        subst hK
        have e1 : (z == a) = false := by simpa using e
        clear e hno
        go_wp2_with fail
        go_ret
        exact ⟨rfl, rfl⟩
    obtain ⟨j, rfl⟩ := Int.eq_ofNat_of_zero_le (show 0 ≤ z by omega)
    obtain ⟨b, o, x, rfl, _, hb, hx, g0, g1, g2⟩ := hr.atN (k := j) (by omega)
    have hp := HV.out.parn hx
    have hp1 := HV.out.pargt hx
    have e : decide (a ∈ upI t x.par) = R := by
      rw [← hK, upI_step HV.out.desc hx]
      congr 1
      apply propext
      rw [List.mem_cons]
      constructor
      · exact Or.inr
      · rintro (h | h)
        · omega
        · exact h
    have HE := Lib.hid e
    clear e hK hx
    go_wp2_with fail
    go_round
    case rel => exact ⟨x.par, rfl, hp1, by omega, HE.out⟩
    case measure => simp [intOf]; omega

/-- What DropNode gives. -/
def DropQ (w : World) (l : List Nd) (e : Ending) (w' : World) : Prop := ∃ v, e = .returned (.tuple #[v, .bool true]) ∧ Own cN 3 44 w' w.heap.size v l ∧ Below w.heap.size w w'
def OwnQ (w : World) (l : List Nd) (e : Ending) (w' : World) : Prop := ∃ v, e = .returned v ∧ Own cN 3 44 w' w.heap.size v l ∧ Below w.heap.size w w'

theorem DropNode_n (lo : Nat) (A : Option Addr) (n c : Nat) (t : List Nd) (a : Int) (w : World) (hr : Rd cN 3 w lo A n t) (hc : n ≤ c) (h : ¬ (IsNd t a ∧ 0 < a)) :
    Calls Try.prog 24 #[.slice A n c, .int .i64 a] w fun e w' => e = .returned (.tuple #[.slice none 0 0, .bool false]) ∧ Below w.heap.size w w' := by
  by_cases hd : IsNd t a
  · have e : a = 0 := by
      have h0 := hd.2.1
      have : ¬ 0 < a := fun h1 => h ⟨hd, h1⟩
      omega
    subst e
    have HC := Lib.hid (isNode_t lo A n c t 0 w hr hc hd)
    clear h hd
    go_enter Try.func24, Try.ntmps24
    go_wp2_with fail
    refine HC.out.mono ?_
    rintro e w1 ⟨rfl, hb1⟩
    go_wp2_with fail
    refine bodyPost_ret (v := .tuple #[.slice none 0 0, .bool false]) (by simp [results, Try.results24, go_sem]) rfl ?_
    exact ⟨rfl, hb1⟩
  · have HC := Lib.hid (isNode_f lo A n c t a w hr hc hd)
    clear h hd
    go_enter Try.func24, Try.ntmps24
    go_wp2_with fail
    refine HC.out.mono ?_
    rintro e w1 ⟨rfl, hb1⟩
    go_wp2_with fail
    refine bodyPost_ret (v := .tuple #[.slice none 0 0, .bool false]) (by simp [results, Try.results24, go_sem]) rfl ?_
    exact ⟨rfl, hb1⟩

/-- The row of the new numbers. -/
def NumR (t : List Nd) (a : Int) (n k : Nat) (cs : Array Value) : Prop := cs.size = n ∧ ∀ j, j < k → stay t a j = true → cs[j]? = some (.int .i64 (cnt t a j : Int))
theorem NumR.zero (t : List Nd) (a : Int) (n : Nat) : NumR t a n 0 (zer n) := ⟨zer_size n, fun j h => by omega⟩
theorem NumR.skip {t : List Nd} {a : Int} {n k : Nat} {cs : Array Value} (h : NumR t a n k cs) (hs : stay t a k = false) : NumR t a n (k + 1) cs :=
  ⟨h.1, fun j hj hj2 => by
    by_cases e : j = k
    · subst e; rw [hs] at hj2; cases hj2
    · exact h.2 j (by omega) hj2⟩
theorem NumR.step {t : List Nd} {a : Int} {n k : Nat} {cs : Array Value} (h : NumR t a n k cs) (hk : k < n) : NumR t a n (k + 1) (cs.setIfInBounds k (.int .i64 (cnt t a k : Int))) :=
  ⟨by simpa using h.1, fun j hj hj2 => by
    have hs := h.1
    by_cases e : j = k
    · subst e; rw [Array.getElem?_setIfInBounds_self_of_lt (by omega)]
    · rw [Array.getElem?_setIfInBounds_ne (by omega)]; exact h.2 j (by omega) hj2⟩

theorem blk_set_ne {w : World} {g : Nat} {o : Obj} (h : w.heap[g]? = some o) {p : Addr} (hp : p.block ≠ g) (u : Value) : (w.setCell p u).heap[g]? = some o := by
  obtain ⟨b, i, s⟩ := p
  cases s <;> simp [World.setCell, Array.getElem?_modify, h, hp]
theorem heap_set_ne {w : World} {g : Nat} {p : Addr} (hp : p.block ≠ g) (u : Value) : (w.setCell p u).heap[g]? = w.heap[g]? := by
  obtain ⟨b, i, s⟩ := p
  cases s <;> simp [World.setCell, Array.getElem?_modify, hp]

theorem drop_num {WB w3 : World} {N : Nat} {o o' : Obj} {v : Value} {l : List Nd} (hN : WB.heap[N]? = some o) (ho : Own cN 3 44 (WB.alloc o') (N + 1) v l) (hg : (WB.alloc o').grownBy w3 v.ownBlock) : w3.heap[N]? = some o :=
  (hg.block N (by have := blk_lt hN; simp; omega) (by intro e; have := (ho.blk N e.symm).1; omega)).trans (blk_alloc hN o')

set_option maxHeartbeats 2000000 in
theorem DropNode_t (lo : Nat) (A : Option Addr) (n c : Nat) (t : List Nd) (a : Int) (w : World) (hr : Rd cN 3 w lo A n t) (hc : n ≤ c) (h : IsNd t a) (ha : 0 < a) :
    Calls Try.prog 24 #[.slice A n c, .int .i64 a] w (DropQ w (drF t a)) := by
  have HC := Lib.hid (isNode_t lo A n c t a w hr hc h)
  have HL := Lib.hid hr.len
  have HV := Lib.hid h.1
  have hn12 : n ≤ 12 := by have := h.1.2.1; have := HL.out; omega
  have hmk := mk_ints n (by omega)
  have ha0 : (a == 0) = false := by simp; omega
  clear h
  go_enter Try.func24, Try.ntmps24
  go_wp2_with fail
  refine HC.out.mono ?_
  rintro e w1 ⟨rfl, hb1⟩
  have hs1 := hb1.size
  go_wp2_with fail
  go_loopw [7, 23] (fun v i wr => ∃ (k : Nat) (cs : Array Value), k ≤ n ∧ i = .int .i64 k ∧ Below w.heap.size w wr ∧ wr.heap[w1.heap.size]? = some (.cells cs 3 (0, 0)) ∧ NumR t a n k cs ∧ Own cN 3 44 wr (w1.heap.size + 1) v (drK t a k)) (fun _ i _ => n - (intOf i).toNat)
  case atStart => exact ⟨0, zer n, Nat.zero_le _, rfl, hb1.alloc hs1 _, heap_alloc_new w1 _, NumR.zero t a n, Own.nil _ _⟩
  case round =>
    rename World => W1
    obtain ⟨k, cs, hk, rfl, hbl, hN, hcs, ho⟩ := hrel
    have hsb := hbl.size
    have hNl := blk_lt hN
    by_cases hlt : k < n
    case neg =>
      have HE : Hid (drK t a k = drF t a) := by show _ = _; rw [show k = t.length by rw [HL.out]; omega]; rfl
      have HO := Lib.hid (ho.low (show w.heap.size ≤ w1.heap.size + 1 by omega))
      clear ho
      go_wp2_with fail
      refine bodyPost_ret (v := .tuple #[u7, .bool true]) (by simp [results, Try.results24, go_sem]) rfl ?_
      exact ⟨u7, rfl, by rw [← HE.out]; exact HO.out, hbl⟩
    obtain ⟨b, o, x, rfl, _, hb, hx, g0, g1, g2⟩ := (hr.below hbl).atN hlt
    have HR := Lib.hid (fun w' (hb' : Below w.heap.size w w') => reaches_any lo _ n c t a (k : Int) w' (hr.below hb') HV.out (by omega) (by omega) (by omega))
    cases hs : stay t a k with
    | false =>
      have hd : decide (a ∈ upI t (k : Int)) = true := by unfold stay at hs; simpa using hs
      rw [hd] at HR
      have HS := Lib.hid hs
      have hb2 := hbl.alloc hsb (.cells #[.int .i64 x.par, .string x.name, .int .i64 x.val] 44)
      clear hs hd hx
      go_wp2_with fail
      refine (HR.out _ hb2).mono ?_
      rintro e w5 ⟨rfl, rfl⟩
      go_wp2_with fail
      go_roundw
      case rel => exact ⟨k + 1, cs, by omega, by go_num, hb2, blk_alloc hN _, hcs.skip HS.out, by rw [drK_n HS.out]; exact ho.alloc _⟩
      case measure => simp [intOf]; omega
    | true =>
      have hd : decide (a ∈ upI t (k : Int)) = false := by unfold stay at hs; simpa using hs
      rw [hd] at HR
      have HS := Lib.hid hs
      have HK := Lib.hid (drK_y hx hs)
      have HNX := Lib.hid (hcs.step hlt)
      have hm : (drK t a k).length = cnt t a k := drK_len k (by rw [HL.out]; omega)
      have hck := cnt_le (t := t) (a := a) k
      have HLN : Hid ((drK t a k).length ≤ k) := by show _ ≤ _; omega
      obtain ⟨A2, m, c2, rfl, hmc, hrd2⟩ := ho.rdn elN.len (by omega)
      have hmc : (m : Int) = (cnt t a k : Int) := by have := hrd2.len; omega
      have hb2 := hbl.alloc hsb (.cells #[.int .i64 x.par, .string x.name, .int .i64 x.val] 44)
      have hob := ho.blk
      have HRR := HR.out _ hb2
      have hgz : (W1.alloc (.cells #[.int .i64 x.par, .string x.name, .int .i64 x.val] 44)).heap.size = W1.heap.size + 1 := by simp
      have hN2 := blk_alloc hN (.cells #[.int .i64 x.par, .string x.name, .int .i64 x.val] 44)
      have hS2 : (W1.alloc (.cells #[.int .i64 x.par, .string x.name, .int .i64 x.val] 44)).heap[W1.heap.size]? = some (.cells #[.int .i64 x.par, .string x.name, .int .i64 x.val] 44 (0, 0)) := heap_alloc_new W1 _
      have ho2 := ho.alloc (.cells #[.int .i64 x.par, .string x.name, .int .i64 x.val] 44)
      have HRQ := Lib.hid HRR
      clear hs hd HRR hr HR ho hrd2 hN hm
      go_wp2_with fail
      refine HRQ.out.mono ?_
      rintro e W2 ⟨rfl, hw2⟩
      rw [hw2] at hb2 hgz hN2 hS2 ho2
      clear hw2 HRQ
      obtain ⟨old, hold⟩ : ∃ u, cs[k]? = some u := ⟨_, Array.getElem?_eq_getElem (by have := hcs.1; omega)⟩
      have d2 := blk_cell hN2 hold
      have d3 := blk_free hN2 k
      have hne : w1.heap.size ≠ W1.heap.size := by omega
      have hNB := blk_set hN2 k (.int .i64 (m : Int))
      have hSB := blk_set_ne hS2 (p := ⟨w1.heap.size, k, none⟩) hne (.int .i64 (m : Int))
      have hbB := hb2.setCell (p := ⟨w1.heap.size, k, none⟩) hs1 (.int .i64 (m : Int))
      have hoB : Own cN 3 44 (W2.setCell ⟨w1.heap.size, k, none⟩ (.int .i64 (m : Int))) (w1.heap.size + 1) (.slice A2 m c2) (drK t a k) := ho2.keep fun b' hlo _ _ => heap_set_ne (by show w1.heap.size ≠ b'; omega) _
      have hszB : (W2.setCell ⟨w1.heap.size, k, none⟩ (.int .i64 (m : Int))).heap.size = W1.heap.size + 1 := by rw [← hgz]; simp [World.setCell]
      have HNX' : Hid (NumR t a n (k + 1) (cs.setIfInBounds k (.int .i64 (m : Int)))) := by show NumR _ _ _ _ _; rw [hmc]; exact HNX.out
      have e0 := blk_cell hS2 (i := 0) (v := .int .i64 x.par) rfl
      have e1 := blk_cell hS2 (i := 1) (v := .string x.name) rfl
      have e2 := blk_cell hS2 (i := 2) (v := .int .i64 x.val) rfl
      have f0 := blk_free hS2 0
      rcases Nat.eq_zero_or_pos k with e | hk0
      · subst e
        have HH := Lib.hid (And.intro hNB (And.intro hbB (And.intro hoB hszB)))
        clear hN2 hS2 ho2 hb2 hold hx hNB hbB hoB hszB hcs hmc hSB
        go_wp2_with (at_builtin; refine wpList_append_rd elN _ rfl (.tmp 45) (.tmp 47) rfl rfl (HH.out.2.2.1.alloc _) rfl (Rd_oneg _ #[.int .i64 x.par, .string x.name, .int .i64 x.val] 44 x rfl _ HH.out.2.2.2) (by have := HLN.out; omega) (by have := HH.out.2.2.2; simp; omega) ?_; intro v3 w3 ho3 hg3 _)
        have hb3 := below_own (HH.out.2.1.alloc HH.out.2.1.size _) (HH.out.2.2.1.alloc _) hg3 (by omega) (by have := HH.out.2.2.2; simp; omega)
        have hN3 := drop_num HH.out.1 (HH.out.2.2.1.alloc _) hg3
        go_roundw
        case rel => exact ⟨0 + 1, _, by omega, by go_num, hb3, hN3, HNX'.out, by rw [HK.out, rn_zero]; exact ho3⟩
        case measure => simp [intOf]; omega
      · have hp := HV.out.parp hx hk0
        obtain ⟨p, hpe⟩ := Int.eq_ofNat_of_zero_le hp.1
        have hsp := stay_par HV.out hx hk0 HS.out
        have hcp := cnt_par HV.out hx hk0 HS.out
        rw [hpe] at e0 hp hsp hcp
        rw [Int.toNat_natCast] at hsp hcp
        have hpk : p < k := by omega
        have hnp := hcs.2 p hpk hsp
        have d4 : (W2.setCell ⟨w1.heap.size, k, none⟩ (.int .i64 (m : Int))).cell? ⟨w1.heap.size, p, none⟩ = some (.int .i64 (cnt t a p : Int)) := blk_cell hNB (by rw [Array.getElem?_setIfInBounds_ne (by omega)]; exact hnp)
        have HRN : Hid (rn t a k x = ⟨(cnt t a p : Int), x.name, x.val⟩) := by show _ = _; rw [rn_pos hk0, hpe, Int.toNat_natCast]
        have hNC := blk_set_ne hNB (p := ⟨W1.heap.size, 0, none⟩) (Ne.symm hne) (.int .i64 (cnt t a p : Int))
        have hbC := hbB.setCell (p := ⟨W1.heap.size, 0, none⟩) hsb (.int .i64 (cnt t a p : Int))
        have hoC : Own cN 3 44 ((W2.setCell ⟨w1.heap.size, k, none⟩ (.int .i64 (m : Int))).setCell ⟨W1.heap.size, 0, none⟩ (.int .i64 (cnt t a p : Int))) (w1.heap.size + 1) (.slice A2 m c2) (drK t a k) := hoB.keep fun b' _ _ hb' => heap_set_ne (by show W1.heap.size ≠ b'; have := (hob b' hb').2; omega) _
        have hszC : ((W2.setCell ⟨w1.heap.size, k, none⟩ (.int .i64 (m : Int))).setCell ⟨W1.heap.size, 0, none⟩ (.int .i64 (cnt t a p : Int))).heap.size = W1.heap.size + 1 := by rw [← hszB]; simp [World.setCell]
        have HH := Lib.hid (And.intro hNC (And.intro hbC (And.intro hoC hszC)))
        have hk1 : (0 : Int) < (k : Int) := by omega
        clear hN2 hS2 ho2 hb2 hold hx hNB hbB hoB hszB hcs hmc hSB hNC hbC hoC hszC hp hsp hcp hpe hnp
        go_wp2_with (at_builtin; go_loud (refine wpList_append_rd elN _ rfl (.tmp 45) (.tmp 47) rfl rfl (HH.out.2.2.1.alloc _) rfl (Rd_oneg _ #[.int .i64 (cnt t a p : Int), .string x.name, .int .i64 x.val] 44 ⟨(cnt t a p : Int), x.name, x.val⟩ rfl _ HH.out.2.2.2) (by have := HLN.out; omega) (by have := HH.out.2.2.2; simp; omega) ?_); intro v3 w3 ho3 hg3 _)
        have hb3 := below_own (HH.out.2.1.alloc HH.out.2.1.size _) (HH.out.2.2.1.alloc _) hg3 (by omega) (by have := HH.out.2.2.2; simp; omega)
        have hN3 := drop_num HH.out.1 (HH.out.2.2.1.alloc _) hg3
        go_roundw
        case rel => exact ⟨k + 1, _, by omega, by go_num, hb3, hN3, HNX'.out, by rw [HK.out, HRN.out]; exact ho3⟩
        case measure => simp [intOf]; omega

theorem drop_num2 {WB w3 : World} {N : Nat} {o o' : Obj} {v : Value} (hN : WB.heap[N]? = some o) (hv : v.ownBlock ≠ some N) (hg : (WB.alloc o').grownBy w3 v.ownBlock) : w3.heap[N]? = some o :=
  (hg.block N (by have := blk_lt hN; simp; omega) (fun e => hv e.symm)).trans (blk_alloc hN o')

set_option maxHeartbeats 2000000 in
theorem without_any (lo : Nat) (A : Option Addr) (n c : Nat) (t : List Nd) (a : Int) (w : World) (hr : Rd cN 3 w lo A n t) (hv : VT t) (ha : 0 < a) :
    Calls Try.prog 57 #[.slice A n c, .int .i64 a] w (OwnQ w (drF t a)) := by
  have HL := Lib.hid hr.len
  have HV := Lib.hid hv
  have hn12 : n ≤ 12 := by have := hv.2.1; have := HL.out; omega
  have hmk := mk_ints n (by omega)
  clear hv
  go_enter Try.func57, Try.ntmps57
  go_wp2_with fail
  go_loopw [5, 7] (fun v i wr => ∃ (k : Nat) (cs : Array Value), k ≤ n ∧ i = .int .i64 k ∧ Below w.heap.size w wr ∧ wr.heap[w.heap.size + 1]? = some (.cells cs 3 (0, 0)) ∧ NumR t a n k cs ∧ Own cN 3 44 wr w.heap.size v (drK t a k) ∧ v.ownBlock ≠ some (w.heap.size + 1)) (fun _ i _ => n - (intOf i).toNat)
  case atStart =>
    refine ⟨0, zer n, Nat.zero_le _, rfl, ((Below.refl _ _).alloc (Nat.le_refl _) _).alloc (by simp) _, ?_, NumR.zero t a n, (Own.empty w elN.len).alloc _, ?_⟩
    · have := heap_alloc_new (w.alloc (.cells #[] 44)) (.cells (zer n) 3)
      simpa using this
    · intro e; simp [Value.ownBlock] at e
  case round =>
    rename World => W1
    obtain ⟨k, cs, hk, rfl, hbl, hN, hcs, ho, hvN⟩ := hrel
    have hsb := hbl.size
    have hNl := blk_lt hN
    by_cases hlt : k < n
    case neg =>
      have HE : Hid (drK t a k = drF t a) := by show _ = _; rw [show k = t.length by rw [HL.out]; omega]; rfl
      have HO := Lib.hid ho
      clear ho
      go_wp2_with fail
      go_ret
      exact ⟨_, rfl, by rw [← HE.out]; exact HO.out, hbl⟩
    obtain ⟨b, o, x, rfl, _, hb, hx, g0, g1, g2⟩ := (hr.below hbl).atN hlt
    have HR := Lib.hid (fun w' (hb' : Below w.heap.size w w') => aboveS_any lo _ n c t a (k : Int) w' (hr.below hb') HV.out (by omega) (by omega) (by omega))
    cases hs : stay t a k with
    | false =>
      have hd : decide (a ∈ upI t (k : Int)) = true := by unfold stay at hs; simpa using hs
      rw [hd] at HR
      have HS := Lib.hid hs
      clear hs hd hx
      go_wp2_with fail
      refine (HR.out _ hbl).mono ?_
      rintro e w5 ⟨rfl, rfl⟩
      go_wp2_with fail
      go_roundw
      case rel => exact ⟨k + 1, cs, by omega, by go_num, hbl, hN, hcs.skip HS.out, by rw [drK_n HS.out]; exact ho, hvN⟩
      case measure => simp [intOf]; omega
    | true =>
      have hd : decide (a ∈ upI t (k : Int)) = false := by unfold stay at hs; simpa using hs
      rw [hd] at HR
      have HS := Lib.hid hs
      have HK := Lib.hid (drK_y hx hs)
      have HNX := Lib.hid (hcs.step hlt)
      have hm : (drK t a k).length = cnt t a k := drK_len k (by rw [HL.out]; omega)
      have hck := cnt_le (t := t) (a := a) k
      have HLN : Hid ((drK t a k).length ≤ k) := by show _ ≤ _; omega
      obtain ⟨A2, m, c2, rfl, hmc, hrd2⟩ := ho.rdn elN.len (by omega)
      have hmc : (m : Int) = (cnt t a k : Int) := by have := hrd2.len; omega
      have HRQ := Lib.hid (HR.out _ hbl)
      have hob := ho.blk
      have hNB := blk_set hN k (.int .i64 (m : Int))
      have hbB := hbl.setCell (p := ⟨w.heap.size + 1, k, none⟩) (by show w.heap.size ≤ w.heap.size + 1; omega) (.int .i64 (m : Int))
      have hoB : Own cN 3 44 (W1.setCell ⟨w.heap.size + 1, k, none⟩ (.int .i64 (m : Int))) w.heap.size (.slice A2 m c2) (drK t a k) := ho.keep fun b' _ _ hb' => heap_set_ne (by show w.heap.size + 1 ≠ b'; intro e; exact hvN (by rw [hb', e])) _
      have hszB : (W1.setCell ⟨w.heap.size + 1, k, none⟩ (.int .i64 (m : Int))).heap.size = W1.heap.size := by simp [World.setCell]
      have HNX' : Hid (NumR t a n (k + 1) (cs.setIfInBounds k (.int .i64 (m : Int)))) := by show NumR _ _ _ _ _; rw [hmc]; exact HNX.out
      have HH := Lib.hid (And.intro hNB (And.intro hbB (And.intro hoB hszB)))
      have hne : w.heap.size + 1 ≠ W1.heap.size := by omega
      obtain ⟨old, hold⟩ : ∃ u, cs[k]? = some u := ⟨_, Array.getElem?_eq_getElem (by have := hcs.1; omega)⟩
      have d2 := blk_cell hN hold
      have d3 := blk_free hN k
      have HSZ : Hid (∀ o : Obj, ((W1.setCell ⟨w.heap.size + 1, k, none⟩ (.int .i64 (m : Int))).alloc o).heap.size = W1.heap.size + 1) := fun o => by simp [hszB]
      rcases Nat.eq_zero_or_pos k with e | hk0
      · subst e
        simp only [Nat.zero_mul, Nat.add_zero] at g0 g1 g2
        clear hold hx hNB hbB hoB hszB hcs hmc hs hd hr HR ho hrd2 hN hm
        go_wp2_with fail
        refine HRQ.out.mono ?_
        rintro e w5 ⟨rfl, rfl⟩
        go_wp2_with (at_builtin; go_loud (refine wpList_append_rd elN _ rfl (.tmp 40) (.tmp 42) rfl rfl ((HH.out.2.2.1.alloc _).alloc _) rfl (Rd_oneg _ #[.int .i64 x.par, .string x.name, .int .i64 x.val] 44 x rfl _ (HSZ.out _)) (by have := HLN.out; omega) (by have := HH.out.2.2.2; simp; omega) ?_); intro v3 w3 ho3 hg3 hv3)
        have hb3 := below_own ((HH.out.2.1.alloc HH.out.2.1.size _).alloc (by have := HH.out.2.1.size; simp; omega) _) ((HH.out.2.2.1.alloc _).alloc _) hg3 (by omega) (by have := HH.out.2.2.2; simp; omega)
        have hN3 := drop_num2 (blk_alloc HH.out.1 _) hvN hg3
        have HV3 : Hid (v3.ownBlock ≠ some (w.heap.size + 1)) := by
          show _ ≠ _
          rcases hv3 with h | h
          · rw [h]; exact hvN
          · rw [h]
            have h1 := HH.out.2.2.2
            intro e
            injection e with e
            simp at e
            omega
        go_roundw
        case rel => exact ⟨0 + 1, _, by omega, by go_num, hb3, hN3, HNX'.out, by rw [HK.out, rn_zero]; exact ho3, HV3.out⟩
        case measure => simp [intOf]; omega
      · have hp := HV.out.parp hx hk0
        obtain ⟨p, hpe⟩ := Int.eq_ofNat_of_zero_le hp.1
        have hsp := stay_par HV.out hx hk0 HS.out
        have hcp := cnt_par HV.out hx hk0 HS.out
        rw [hpe] at g0 hp hsp hcp
        rw [Int.toNat_natCast] at hsp hcp
        have hpk : p < k := by omega
        have hnp := hcs.2 p hpk hsp
        have d4 := blk_cell hN hnp
        have HRN : Hid (rn t a k x = ⟨(cnt t a p : Int), x.name, x.val⟩) := by show _ = _; rw [rn_pos hk0, hpe, Int.toNat_natCast]
        have hk1 : (0 : Int) < (k : Int) := by omega
        clear hold hx hNB hbB hoB hszB hcs hmc hs hd hr HR ho hrd2 hN hm hp hsp hcp hpe hnp
        go_wp2_with fail
        refine HRQ.out.mono ?_
        rintro e w5 ⟨rfl, rfl⟩
        go_wp2_with (at_builtin; go_loud (refine wpList_append_rd elN _ rfl (.tmp 40) (.tmp 42) rfl rfl ((HH.out.2.2.1.alloc _).alloc _) rfl (Rd_oneg _ #[.int .i64 (cnt t a p : Int), .string x.name, .int .i64 x.val] 44 ⟨(cnt t a p : Int), x.name, x.val⟩ rfl _ (HSZ.out _)) (by have := HLN.out; omega) (by have := HH.out.2.2.2; simp; omega) ?_); intro v3 w3 ho3 hg3 hv3)
        have hb3 := below_own ((HH.out.2.1.alloc HH.out.2.1.size _).alloc (by have := HH.out.2.1.size; simp; omega) _) ((HH.out.2.2.1.alloc _).alloc _) hg3 (by omega) (by have := HH.out.2.2.2; simp; omega)
        have hN3 := drop_num2 (blk_alloc HH.out.1 _) hvN hg3
        have HV3 : Hid (v3.ownBlock ≠ some (w.heap.size + 1)) := by
          show _ ≠ _
          rcases hv3 with h | h
          · rw [h]; exact hvN
          · rw [h]
            have h1 := HH.out.2.2.2
            intro e
            injection e with e
            simp at e
            omega
        go_roundw
        case rel => exact ⟨k + 1, _, by omega, by go_num, hb3, hN3, HNX'.out, by rw [HK.out, HRN.out]; exact ho3, HV3.out⟩
        case measure => simp [intOf]; omega
end Go.Proofs.Ytmnlelpfbnagpaa
