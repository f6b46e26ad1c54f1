/- The walk over the program's runAll. -/
import Derived.Test.YtgpocjehiohimaaDoorPickW
import Derived.Deep.RegionLaw
namespace Go.Proofs.YtgpocjehiohimaaDoor
open Go.RowKit

/-- Four lists that read as a run's state. -/
structure MacR (w : World) (lo : Nat) (v1 v2 v3 v4 : Value) (m : Mc) : Prop where
  vals : ∃ A n c, v1 = .slice A n c ∧ n ≤ c ∧ Rd cI 1 w lo A n m.vals
  place : ∃ A n c, v2 = .slice A n c ∧ n ≤ c ∧ Rd cI 1 w lo A n m.place
  fin : ∃ A n c, v3 = .slice A n c ∧ n ≤ c ∧ Rd cI 1 w lo A n m.fin
  tab : ∃ A n c, v4 = .slice A n c ∧ n ≤ c ∧ Rd cL 3 w lo A n m.tab
theorem MacR.keep {w w' : World} {lo : Nat} {v1 v2 v3 v4 : Value} {m : Mc} (h : MacR w lo v1 v2 v3 v4 m) (hs : w.heap.size ≤ w'.heap.size) (hk : ∀ b, lo ≤ b → b < w.heap.size → w'.heap[b]? = w.heap[b]?) : MacR w' lo v1 v2 v3 v4 m := by
  obtain ⟨⟨A1, n1, c1, e1, h1, r1⟩, ⟨A2, n2, c2, e2, h2, r2⟩, ⟨A3, n3, c3, e3, h3, r3⟩, ⟨A4, n4, c4, e4, h4, r4⟩⟩ := h
  exact ⟨⟨A1, n1, c1, e1, h1, r1.keep hs hk⟩, ⟨A2, n2, c2, e2, h2, r2.keep hs hk⟩, ⟨A3, n3, c3, e3, h3, r3.keep hs hk⟩, ⟨A4, n4, c4, e4, h4, r4.keep hs hk⟩⟩
theorem MacR.below {w w' : World} {lo : Nat} {v1 v2 v3 v4 : Value} {m : Mc} (h : MacR w lo v1 v2 v3 v4 m) (hb : Below w.heap.size w w') : MacR w' lo v1 v2 v3 v4 m := h.keep hb.size fun b _ hlt => hb.block b hlt
theorem MacR.low {w : World} {lo lo' : Nat} {v1 v2 v3 v4 : Value} {m : Mc} (h : MacR w lo v1 v2 v3 v4 m) (hl : lo' ≤ lo) : MacR w lo' v1 v2 v3 v4 m := by
  obtain ⟨⟨A1, n1, c1, e1, h1, r1⟩, ⟨A2, n2, c2, e2, h2, r2⟩, ⟨A3, n3, c3, e3, h3, r3⟩, ⟨A4, n4, c4, e4, h4, r4⟩⟩ := h
  exact ⟨⟨A1, n1, c1, e1, h1, r1.low hl⟩, ⟨A2, n2, c2, e2, h2, r2.low hl⟩, ⟨A3, n3, c3, e3, h3, r3.low hl⟩, ⟨A4, n4, c4, e4, h4, r4.low hl⟩⟩
theorem RunS.mac {w : World} {base gr gv gn n k : Nat} {vo vt : Value} {m : Mc} (h : RunS w base gr gv gn n k vo vt m) (hn : m.vals.length = n) (hk : m.place.length = k) (hn1 : n ≤ 1000) (hk1 : k ≤ 1000) (hf : m.fin.length ≤ 1000) (ht : m.tab.length ≤ 1000) :
    MacR w base (.slice (some ⟨gv, 0, none⟩) n n) (.slice (some ⟨gn, 0, none⟩) k k) vo vt m := by
  subst hn hk
  exact ⟨⟨_, _, _, rfl, Nat.le_refl _, rd_iA h.hv h.lv (by omega)⟩, ⟨_, _, _, rfl, Nat.le_refl _, rd_iA h.hn h.ln (by omega)⟩, h.order.rdn elI.len (by omega), h.tab.rdn elL.len (by omega)⟩

/-- What runAll hands back. -/
def RunY (w : World) (P : Prop) (m : Mc) (e : Ending) (w' : World) : Prop :=
  (P ∧ ∃ v1 v2 v3 v4, e = .returned (.tuple #[.agg #[v1, v2, v3, v4], .bool true]) ∧ MacR w' w.heap.size v1 v2 v3 v4 m ∧ Below w.heap.size w w') ∨
  (¬ P ∧ e = .returned (.tuple #[.agg #[.slice none 0 0, .slice none 0 0, .slice none 0 0, .slice none 0 0], .bool false]) ∧ Below w.heap.size w w')
/-- The lists of a run are the call's own: they may be written. -/
structure MacO (w : World) (lo : Nat) (v1 v3 v4 : Value) (m : Mc) : Prop where
  vals : Own cI 1 3 w lo v1 m.vals
  fin : Own cI 1 3 w lo v3 m.fin
  tab : Own cL 3 67 w lo v4 m.tab
theorem flat_cI : ∀ l : List Int, l.flatMap cI = l.map (Value.int .i64)
  | [] => rfl
  | x :: r => by rw [List.flatMap_cons, List.map_cons, flat_cI r]; rfl
theorem own_iA {w : World} {g lo : Nat} {l : List Int} (h : w.heap[g]? = some (.cells (iA l) 3 (0, 0))) (hlo : lo ≤ g) (hl : l.length ≤ 1000000) : Own cI 1 3 w lo (.slice (some ⟨g, 0, none⟩) l.length l.length) l := by
  have e := flat_cI l
  refine ⟨by rw [flat_len elI.len], .inr ⟨g, l.length, iA l, rfl, hlo, h, Nat.le_refl _, by simp only [maxLen]; omega, by unfold iA; simp, ?_⟩⟩
  rw [e]
  unfold iA
  simp only [Nat.mul_one]
  exact List.take_of_length_le (by simp)
theorem MacO.set4 {w : World} {lo g : Nat} {v1 v3 v4 : Value} {m : Mc} (h : MacO w lo v1 v3 v4 m) (hg : g < lo) (u0 u1 u2 u3 : Value) : MacO ((((w.setCell ⟨g, 0, none⟩ u0).setCell ⟨g, 1, none⟩ u1).setCell ⟨g, 2, none⟩ u2).setCell ⟨g, 3, none⟩ u3) lo v1 v3 v4 m := by
  have n1 : v1.ownBlock ≠ some g := fun e => by have := (h.vals.blk _ e).1; omega
  have n3 : v3.ownBlock ≠ some g := fun e => by have := (h.fin.blk _ e).1; omega
  have n4 : v4.ownBlock ≠ some g := fun e => by have := (h.tab.blk _ e).1; omega
  exact ⟨(((h.vals.keepc n1 0 u0).keepc n1 1 u1).keepc n1 2 u2).keepc n1 3 u3, (((h.fin.keepc n3 0 u0).keepc n3 1 u1).keepc n3 2 u2).keepc n3 3 u3, (((h.tab.keepc n4 0 u0).keepc n4 1 u1).keepc n4 2 u2).keepc n4 3 u3⟩
theorem MacO.below {w w' : World} {lo : Nat} {v1 v3 v4 : Value} {m : Mc} (h : MacO w lo v1 v3 v4 m) (hb : Below w.heap.size w w') : MacO w' lo v1 v3 v4 m := ⟨h.vals.below hb, h.fin.below hb, h.tab.below hb⟩
theorem MacO.low {w : World} {lo lo' : Nat} {v1 v3 v4 : Value} {m : Mc} (h : MacO w lo v1 v3 v4 m) (hl : lo' ≤ lo) : MacO w lo' v1 v3 v4 m := ⟨h.vals.low hl, h.fin.low hl, h.tab.low hl⟩
def RunYO (w : World) (P : Prop) (m : Mc) (e : Ending) (w' : World) : Prop :=
  (P ∧ ∃ v1 v2 v3 v4, e = .returned (.tuple #[.agg #[v1, v2, v3, v4], .bool true]) ∧ MacR w' w.heap.size v1 v2 v3 v4 m ∧ Below w.heap.size w w' ∧ MacO w' w.heap.size v1 v3 v4 m) ∨
  (¬ P ∧ e = .returned (.tuple #[.agg #[.slice none 0 0, .slice none 0 0, .slice none 0 0, .slice none 0 0], .bool false]) ∧ Below w.heap.size w w')
theorem init_step {t : List Nd} {n j : Nat} {x : Nd} (hn : t.length = n) (hx : t[j]? = some x) : ((t.map Nd.val).take j ++ List.replicate (n - j) 0).set j x.val = (t.map Nd.val).take (j + 1) ++ List.replicate (n - (j + 1)) 0 := by
  have hj := (List.getElem?_eq_some_iff.1 hx).1
  have hl : ((t.map Nd.val).take j).length = j := by rw [List.length_take, List.length_map]; omega
  have hx' : (t.map Nd.val)[j]? = some x.val := by rw [List.getElem?_map, hx]; rfl
  rw [List.set_append_right _ _ (by omega), hl, Nat.sub_self, take_snoc hx', List.append_assoc]
  congr 1
  rw [show n - j = (n - (j + 1)) + 1 by omega, List.replicate_succ, List.set_cons_zero]
  rfl
theorem startM_len {t : List Nd} {sc : List (List Dd)} : (startM t sc).vals.length = t.length ∧ (startM t sc).place.length = sc.length := by unfold startM; simp

theorem lay3 (W : World) (o1 o2 o3 : Obj) : (((W.alloc o1).alloc o2).alloc o3).drew.heap[W.heap.size]? = some o1 ∧ (((W.alloc o1).alloc o2).alloc o3).drew.heap[W.heap.size + 1]? = some o2 ∧ (((W.alloc o1).alloc o2).alloc o3).drew.heap[W.heap.size + 1 + 1]? = some o3 ∧
    Below W.heap.size W (((W.alloc o1).alloc o2).alloc o3).drew := by
  have h1 := blk_alloc (blk_alloc (heap_alloc_new W o1) o2) o3
  have h2 := blk_alloc (heap_alloc_new (W.alloc o1) o2) o3
  have h3 := heap_alloc_new ((W.alloc o1).alloc o2) o3
  rw [World.size_alloc] at h2
  rw [World.size_alloc, World.size_alloc] at h3
  exact ⟨h1, h2, h3, ((((Below.refl W.heap.size W).alloc (Nat.le_refl _) o1).alloc (by simp) o2).alloc (by simp; omega) o3).drew⟩
theorem RunS.init {w : World} {base gr gv gn n k : Nat} (hr : w.heap[gr]? = some (.cells #[.slice (some ⟨gv, 0, none⟩) n n, .slice (some ⟨gn, 0, none⟩) k k, .slice none 0 0, .slice none 0 0] 62 (0, 0)))
    (hv : w.heap[gv]? = some (.cells (zer n) 3 (0, 0))) (hn : w.heap[gn]? = some (.cells (zer k) 3 (0, 0))) (ne : gv ≠ gn) (h1 : base ≤ gr) (h2 : base ≤ gv) (h3 : base ≤ gn) :
    RunS w base gr gv gn n k (.slice none 0 0) (.slice none 0 0) ⟨List.replicate n 0, List.replicate k 0, [], []⟩ :=
  ⟨hr, by rw [hv]; unfold zer; rw [iA_zero], by rw [hn]; unfold zer; rw [iA_zero], ne, h1, h2, h3, Own.nil _ _, by simp [Value.ownBlock], by simp [Value.ownBlock], Own.nil _ _⟩
set_option maxRecDepth 100000 in
set_option maxHeartbeats 6400000 in
theorem runAll_own (lo lo2 lo3 : Nat) (A A2 A3 : Option Addr) (n c n2 c2 n3 c3 : Nat) (t : List Nd) (sc : List (List Dd)) (ps : List Int) (w : World) (hr : Rd cN 3 w lo A n t) (hc : n ≤ c) (hr2 : Rds cD 2 w lo2 A2 n2 sc) (hr3 : Rd cI 1 w lo3 A3 n3 ps) (hT : Tb w) :
    Calls Tryd.prog 39 #[.slice A n c, .slice A2 n2 c2, .slice A3 n3 c3] w (RunYO w (VR t sc ps) (runM t sc ps)) := by
  have HL := Lib.hid hr.len
  have HL2 := Lib.hid hr2.len
  have HL3 := Lib.hid hr3.len
  have hle := hr.le
  have hle2 := hr2.le
  have hle3 := hr3.le
  have hbA := (Below.refl w.heap.size w).alloc (Nat.le_refl _) (.cells #[.slice none 0 0, .slice none 0 0, .slice none 0 0, .slice none 0 0] 62)
  have hBK := heap_alloc_new w (.cells #[.slice none 0 0, .slice none 0 0, .slice none 0 0, .slice none 0 0] 62)
  have HV := Lib.hid (ValidScripts_any lo lo2 A A2 n c n2 c2 t sc (w.alloc (.cells #[.slice none 0 0, .slice none 0 0, .slice none 0 0, .slice none 0 0] 62)) (hr.alloc _) hc (hr2.alloc _))
  by_cases hv : VT t ∧ VSc t sc
  case neg =>
    rw [scB_f hv] at HV
    have HN : Hid (¬ VR t sc ps) := fun h => hv ⟨h.1, h.2.1⟩
    clear hv
    go_enter Tryd.func39, Tryd.ntmps39
    go_wp2_with fail
    refine HV.out.mono ?_
    rintro e w1 ⟨rfl, hb1⟩
    have hB1 := blk_below hBK hb1
    have q0 := blk_cell hB1 (i := 0) rfl
    have q1 := blk_cell hB1 (i := 1) rfl
    have q2 := blk_cell hB1 (i := 2) rfl
    have q3 := blk_cell hB1 (i := 3) rfl
    have qf := blk_free hB1
    go_wp2_with fail
    refine bodyPost_ret (v := .tuple #[.agg #[.slice none 0 0, .slice none 0 0, .slice none 0 0, .slice none 0 0], .bool false]) (by simp [results, Tryd.results39, go_sem, q0, q1, q2, q3]) rfl ?_
    refine .inr ⟨HN.out, rfl, ?_⟩
    exact (((((hbA.trans (hb1.mono hbA.size)).setCell (p := ⟨w.heap.size, 0, none⟩) (Nat.le_refl _) _).setCell (p := ⟨w.heap.size, 1, none⟩) (Nat.le_refl _) _).setCell (p := ⟨w.heap.size, 2, none⟩) (Nat.le_refl _) _).setCell (p := ⟨w.heap.size, 3, none⟩) (Nat.le_refl _) _)
  rw [scB_t hv.1 hv.2] at HV
  by_cases h16 : n3 ≤ 16
  case neg =>
    have HN : Hid (¬ VR t sc ps) := fun h => h16 (by have := h.2.2.1; have := HL3.out; omega)
    have h16' : (16 : Int) < (n3 : Int) := by omega
    clear hv h16
    go_enter Tryd.func39, Tryd.ntmps39
    go_wp2_with fail
    refine HV.out.mono ?_
    rintro e w1 ⟨rfl, hb1⟩
    have hB1 := blk_below hBK hb1
    have q0 := blk_cell hB1 (i := 0) rfl
    have q1 := blk_cell hB1 (i := 1) rfl
    have q2 := blk_cell hB1 (i := 2) rfl
    have q3 := blk_cell hB1 (i := 3) rfl
    have qf := blk_free hB1
    go_wp2_with fail
    refine bodyPost_ret (v := .tuple #[.agg #[.slice none 0 0, .slice none 0 0, .slice none 0 0, .slice none 0 0], .bool false]) (by simp [results, Tryd.results39, go_sem, q0, q1, q2, q3]) rfl ?_
    refine .inr ⟨HN.out, rfl, ?_⟩
    exact (((((hbA.trans (hb1.mono hbA.size)).setCell (p := ⟨w.heap.size, 0, none⟩) (Nat.le_refl _) _).setCell (p := ⟨w.heap.size, 1, none⟩) (Nat.le_refl _) _).setCell (p := ⟨w.heap.size, 2, none⟩) (Nat.le_refl _) _).setCell (p := ⟨w.heap.size, 3, none⟩) (Nat.le_refl _) _)
  have h16' : ¬ (16 : Int) < (n3 : Int) := by omega
  have HVV := Lib.hid hv
  have hn12 : n ≤ 12 := by have := hv.1.2.1; have := HL.out; omega
  have hn24 : n2 ≤ 4 := by have := hv.2.1; have := HL2.out; omega
  have HMN := mk_ints n (by omega)
  have HMK := mk_ints n2 (by omega)
  clear hv
  go_enter Tryd.func39, Tryd.ntmps39
  go_wp2_with fail
  refine HV.out.mono ?_
  rintro e w1 ⟨rfl, hb1⟩
  have hB1 := blk_below hBK hb1
  have hbb := hbA.trans (hb1.mono hbA.size)
  have hs1 := hbb.size
  have hs1' : w.heap.size < w1.heap.size := blk_lt hB1
  have hr1 := (hr.alloc (.cells #[.slice none 0 0, .slice none 0 0, .slice none 0 0, .slice none 0 0] 62)).below hb1
  have hrs1 := (hr2.alloc (.cells #[.slice none 0 0, .slice none 0 0, .slice none 0 0, .slice none 0 0] 62)).below hb1
  have hrp1 := (hr3.alloc (.cells #[.slice none 0 0, .slice none 0 0, .slice none 0 0, .slice none 0 0] 62)).below hb1
  have hT1 := (hT.alloc (.cells #[.slice none 0 0, .slice none 0 0, .slice none 0 0, .slice none 0 0] 62)).below hb1
  clear hr hr2 hr3 hT HV
  go_upto_region 3 with fail
  go_cut [8] (fun v8 wx => ∃ gr gv gn, v8 = .pointer (some ⟨gr, 0, none⟩) ∧ RunS wx w1.heap.size gr gv gn n n2 (.slice none 0 0) (.slice none 0 0) ⟨List.replicate n 0, List.replicate n2 0, [], []⟩ ∧ Below w1.heap.size w1 wx)
  case first =>
    go_region
    all_goals (
      go_wp2_with fail
      go_meet
      apply Exists.intro
      apply Exists.intro
      apply Exists.intro
      refine ⟨rfl, ?_, (lay3 w1 _ _ _).2.2.2⟩
      first
        | exact RunS.init (lay3 w1 _ _ _).2.2.1 (lay3 w1 _ _ _).1 (lay3 w1 _ _ _).2.1 (by omega) (by omega) (by omega) (by omega)
        | exact RunS.init (lay3 w1 _ _ _).2.2.1 (lay3 w1 _ _ _).2.1 (lay3 w1 _ _ _).1 (by omega) (by omega) (by omega) (by omega)
        | exact RunS.init (lay3 w1 _ _ _).2.1 (lay3 w1 _ _ _).1 (lay3 w1 _ _ _).2.2.1 (by omega) (by omega) (by omega) (by omega)
        | exact RunS.init (lay3 w1 _ _ _).2.1 (lay3 w1 _ _ _).2.2.1 (lay3 w1 _ _ _).1 (by omega) (by omega) (by omega) (by omega)
        | exact RunS.init (lay3 w1 _ _ _).1 (lay3 w1 _ _ _).2.1 (lay3 w1 _ _ _).2.2.1 (by omega) (by omega) (by omega) (by omega)
        | exact RunS.init (lay3 w1 _ _ _).1 (lay3 w1 _ _ _).2.2.1 (lay3 w1 _ _ _).2.1 (by omega) (by omega) (by omega) (by omega))
  case rest =>
  obtain ⟨gr, gv, gn, rfl, hS0, hbc⟩ := hcut
  go_wp2_with fail
  go_loopw [32] (fun i wr => ∃ j : Nat, j ≤ n ∧ i = .int .i64 j ∧ RunS wr w1.heap.size gr gv gn n n2 (.slice none 0 0) (.slice none 0 0) ⟨(t.map Nd.val).take j ++ List.replicate (n - j) 0, List.replicate n2 0, [], []⟩ ∧ Below w1.heap.size w1 wr) (fun i _ => n - (intOf i).toNat)
  case atStart => exact ⟨0, Nat.zero_le _, rfl, by simpa using hS0, hbc⟩
  case round =>
    rename World => W1
    obtain ⟨j, hj, rfl, hS, hbl⟩ := hrel
    have hsb := hbl.size
    by_cases hlt : j < n
    case pos =>
      obtain ⟨b, o, x, rfl, _, hb, hx, p0, p1, p2⟩ := (hr1.below hbl).atN hlt
      have HIS := Lib.hid (init_step HL.out hx)
      have hbv := hS.lv
      have hSA := hS.below ((Below.refl W1.heap.size W1).alloc (Nat.le_refl _) (.cells #[.int .i64 x.par, .string x.name, .int .i64 x.val] 57))
      have e0 := blk_cell hSA.hr (i := 0) rfl
      have e1 : (W1.alloc (.cells #[.int .i64 x.par, .string x.name, .int .i64 x.val] 57)).cell? ⟨gv, j, none⟩ = some (.int .i64 0) := blk_cell hSA.hv (iA_get (by
        have h0 : ((t.map Nd.val).take j).length = j := by simp only [List.length_take, List.length_map]; have := HL.out; omega
        rw [List.getElem?_append_right (by omega)]
        have h1 : j - ((t.map Nd.val).take j).length = 0 := by omega
        rw [h1, List.getElem?_replicate, if_pos (by omega)]))
      have e2 := blk_free hSA.hv j
      have hSN := hSA.setVal j x.val
      rw [HIS.out] at hSN
      have hbN := (hbl.alloc hsb (.cells #[.int .i64 x.par, .string x.name, .int .i64 x.val] 57)).setCell (p := ⟨gv, j, none⟩) hbv (.int .i64 x.val)
      clear hx hS hSA
      go_wp2_with fail
      go_roundw
      case rel => exact ⟨j + 1, by omega, by go_num, hSN, hbN⟩
      case measure => simp [intOf]; omega
    obtain rfl : j = n := by omega
    have hS2 : RunS W1 w1.heap.size gr gv gn j n2 (.slice none 0 0) (.slice none 0 0) (runM t sc (ps.take 0)) := by
      have e : runM t sc (ps.take 0) = ⟨(t.map Nd.val).take j ++ List.replicate (j - j) 0, List.replicate n2 0, [], []⟩ := by
        rw [List.take_zero, runM_zero, List.take_of_length_le (by rw [List.length_map]; have := HL.out; omega), Nat.sub_self, List.replicate_zero, List.append_nil]
        unfold startM
        rw [HL2.out]
      rw [e]; exact hS
    clear hS hS0
    go_wp2_with fail
    go_loopw [46] (fun i wr => ∃ (q : Nat) (vo vt : Value), q ≤ n3 ∧ i = .int .i64 q ∧ RunS wr w1.heap.size gr gv gn j n2 vo vt (runM t sc (ps.take q)) ∧ Below w1.heap.size w1 wr ∧ ∀ p ∈ ps.take q, 0 ≤ p ∧ p < n2) (fun i _ => n3 - (intOf i).toNat)
    case atStart => exact ⟨0, _, _, Nat.zero_le _, rfl, hS2, hbl, fun p hp => by simp at hp⟩
    case round =>
      rename World => W2
      obtain ⟨q, vo, vt, hq, rfl, hS, hbl2, hK⟩ := hrel
      have hsb2 := hbl2.size
      have HK := Lib.hid hK
      have hR := blk_below hB1 hbl2
      clear hK
      by_cases hlt2 : q < n3
      case neg =>
        obtain rfl : q = n3 := by omega
        have hall : ps.take q = ps := List.take_of_length_le (by have := HL3.out; omega)
        rw [hall] at hS HK
        have hvr : VR t sc ps := ⟨HVV.out.1, HVV.out.2, by have := HL3.out; omega, fun p hp => by have := HK.out p hp; have := HL2.out; omega⟩
        have hinv := hvr.inv
        have HMAC := Lib.hid (hS.mac (by rw [hinv.vlen]; exact HL.out) (by rw [hinv.plen]; exact HL2.out) (by omega) (by omega) (by have := hinv.finl; have := HL2.out; omega) (by have := hinv.tab.1; omega))
        have hmo : MacO W2 w1.heap.size (.slice (some ⟨gv, 0, none⟩) j j) vo vt (runM t sc ps) := by
          have hvl : (runM t sc ps).vals.length = j := by rw [hinv.vlen]; exact HL.out
          have := own_iA hS.hv hS.lv (by omega)
          rw [hvl] at this
          exact ⟨this, hS.order, hS.tab⟩
        have HMO := Lib.hid hmo
        have HVR := Lib.hid hvr
        clear hmo
        obtain ⟨Bo, ko, do', rfl, hdo, _⟩ := id HMAC.out.fin
        obtain ⟨Bt, kt, dt, rfl, hdt, _⟩ := id HMAC.out.tab
        have e0 := blk_cell hS.hr (i := 0) rfl
        have e1 := blk_cell hS.hr (i := 1) rfl
        have e2 := blk_cell hS.hr (i := 2) rfl
        have e3 := blk_cell hS.hr (i := 3) rfl
        have q0 := blk_cell hR (i := 0) rfl
        have q1 := blk_cell hR (i := 1) rfl
        have q2 := blk_cell hR (i := 2) rfl
        have q3 := blk_cell hR (i := 3) rfl
        have qf := blk_free hR
        have hne : gr ≠ w.heap.size := by have := hS.lr; omega
        clear hS hall hvr hinv
        have hs2 := hsb2
        go_wp2_with fail
        have E0 := blk_set (blk_set (blk_set (blk_set hR 0 (.slice (some ⟨gv, 0, none⟩) j j)) 1 (.slice (some ⟨gn, 0, none⟩) n2 n2)) 2 (.slice Bo ko do')) 3 (.slice Bt kt dt)
        have r0 := blk_cell E0 (i := 0) rfl
        have r1 := blk_cell E0 (i := 1) rfl
        have r2 := blk_cell E0 (i := 2) rfl
        have r3 := blk_cell E0 (i := 3) rfl
        refine bodyPost_ret (v := .tuple #[.agg #[.slice (some ⟨gv, 0, none⟩) j j, .slice (some ⟨gn, 0, none⟩) n2 n2, .slice Bo ko do', .slice Bt kt dt], .bool true]) (by simp [results, Tryd.results39, go_sem, r0, r1, r2, r3]) rfl ?_
        refine .inl ⟨HVR.out, _, _, _, _, rfl, (HMAC.out.keep (by simp) fun b hb1 hb2 => ?_).low hs1, ?_, (HMO.out.set4 (blk_lt hB1) _ _ _ _).low hs1⟩
        · rw [Below.heap_setCell _ _ _ _ (by show b ≠ w.heap.size; omega), Below.heap_setCell _ _ _ _ (by show b ≠ w.heap.size; omega), Below.heap_setCell _ _ _ _ (by show b ≠ w.heap.size; omega), Below.heap_setCell _ _ _ _ (by show b ≠ w.heap.size; omega)]
        · exact (((((hbb.trans (hbl2.mono hs1)).setCell (p := ⟨w.heap.size, 0, none⟩) (Nat.le_refl _) _).setCell (p := ⟨w.heap.size, 1, none⟩) (Nat.le_refl _) _).setCell (p := ⟨w.heap.size, 2, none⟩) (Nat.le_refl _) _).setCell (p := ⟨w.heap.size, 3, none⟩) (Nat.le_refl _) _)
      obtain ⟨b, o, p, rfl, _, hb, hx, p0⟩ := (hrp1.below hbl2).atI hlt2
      have HX := Lib.hid hx
      by_cases hp : 0 ≤ p ∧ p ≤ (n2 : Int) - 1
      case neg =>
        have HN : Hid (¬ VR t sc ps) := fun h => hp (by have := h.2.2.2 p (List.mem_of_getElem? HX.out); have := HL2.out; omega)
        have hp' : p < 0 ∨ (n2 : Int) - 1 < p := by omega
        have q0 := blk_cell hR (i := 0) rfl
        have q1 := blk_cell hR (i := 1) rfl
        have q2 := blk_cell hR (i := 2) rfl
        have q3 := blk_cell hR (i := 3) rfl
        have qf := blk_free hR
        clear hp hx hS
        go_wp2_with (go_at_call 61; refine (within_f _ _ _ _ hp').mono ?_; rintro e w3 ⟨rfl, rfl⟩)
        refine bodyPost_ret (v := .tuple #[.agg #[.slice none 0 0, .slice none 0 0, .slice none 0 0, .slice none 0 0], .bool false]) (by simp [results, Tryd.results39, go_sem, q0, q1, q2, q3]) rfl ?_
        refine .inr ⟨HN.out, rfl, ?_⟩
        exact (((((hbb.trans (hbl2.mono hs1)).setCell (p := ⟨w.heap.size, 0, none⟩) (Nat.le_refl _) _).setCell (p := ⟨w.heap.size, 1, none⟩) (Nat.le_refl _) _).setCell (p := ⟨w.heap.size, 2, none⟩) (Nat.le_refl _) _).setCell (p := ⟨w.heap.size, 3, none⟩) (Nat.le_refl _) _)
      obtain ⟨hp0, hp1⟩ := hp
      obtain ⟨who, rfl⟩ := Int.eq_ofNat_of_zero_le hp0
      have hwn : (who : Int) < (n2 : Int) := by omega
      have hwn' : who < n2 := by omega
      obtain ⟨b2, o2, A', m', c', s, rfl, _, hb2, hsx, g0, hmc, hrsw⟩ := (hrs1.below hbl2).get hwn'
      have hse : s = scr sc who := by
        rw [scr_get (by have := HL2.out; omega)] at hsx
        injection hsx with hsx
        exact hsx.symm
      subst hse
      have hinv : Inv t sc (runM t sc (ps.take q)) := Inv.runM HVV.out.1 HVV.out.2 fun p hp => by have := HK.out p hp; have := HL2.out; omega
      have HP := Lib.hid (pick_t w1.heap.size lo lo2 gr gv gn j n2 vo vt _ t sc who A A' c m' c' W2 HVV.out.1 HVV.out.2 hinv (by have := HL2.out; omega) HL.out HL2.out hS (hr1.below hbl2) hc hrsw (hT1.below hbl2) (by have := hT1.1; omega))
      have HSN := Lib.hid (runM_snoc (t := t) (sc := sc) HX.out)
      have HKN : Hid (∀ p ∈ ps.take (q + 1), 0 ≤ p ∧ p < (n2 : Int)) := fun p hp => by
        rw [take_snoc HX.out] at hp
        rcases List.mem_append.1 hp with hp | hp
        · exact HK.out p hp
        · simp only [List.mem_singleton] at hp; omega
      clear hx hS hinv hsx hrsw
      go_wp2_with (go_at_call 61; refine (within_t _ _ _ _ (by omega) (by omega)).mono ?_; rintro e w3 ⟨rfl, rfl⟩)
      refine HP.out.mono ?_
      rintro e w3 ⟨rfl, vo', vt', hS3, hb3⟩
      have hSN : RunS w3 w1.heap.size gr gv gn j n2 vo' vt' (runM t sc (ps.take (q + 1))) := by
        rw [HSN.out, Int.toNat_natCast]; exact hS3
      have hbN : Below w1.heap.size w1 w3 := hbl2.trans hb3
      clear hS3
      go_wp2_with fail
      go_roundw
      case rel => exact ⟨q + 1, vo', vt', by omega, by go_num, hSN, hbN, HKN.out⟩
      case measure => simp [intOf]; omega
theorem runAll_any (lo lo2 lo3 : Nat) (A A2 A3 : Option Addr) (n c n2 c2 n3 c3 : Nat) (t : List Nd) (sc : List (List Dd)) (ps : List Int) (w : World) (hr : Rd cN 3 w lo A n t) (hc : n ≤ c) (hr2 : Rds cD 2 w lo2 A2 n2 sc) (hr3 : Rd cI 1 w lo3 A3 n3 ps) (hT : Tb w) :
    Calls Tryd.prog 39 #[.slice A n c, .slice A2 n2 c2, .slice A3 n3 c3] w (RunY w (VR t sc ps) (runM t sc ps)) :=
  (runAll_own lo lo2 lo3 A A2 A3 n c n2 c2 n3 c3 t sc ps w hr hc hr2 hr3 hT).mono fun _ _ h => by
    rcases h with ⟨hp, v1, v2, v3, v4, e, hm, hb, _⟩ | h
    · exact .inl ⟨hp, v1, v2, v3, v4, e, hm, hb⟩
    · exact .inr h
end Go.Proofs.YtgpocjehiohimaaDoor
