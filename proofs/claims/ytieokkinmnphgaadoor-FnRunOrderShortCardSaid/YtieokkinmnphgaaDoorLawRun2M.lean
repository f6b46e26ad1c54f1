/- Words for draws: what an append keeps of a reader; someAt, someMode. The walks over someScripts, somePicks and the draws of runs. The walk over equalInts (lists that are the same). What runs hand back, in plain words. The walk over marked. The walks over RunValues, RunOrder, RunLocks, RunWaits of the program. The walks over the reference's run, RunValues, RunOrder, RunLocks. What a law on runs is handed: a tree, scripts and picks, and the calls on them. The walks of the laws FnRunOrderShort, FnRunValuesOrder. -/
import Derived.Test.YtieokkinmnphgaaDoorAnyTree
import Derived.Test.YtieokkinmnphgaaDoorWords6
import Derived.Test.YtieokkinmnphgaaDoorWords7
import Derived.Test.YtieokkinmnphgaaDoorScrW
import Derived.Test.YtieokkinmnphgaaDoorElems
import Derived.Test.YtieokkinmnphgaaDoorWords4
import Derived.Test.YtieokkinmnphgaaDoorRunP4
import Derived.Test.YtieokkinmnphgaaDoorInts
import Derived.Test.YtieokkinmnphgaaDoorRunW
import Derived.Test.YtieokkinmnphgaaDoorTabW2
import Derived.Test.YtieokkinmnphgaaDoorPickS
namespace Go.Proofs.YtieokkinmnphgaaDoor
open Go.RowKit

/-- What an append onto a row of the call's own keeps. -/
theorem grown_own {α : Type} {cs : α → List Value} {sz : Nat} {e : TypeId} {w0 w w' : World} {R base : Nat} {v : Value} {l : List α} (h : w0.grownBy w (some R)) (ho : Own cs sz e w base v l) (hg : w.grownBy w' v.ownBlock) (hB : w0.heap.size ≤ base) : w0.grownBy w' (some R) :=
  ⟨hg.os.trans h.os, hg.tape.trans h.tape, hg.output.trans h.output, Nat.le_trans h.size hg.size, fun i hi hne =>
    (hg.block i (Nat.lt_of_lt_of_le hi h.size) (fun e => by have := (ho.blk i e.symm).1; omega)).trans (h.block i hi hne)⟩
theorem Rdr.own {α : Type} {cs : α → List Value} {sz : Nat} {e : TypeId} {w w' : World} {R p base : Nat} {v : Value} {l : List α} (h : Rdr w R p) (ho : Own cs sz e w base v l) (hg : w.grownBy w' v.ownBlock) (hB : R < base) : Rdr w' R p :=
  h.keep fun b hb => hg.block b (by have := h.lt; omega) (fun e => by have := (ho.blk b e.symm).1; omega)
theorem grown_alloc {w0 w : World} {row : Option Nat} (h : w0.grownBy w row) (o : Obj) : w0.grownBy (w.alloc o) row := grown_below h ((Below.refl _ _).alloc (Nat.le_refl _) o)

theorem below_of_grown {w w1 w2 : World} (h1 : Below w.heap.size w w1) {R : Nat} (h2 : w1.grownBy w2 (some R)) (hR : w.heap.size ≤ R) : Below w.heap.size w w2 :=
  h1.grown h2 h1.size fun k hk => by injection hk with hk; omega

theorem Adv.tr {w w1 w2 : World} {R p q p1 q1 q2 : Nat} (h : Adv w R p q w1) (hp : ∀ p', p' ≤ p + q → Rdr w1 R p' → p' ≤ p1) (h2 : ∀ p', Rdr w1 R p' → p' ≤ p1 → Adv w1 R p' q1 w2) (hq : p1 + q1 ≤ p + q2) : Adv w R p q2 w2 := by
  obtain ⟨⟨p', hp', hr⟩, hg⟩ := h
  have h1 := hp p' hp' hr
  obtain ⟨⟨p2, hp2, hr2⟩, hg2⟩ := h2 p' hr h1
  exact ⟨⟨p2, by omega, hr2⟩, grown_trans hg hg2⟩

/-- What was read before a row of the call's own was laid is read behind an append onto it. -/
theorem Rd.own {α β : Type} {cs : α → List Value} {cs' : β → List Value} {sz sz' lo lo0 n base : Nat} {e : TypeId} {w0 w w' : World} {A : Option Addr} {l : List α} {v : Value} {l' : List β} (h : Rd cs sz w lo A n l) (h0 : Rd cs sz w0 lo0 A n l) (hB : w0.heap.size ≤ base) (ho : Own cs' sz' e w base v l') (hg : w.grownBy w' v.ownBlock) : Rd cs sz w' lo A n l := by
  refine ⟨h.1, h.2.1, fun hn => ?_⟩
  obtain ⟨b, o, e, hlo, hlt, hc⟩ := h.2.2 hn
  obtain ⟨b0, o0, e0, _, hlt0, _⟩ := h0.2.2 hn
  rw [e] at e0
  simp only [Option.some.injEq, Addr.mk.injEq, and_true] at e0
  refine ⟨b, o, e, hlo, Nat.lt_of_lt_of_le hlt hg.size, fun k x hx j u hu => (World.cell?_of_block (hg.block b hlt ?_)).trans (hc k x hx j u hu)⟩
  intro e2
  have := (ho.blk b e2.symm).1
  omega


def ScrD (w : World) (R p q : Nat) (e : Ending) (w' : World) : Prop := ∃ (A : Option Addr) (m c : Nat) (sc : List (List Dd)), e = .returned (.slice A m c) ∧ m ≤ c ∧ Rds cD 2 w' w.heap.size A m sc ∧ m ≤ 5 ∧ Adv w R p q w'
def PicksD (w : World) (R p q : Nat) (e : Ending) (w' : World) : Prop := ∃ (A : Option Addr) (m c : Nat) (l : List Int), e = .returned (.slice A m c) ∧ m ≤ c ∧ Rd cI 1 w' w.heap.size A m l ∧ m ≤ 17 ∧ Adv w R p q w'

set_option maxRecDepth 100000 in
set_option maxHeartbeats 3200000 in
theorem someScripts_any (R p : Nat) (A : Option Addr) (n c : Nat) (w : World) (hr : Rdr w R p) (hp : p ≤ 600000000) (hn : n ≤ 1000) :
    Calls Tryd.prog 41 #[.pointer (some ⟨R, 0, none⟩), .slice A n c] w (ScrD w R p 60) := by
  have hRl := hr.lt
  go_enter Tryd.func41, Tryd.ntmps41
  go_wp2_with fail
  refine (one_any R p _ _ 6 6 [3, 2, 4, 1, 0, 5] _ ((hr.alloc _).alloc _) (by omega) (Rd_newIg (w.alloc (.cells #[] 30)) _ _ _ _ (by simp) (by simp) rfl) (by omega) (by omega)).mono ?_
  rintro e w2 ⟨z, rfl, ⟨kz, hkz⟩, hr2, hg2⟩
  have hz : 0 ≤ z ∧ z ≤ 5 := by
    have hm := List.mem_of_getElem? hkz
    simp only [List.mem_cons, List.not_mem_nil, or_false] at hm
    omega
  obtain ⟨z0, z5⟩ := hz
  clear hkz
  go_wp2_with fail
  go_loopw [5, 6] (fun v i wr => ∃ (vs : List Sl) (sc : List (List Dd)) (y : Int) (q : Nat), i = .int .i64 y ∧ 0 ≤ y ∧ y ≤ 5 ∧ Own cV 1 30 wr w.heap.size v vs ∧ Owd cD 2 32 wr w.heap.size vs sc ∧ (∀ s ∈ sc, s.length ≤ 3) ∧ (vs.length : Int) + y ≤ 5 ∧
      (q : Int) + 8 * y ≤ p + 41 ∧ Rdr wr R q ∧ w.grownBy wr (some R)) (fun _ i _ => (intOf i).toNat)
  case atStart =>
    refine ⟨[], [], z, p + 1, rfl, z0, z5, ?_, Owd.nil, fun s h => (by cases h), by simpa using z5, by omega, hr2, ?_⟩
    · exact ((Own.empty (cs := cV) (sz := 1) w (fun _ => rfl)).alloc _).grown hg2 hRl
    · exact grown_trans (grown_of_below (((Below.refl _ _).alloc (Nat.le_refl _) _).alloc (by simp) _)) hg2
  case round =>
    rename World => W1
    obtain ⟨vs, sc, y, q, rfl, y0, y5, ho, hod, hs3, hl1, hq, hrr, hgg⟩ := hrel
    have hsr := hgg.size
    have HS3 := Lib.hid hs3
    have HOD := Lib.hid hod
    clear hs3 hod
    by_cases hy : 0 < y
    case neg =>
      have hy' : y ≤ 0 := by omega
      obtain ⟨A2, m, c2, rfl, hmc, hrd⟩ := ho.rdn (fun _ => rfl) (by omega)
      have hml := hrd.len
      have HL := Lib.hid hml
      have m5 : (m : Int) ≤ 5 := by omega
      have m5' : m ≤ 5 := by omega
      have HRDD := Lib.hid (HOD.out.rdd elD.len fun l hl => by have := HS3.out l hl; omega)
      clear hml
      by_cases hm : 0 < m
      case neg =>
        have hm' : (m : Int) ≤ 0 := by omega
        go_wp2_with fail
        go_ret
        exact ⟨_, _, _, sc, rfl, hmc, ⟨vs, hrd, HRDD.out⟩, m5', ⟨q, by omega, hrr⟩, hgg⟩
      have hm' : (0 : Int) < (m : Int) := by omega
      go_wp2_with fail
      refine (pick_any R q 16 _ hrr (by omega) (by omega)).mono ?_
      rintro e w3 ⟨a, rfl, a0, _, a2, hr3, hg3⟩
      clear a2
      have ho3 := ho.grown hg3 hRl
      have hrd3 := hrd.grown hg3 hRl
      have HOD3 := Lib.hid (HOD.out.grown hg3 hRl)
      have hG3 := grown_trans hgg hg3
      by_cases ha : a = 0
      case neg =>
        have ha' : (a == 0) = false := by simpa using ha
        have HRDD3 := Lib.hid (HRDD.out.grown hg3 hRl)
        clear ha
        go_wp2_with fail
        go_ret
        exact ⟨_, _, _, sc, rfl, hmc, ⟨vs, hrd3, HRDD3.out⟩, m5', ⟨q + 1, by omega, hr3⟩, hG3⟩
      subst ha
      go_wp2_with fail
      refine (one_any R (q + 1) _ _ 3 3 [0, 12, -1] _ (hr3.alloc _) (by omega) (Rd_newIg w3 _ _ _ _ rfl (by simp) rfl) (by have := hG3.size; omega) (by omega)).mono ?_
      rintro e w5 ⟨x1, rfl, _, hr5, hg5⟩
      have ho5 := (ho3.alloc (.cells #[.int .i64 0, .int .i64 12, .int .i64 (-1)] 3)).grown hg5 hRl
      have HOD5 := Lib.hid ((HOD3.out.alloc (.cells #[.int .i64 0, .int .i64 12, .int .i64 (-1)] 3)).grown hg5 hRl)
      have hG5 := grown_trans (grown_alloc hG3 (.cells #[.int .i64 0, .int .i64 12, .int .i64 (-1)] 3)) hg5
      go_wp2_with fail
      refine (one_any R (q + 2) _ _ 2 2 [51, 5] _ (hr5.alloc _) (by omega) (Rd_newIg w5 _ _ _ _ rfl (by simp) rfl) (by have := hG5.size; omega) (by omega)).mono ?_
      rintro e w6 ⟨x2, rfl, _, hr6, hg6⟩
      have ho6 := (ho5.alloc (.cells #[.int .i64 51, .int .i64 5] 3)).grown hg6 hRl
      have HOD6 := Lib.hid ((HOD5.out.alloc (.cells #[.int .i64 51, .int .i64 5] 3)).grown hg6 hRl)
      have hG6 := grown_trans (grown_alloc hG5 (.cells #[.int .i64 51, .int .i64 5] 3)) hg6
      clear ho ho3 ho5 hrd hrd3
      obtain ⟨g, m', cap, hv, hgb, hgl, -, -⟩ := ho6.form (by have := HL.out; omega)
      simp only [Value.slice.injEq] at hv
      obtain ⟨rfl, rfl, rfl⟩ := hv
      obtain ⟨_, hrdA⟩ := ho6.rds (fun _ => rfl) (by omega)
      obtain ⟨b', o', x', hA', _, _, hx', hcell⟩ := hrdA.get (k := 0) hm
      simp only [Option.some.injEq, Addr.mk.injEq, and_true] at hA'
      obtain ⟨rfl, rfl⟩ := hA'
      have g0 : w6.cell? ⟨g, 0, none⟩ = some (.slice x'.a x'.n x'.c) := by simpa using hcell 0 _ rfl
      have f0 := ho6.free 0
      have hsetO := (ho6.set (u := .slice (some ⟨w6.heap.size, 0, none⟩) 1 1) (x' := (⟨some ⟨w6.heap.size, 0, none⟩, 1, 1⟩ : Sl)) (j := 0) (fun _ => rfl) hx' rfl (by omega) (q := 0) rfl).alloc (.cells #[.int .i64 x1, .int .i64 x2] 32)
      have HSET := Lib.hid ((hsetO.rds (fun _ => rfl) (by simp; omega)).2)
      have hszs : (w6.setCell ⟨g, 0, none⟩ (.slice (some ⟨w6.heap.size, 0, none⟩) 1 1)).heap.size = w6.heap.size := by simp [World.setCell]
      have hoN : Own cD 2 32 ((w6.setCell ⟨g, 0, none⟩ (.slice (some ⟨w6.heap.size, 0, none⟩) 1 1)).alloc (.cells #[.int .i64 x1, .int .i64 x2] 32)) w6.heap.size (.slice (some ⟨w6.heap.size, 0, none⟩) 1 1) [(⟨x1, x2⟩ : Dd)] := by
        have := Own.lit (cs := cD) (sz := 2) (e := 32) (w6.setCell ⟨g, 0, none⟩ (.slice (some ⟨w6.heap.size, 0, none⟩) 1 1)) #[.int .i64 x1, .int .i64 x2] [⟨x1, x2⟩] (by simp) (fun _ => rfl) rfl
        rw [hszs] at this
        exact this
      have HODS := Lib.hid (((HOD6.out.map (w' := w6.setCell ⟨g, 0, none⟩ (.slice (some ⟨w6.heap.size, 0, none⟩) 1 1)) fun v l h => h.keepc (g := g) (by
        rcases h.ap ho6 (by decide) with h1 | h1
        · rw [h1]; simp
        · exact h1) 0 _).alloc (.cells #[.int .i64 x1, .int .i64 x2] 32)).set (k := 0) (v := ⟨some ⟨w6.heap.size, 0, none⟩, 1, 1⟩) (hoN.low (by have := hG6.size; omega)))
      have hRg : R < g := by omega
      have HR6 := Lib.hid ((hr6.keep (w' := w6.setCell ⟨g, 0, none⟩ (.slice (some ⟨w6.heap.size, 0, none⟩) 1 1)) fun b hb => Below.heap_setCell _ _ _ _ (by show b ≠ g; omega)).alloc (.cells #[.int .i64 x1, .int .i64 x2] 32))
      have HG6 : Hid (w.grownBy (w6.setCell ⟨g, 0, none⟩ (.slice (some ⟨w6.heap.size, 0, none⟩) 1 1)) (some R)) := ⟨hG6.os, hG6.tape, hG6.output, by simpa using hG6.size, fun i hi hne => (Below.heap_setCell _ _ _ _ (by show i ≠ g; omega)).trans (hG6.block i hi hne)⟩
      clear hrdA hcell hx' hsetO ho6 hoN hr5 hr6 hG6 hg6 hG5 hg5 hG3 hg3
      go_wp2_with fail
      go_ret
      refine ⟨_, _, _, sc.set 0 [⟨x1, x2⟩], rfl, hmc, ⟨_, HSET.out, HODS.out.rdd elD.len fun l hl => ?_⟩, m5', ⟨q + 3, by omega, HR6.out⟩, grown_alloc HG6.out _⟩
      · rcases List.mem_or_eq_of_mem_set hl with h | h
        · have := HS3.out l h; omega
        · subst h; simp
    have hRW : R < W1.heap.size := by omega
    have hoA := Own.empty (cs := cD) (sz := 2) (e := 32) W1 (fun _ => rfl)
    have hgA := grown_alloc (World.grownBy.refl W1 (some R)) (.cells #[] 32)
    go_wp2_with fail
    refine (pick_any R q 3 _ (hrr.alloc _) (by omega) (by omega)).mono ?_
    rintro e w3 ⟨a, rfl, a0, _, a2, hr3, hg3⟩
    have ha2 := a2 (by omega)
    clear a2
    have hw1 : IntKind.i64.wrap (1 + a) = 1 + a := IntWalk.i64_in _ (by omega)
    have ho3 := hoA.grown hg3 hRW
    have hG3 := grown_trans hgA hg3
    have HO := Lib.hid ho
    have HGG := Lib.hid hgg
    clear hoA hgA ho hgg hrr hg3
    go_wp2_with fail
    go_loopw [7, 8] (fun v i wr => ∃ (s : List Dd) (x : Int) (q' : Nat), i = .int .i64 x ∧ 0 ≤ x ∧ (s.length : Int) + x ≤ 3 ∧ Own cD 2 32 wr W1.heap.size v s ∧ (q' : Int) + 2 * x ≤ q + 7 ∧ Rdr wr R q' ∧ W1.grownBy wr (some R)) (fun _ i _ => (intOf i).toNat)
    case atStart => exact ⟨[], 1 + a, q + 1, rfl, by omega, by simp; omega, ho3, by omega, hr3, hG3⟩
    case round =>
      rename World => W2
      obtain ⟨s, x, q', rfl, x0, hx3, hos, hq', hrs, hgs⟩ := hrel
      have hs2 := hgs.size
      by_cases hx : 0 < x
      case neg =>
        have hx' : x ≤ 0 := by omega
        have ho2 := HO.out.grown hgs hRl
        have HOD2 := Lib.hid (HOD.out.grown hgs hRl)
        have HGS := Lib.hid (grown_trans HGG.out hgs)
        obtain ⟨A', m', c', rfl, hmc', hrs'⟩ := hos.rdn elD.len (by omega)
        have HL' := Lib.hid hrs'.len
        clear hrs'
        go_wp2_with (at_builtin; refine wpList_append_rd elV _ rfl (.tmp 38) (.tmp 40) rfl rfl (ho2.alloc _) rfl (Rd_one W2 #[.slice A' m' c'] 30 (⟨A', m', c'⟩ : Sl) rfl) (by omega) (by simp; omega) ?_; intro v5 w5 ho5 hg5 _)
        have hoB := ho2.alloc (.cells #[.slice A' m' c'] 30)
        have hosB := hos.alloc (.cells #[.slice A' m' c'] 30)
        have hod5 := (HOD2.out.alloc (.cells #[.slice A' m' c'] 30)).grow hoB hg5 (by decide)
        have hos5 := (hosB.grown' hg5 (hosB.ap hoB (by decide))).low hsr
        have hG5 := grown_own (grown_alloc HGS.out (.cells #[.slice A' m' c'] 30)) hoB hg5 (Nat.le_refl _)
        have hr5 := (hrs.alloc (.cells #[.slice A' m' c'] 30)).own hoB hg5 hRl
        go_roundw
        case rel => exact ⟨vs ++ [⟨A', m', c'⟩], sc ++ [s], y - 1, q', by go_num, by omega, by omega, ho5, hod5.snoc hos5, fun s' hs' => (by
          rcases List.mem_append.1 hs' with h | h
          · exact HS3.out s' h
          · simp only [List.mem_singleton] at h; subst h; omega), by simp; omega, by omega, hr5, hG5⟩
        case measure => simp [intOf]; omega
      go_wp2_with fail
      all_goals
        refine (pick_any R q' _ _ hrs (by omega) (by omega)).mono ?_
        rintro e w6 ⟨b, rfl, _, _, _, hr6, hg6⟩
        go_wp2_with fail
        refine (one_any R (q' + 1) _ _ 6 6 [0, 5, -3, 50, 1, 0] _ (hr6.alloc _) (by omega) (Rd_newIg w6 _ _ _ _ rfl (by simp) rfl) (by have := hg6.size; omega) (by omega)).mono ?_
        rintro e w7 ⟨d, rfl, _, hr7, hg7⟩
        have ho7 := ((hos.grown hg6 hRW).alloc (.cells #[.int .i64 0, .int .i64 5, .int .i64 (-3), .int .i64 50, .int .i64 1, .int .i64 0] 3)).grown hg7 hRW
        have hG7 := grown_trans (grown_alloc (grown_trans hgs hg6) (.cells #[.int .i64 0, .int .i64 5, .int .i64 (-3), .int .i64 50, .int .i64 1, .int .i64 0] 3)) hg7
        have hs7 := hG7.size
        clear hos hg6 hg7 hgs
        go_wp2_with (at_builtin; refine wpList_append_rd elD _ rfl (.tmp 25) (.tmp 36) rfl rfl (ho7.alloc _) rfl (Rd_one w7 #[.int .i64 b, .int .i64 d] 32 (⟨b, d⟩ : Dd) rfl) (by omega) (by simp; omega) ?_; intro v8 w8 ho8 hg8 _)
        have hG8 := grown_own (grown_alloc hG7 (.cells #[.int .i64 b, .int .i64 d] 32)) (ho7.alloc (.cells #[.int .i64 b, .int .i64 d] 32)) hg8 (Nat.le_refl _)
        have hr8 := (hr7.alloc (.cells #[.int .i64 b, .int .i64 d] 32)).own (ho7.alloc (.cells #[.int .i64 b, .int .i64 d] 32)) hg8 hRW
        go_roundw
        case rel => exact ⟨s ++ [⟨b, d⟩], x - 1, q' + 2, by go_num, by omega, by simp; omega, ho8, by omega, hr8, hG8⟩
        case measure => simp [intOf]; omega

set_option maxRecDepth 100000 in
set_option maxHeartbeats 3200000 in
theorem somePicks_any (R p many : Nat) (w : World) (hr : Rdr w R p) (hp : p ≤ 600000000) (hm : many ≤ 1000) :
    Calls Tryd.prog 42 #[.pointer (some ⟨R, 0, none⟩), .int .i64 (many : Int)] w (PicksD w R p 40) := by
  have hRl := hr.lt
  go_enter Tryd.func42, Tryd.ntmps42
  go_wp2_with fail
  refine (one_any R p _ _ 7 7 [8, 12, 16, 5, 3, 0, 17] _ ((hr.alloc _).alloc _) (by omega) (Rd_newIg (w.alloc (.cells #[] 3)) _ _ _ _ (by simp) (by simp) rfl) (by omega) (by omega)).mono ?_
  rintro e w2 ⟨z, rfl, ⟨kz, hkz⟩, hr2, hg2⟩
  have hz : 0 ≤ z ∧ z ≤ 17 := by
    have hm := List.mem_of_getElem? hkz
    simp only [List.mem_cons, List.not_mem_nil, or_false] at hm
    omega
  obtain ⟨z0, z17⟩ := hz
  clear hkz
  go_wp2_with fail
  go_loopw [5, 6] (fun v i wr => ∃ (l : List Int) (y : Int) (q : Nat), i = .int .i64 y ∧ 0 ≤ y ∧ y ≤ 17 ∧ Own cI 1 3 wr w.heap.size v l ∧ (l.length : Int) + y ≤ 17 ∧
      (q : Int) + y ≤ p + 18 ∧ Rdr wr R q ∧ w.grownBy wr (some R)) (fun _ i _ => (intOf i).toNat)
  case atStart =>
    refine ⟨[], z, p + 1, rfl, z0, z17, ?_, by simpa using z17, by omega, hr2, ?_⟩
    · exact ((Own.empty (cs := cI) (sz := 1) w (fun _ => rfl)).alloc _).grown hg2 hRl
    · exact grown_trans (grown_of_below (((Below.refl _ _).alloc (Nat.le_refl _) _).alloc (by simp) _)) hg2
  case round =>
    rename World => W1
    obtain ⟨l, y, q, rfl, y0, y17, ho, hl1, hq, hrr, hgg⟩ := hrel
    have hsr := hgg.size
    by_cases hy : 0 < y ∧ 0 < many
    case neg =>
      obtain ⟨A2, m, c2, rfl, hmc, hrd⟩ := ho.rdn (fun _ => rfl) (by omega)
      have hml := hrd.len
      have HL := Lib.hid hml
      have m17 : (m : Int) ≤ 17 := by omega
      have m17' : m ≤ 17 := by omega
      clear hml
      have hy' : ¬ (0 < y) ∨ ¬ (0 < (many : Int)) := by omega
      have hy2 : (decide (0 < y) && decide (0 < (many : Int))) = false := by
        rcases hy' with h | h
        · rw [decide_eq_false h]; rfl
        · rw [decide_eq_false h, Bool.and_false]
      by_cases hm0 : 0 < m
      case neg =>
        have hm' : (m : Int) ≤ 0 := by omega
        by_cases hy1 : 0 < y
        all_goals (
          have hy3 : 0 < y → (many : Int) ≤ 0 := fun _ => by omega
          clear hy hy'
          go_wp2_with fail
          all_goals (
            go_ret
            exact ⟨_, _, _, l, rfl, hmc, hrd, m17', ⟨q, by omega, hrr⟩, hgg⟩))
      have hm' : (0 : Int) < (m : Int) := by omega
      by_cases hy1 : 0 < y
      all_goals (
        have hy3 : 0 < y → (many : Int) ≤ 0 := fun _ => by omega
        clear hy hy'
        go_wp2_with fail
        refine (pick_any R q 20 _ hrr (by omega) (by omega)).mono ?_
        rintro e w3 ⟨a, rfl, a0, _, a2, hr3, hg3⟩
        clear a2
        have ho3 := ho.grown hg3 hRl
        have hrd3 := hrd.grown hg3 hRl
        have hG3 := grown_trans hgg hg3
        by_cases ha : a = 0
        case neg =>
          have ha' : (a == 0) = false := by simpa using ha
          clear ha
          go_wp2_with fail
          go_ret
          exact ⟨_, _, _, l, rfl, hmc, hrd3, m17', ⟨q + 1, by omega, hr3⟩, hG3⟩
        subst ha
        go_wp2_with fail
        refine (pick_any R (q + 1) m _ hr3 (by omega) (by omega)).mono ?_
        rintro e w4 ⟨k', rfl, k0, _, k2, hr4, hg4⟩
        have k3 := k2 (by omega)
        obtain ⟨k, rfl⟩ := Int.eq_ofNat_of_zero_le k0
        clear k2
        have ho4 := ho3.grown hg4 hRl
        have hG4 := grown_trans hG3 hg4
        go_wp2_with fail
        refine (one_any R (q + 2) _ _ 2 2 [-1, (many : Int)] _ (hr4.alloc _) (by omega) (Rd_newIg w4 _ _ _ _ rfl (by simp) rfl) (by have := hG4.size; omega) (by omega)).mono ?_
        rintro e w5 ⟨x1, rfl, _, hr5, hg5⟩
        have ho5 := (ho4.alloc (.cells #[.int .i64 (-1), .int .i64 many] 3)).grown hg5 hRl
        have hG5 := grown_trans (grown_alloc hG4 (.cells #[.int .i64 (-1), .int .i64 many] 3)) hg5
        clear ho ho3 ho4 hrd hrd3
        obtain ⟨g, m', cap, hv, hgb, hgl, -, -⟩ := ho5.form (by have := HL.out; omega)
        simp only [Value.slice.injEq] at hv
        obtain ⟨rfl, rfl, rfl⟩ := hv
        obtain ⟨_, hrd5⟩ := ho5.rds (fun _ => rfl) (by omega)
        obtain ⟨b', o', x', hA', _, _, hx', g0⟩ := hrd5.atI (k := k) (by omega)
        simp only [Option.some.injEq, Addr.mk.injEq, and_true] at hA'
        obtain ⟨rfl, rfl⟩ := hA'
        simp only [Nat.zero_add] at g0
        have f0 := ho5.free k
        have ho6 := ho5.set (u := .int .i64 x1) (x' := x1) (j := 0) (fun _ => rfl) hx' rfl (by omega) (q := k) (by omega)
        have HO := Lib.hid ((ho6.rds (fun _ => rfl) (by simp; omega)).2)
        have hRg : R < g := by omega
        clear ho6 hx' hrd5
        go_wp2_with fail
        go_ret
        refine ⟨_, _, _, _, rfl, hmc, HO.out, m17', ⟨q + 3, by omega, hr5.keep fun b hb => Below.heap_setCell _ _ _ _ (by show b ≠ g; omega)⟩, hG5.os, hG5.tape, hG5.output, by simpa using hG5.size, fun i hi hne => ?_⟩
        exact (Below.heap_setCell _ _ _ _ (by show i ≠ g; omega)).trans (hG5.block i hi hne))
    obtain ⟨hy1, hy2⟩ := hy
    have hy3 : (0 : Int) < (many : Int) := by omega
    go_wp2_with fail
    refine (pick_any R q many _ hrr (by omega) (by omega)).mono ?_
    rintro e w3 ⟨a, rfl, _, _, _, hr3, hg3⟩
    have ho3 := ho.grown hg3 hRl
    have hG3 := grown_trans hgg hg3
    have hs3 := hG3.size
    clear ho hg3
    go_wp2_with (at_builtin; refine wpList_append_rd elI _ rfl (.tmp 19) (.tmp 23) rfl rfl (ho3.alloc _) rfl (Rd_one w3 #[.int .i64 a] 3 a rfl) (by omega) (by simp; omega) ?_; intro v8 w8 ho8 hg8 _)
    have hG8 := grown_own (grown_alloc hG3 (.cells #[.int .i64 a] 3)) (ho3.alloc (.cells #[.int .i64 a] 3)) hg8 (Nat.le_refl _)
    have hr8 := (hr3.alloc (.cells #[.int .i64 a] 3)).own (ho3.alloc (.cells #[.int .i64 a] 3)) hg8 hRl
    go_roundw
    case rel => exact ⟨l ++ [a], y - 1, q + 1, by go_num, by omega, by omega, ho8, by simp; omega, by omega, hr8, hG8⟩
    case measure => simp [intOf]; omega

/-- A tree, scripts and picks are drawn. -/
def RunD (w : World) (e : Ending) (w' : World) : Prop := ∃ (A : Option Addr) (n c : Nat) (t : List Nd) (A2 : Option Addr) (m c2 : Nat) (sc : List (List Dd)) (A3 : Option Addr) (k c3 : Nat) (ps : List Int),
  e = .returned (.tuple #[.slice A n c, .slice A2 m c2, .slice A3 k c3]) ∧ n ≤ c ∧ Rd cN 3 w' w.heap.size A n t ∧ n ≤ 13 ∧ NmB t ∧ m ≤ c2 ∧ Rds cD 2 w' w.heap.size A2 m sc ∧ m ≤ 5 ∧ k ≤ c3 ∧ Rd cI 1 w' w.heap.size A3 k ps ∧ k ≤ 17 ∧ Below w.heap.size w w'

theorem DrawRunValues_any (A : Option Addr) (n c : Nat) (zs : List Int) (w : World) (hr : Rd cB 1 w 0 A n zs) (hc : n ≤ c) (hz : ∀ (k : Nat) (z : Int), zs[k]? = some z → 0 ≤ z ∧ z ≤ 255) :
    Calls Tryd.prog 16 #[.slice A n c] w (RunD w) := by
  go_enter Tryd.func16, Tryd.ntmps16
  go_wp2_with fail
  refine (newReader_any A n c zs _ hr hc hz).mono ?_
  rintro e w1 ⟨rfl, hr1, hb1⟩
  go_wp2_with fail
  refine (anyTree_any _ 0 _ hr1 (by omega)).mono ?_
  rintro e w2 ⟨A2, n2, c2, t, rfl, hc2, hrd2, hn2, hz2, ⟨p2, hp2, hr2⟩, hg2⟩
  have hb2 := below_of_grown hb1 hg2 (Nat.le_refl _)
  go_wp2_with fail
  refine (someScripts_any _ p2 A2 n2 c2 _ hr2 (by omega) (by omega)).mono ?_
  rintro e w3 ⟨A3, n3, c3, sc, rfl, hc3, hrd3, hn3, ⟨p3, hp3, hr3⟩, hg3⟩
  have hb3 := below_of_grown hb2 hg3 (Nat.le_refl _)
  have hs1 := hr1.lt
  have hrd2' := hrd2.grown hg3 hs1
  have hsz := hb2.size
  have hsz3 := hb3.size
  have hs2 := hr2.lt
  go_wp2_with fail
  refine (somePicks_any _ p3 n3 _ hr3 (by omega) (by omega)).mono ?_
  rintro e w4 ⟨A4, n4, c4, ps, rfl, hc4, hrd4, hn4, ⟨p4, hp4, hr4⟩, hg4⟩
  have hb4 := below_of_grown hb3 hg4 (Nat.le_refl _)
  have hrd2'' := hrd2'.grown hg4 hs1
  have hrd3' := hrd3.grown hg4 hs2
  go_wp2_with fail
  refine bodyPost_ret (v := .tuple #[.slice A2 n2 c2, .slice A3 n3 c3, .slice A4 n4 c4]) (by simp [results, Tryd.results16, go_sem]) rfl ?_
  exact ⟨_, _, _, t, _, _, _, sc, _, _, _, ps, rfl, hc2, hrd2''.low hb1.size, hn2, hz2, hc3, hrd3'.low hsz, hn3, hc4, hrd4.low hsz3, hn4, hb4⟩
theorem DrawRunWaits_any (A : Option Addr) (n c : Nat) (zs : List Int) (w : World) (hr : Rd cB 1 w 0 A n zs) (hc : n ≤ c) (hz : ∀ (k : Nat) (z : Int), zs[k]? = some z → 0 ≤ z ∧ z ≤ 255) :
    Calls Tryd.prog 35 #[.slice A n c] w (RunD w) := by
  go_enter Tryd.func35, Tryd.ntmps35
  go_wp2_with fail
  refine (DrawRunValues_any A n c zs _ hr hc hz).mono ?_
  rintro e w1 ⟨A1, n1, c1, t, A2, m, c2, sc, A3, k, c3, ps, rfl, h⟩
  go_wp2_with fail
  refine bodyPost_ret (v := .tuple #[.slice A1 n1 c1, .slice A2 m c2, .slice A3 k c3]) (by simp [results, Tryd.results35, go_sem]) rfl ?_
  exact ⟨A1, n1, c1, t, A2, m, c2, sc, A3, k, c3, ps, rfl, h⟩
theorem DrawRunOrder_any (A : Option Addr) (n c : Nat) (zs : List Int) (w : World) (hr : Rd cB 1 w 0 A n zs) (hc : n ≤ c) (hz : ∀ (k : Nat) (z : Int), zs[k]? = some z → 0 ≤ z ∧ z ≤ 255) :
    Calls Tryd.prog 21 #[.slice A n c] w (RunD w) := by
  go_enter Tryd.func21, Tryd.ntmps21
  go_wp2_with fail
  refine (DrawRunValues_any A n c zs _ hr hc hz).mono ?_
  rintro e w1 ⟨A1, n1, c1, t, A2, m, c2, sc, A3, k, c3, ps, rfl, h⟩
  go_wp2_with fail
  refine bodyPost_ret (v := .tuple #[.slice A1 n1 c1, .slice A2 m c2, .slice A3 k c3]) (by simp [results, Tryd.results21, go_sem]) rfl ?_
  exact ⟨A1, n1, c1, t, A2, m, c2, sc, A3, k, c3, ps, rfl, h⟩
theorem DrawRunLocks_any (A : Option Addr) (n c : Nat) (zs : List Int) (w : World) (hr : Rd cB 1 w 0 A n zs) (hc : n ≤ c) (hz : ∀ (k : Nat) (z : Int), zs[k]? = some z → 0 ≤ z ∧ z ≤ 255) :
    Calls Tryd.prog 25 #[.slice A n c] w (RunD w) := by
  go_enter Tryd.func25, Tryd.ntmps25
  go_wp2_with fail
  refine (DrawRunValues_any A n c zs _ hr hc hz).mono ?_
  rintro e w1 ⟨A1, n1, c1, t, A2, m, c2, sc, A3, k, c3, ps, rfl, h⟩
  go_wp2_with fail
  refine bodyPost_ret (v := .tuple #[.slice A1 n1 c1, .slice A2 m c2, .slice A3 k c3]) (by simp [results, Tryd.results25, go_sem]) rfl ?_
  exact ⟨A1, n1, c1, t, A2, m, c2, sc, A3, k, c3, ps, rfl, h⟩

theorem equalInts_t (lo lo2 : Nat) (A A2 : Option Addr) (n c n2 c2 : Nat) (l : List Int) (w : World) (hr : Rd cI 1 w lo A n l) (hr2 : Rd cI 1 w lo2 A2 n2 l) :
    Calls Tryd.prog 18 #[.slice A n c, .slice A2 n2 c2] w fun e w' => e = .returned (.bool true) ∧ Below w.heap.size w w' := by
  have hn := hr.le
  obtain rfl : n2 = n := hr2.len.symm.trans hr.len
  go_enter Tryd.func18, Tryd.ntmps18
  go_wp2_with fail
  go_loopw [5] (fun i wr => ∃ k : Nat, k ≤ n2 ∧ i = .int .i64 k ∧ Below w.heap.size w wr) (fun i _ => n2 - (intOf i).toNat)
  case atStart => exact ⟨0, Nat.zero_le _, rfl, Below.refl _ _⟩
  case round =>
    obtain ⟨k, hk, rfl, hbl⟩ := hrel
    by_cases hlt : k < n2
    case neg =>
      go_wp2_with fail
      go_ret
      exact ⟨rfl, hbl⟩
    obtain ⟨b, o, x, rfl, _, hb, hx, g0⟩ := (hr.below hbl).atI hlt
    obtain ⟨b2, o2, y, rfl, _, hb2, hy, d0⟩ := (hr2.below hbl).atI hlt
    rw [hx] at hy
    injection hy with hy
    subst hy
    have a0 := aft g0
    have b0 := aft d0
    clear hx hr hr2
    go_wp2_with fail
    refine wp_region_after (by kernel_rfl) (by kernel_rfl) ?_
    repeat (go_big_quiet_step (fail))
    refine wpQuiet_nil ?_
    intro w1 hb1
    go_wp2_with fail
    go_roundw
    case rel => exact ⟨k + 1, by omega, by go_num, hbl.trans (hb1.mono hbl.size)⟩
    case measure => simp [intOf]; omega

open Classical in
/-- What a run hands back where its arguments are valid, nothing elsewhere. -/
noncomputable def onR {α : Type} (t : List Nd) (sc : List (List Dd)) (ps : List Int) (f : Mc → List α) : List α := if VR t sc ps then f (runM t sc ps) else []
theorem onR_t {α : Type} {t : List Nd} {sc : List (List Dd)} {ps : List Int} (h : VR t sc ps) (f : Mc → List α) : onR t sc ps f = f (runM t sc ps) := by unfold onR; rw [if_pos h]
theorem onR_f {α : Type} {t : List Nd} {sc : List (List Dd)} {ps : List Int} (h : ¬ VR t sc ps) (f : Mc → List α) : onR t sc ps f = [] := by unfold onR; rw [if_neg h]
noncomputable def rvF (t : List Nd) (sc : List (List Dd)) (ps : List Int) : List Int := onR t sc ps Mc.vals
noncomputable def roF (t : List Nd) (sc : List (List Dd)) (ps : List Int) : List Int := onR t sc ps Mc.fin
noncomputable def rlF (t : List Nd) (sc : List (List Dd)) (ps : List Int) : List Lk := onR t sc ps Mc.tab
noncomputable def rwF (t : List Nd) (sc : List (List Dd)) (ps : List Int) : List Wt := onR t sc ps fun m => wtF t sc m sc.length
theorem rvF_len {t : List Nd} {sc : List (List Dd)} {ps : List Int} : (rvF t sc ps).length ≤ 12 := by
  unfold rvF
  by_cases h : VR t sc ps
  · rw [onR_t h, h.inv.vlen]; exact h.1.2.1
  · rw [onR_f h]; simp
theorem roF_len {t : List Nd} {sc : List (List Dd)} {ps : List Int} : (roF t sc ps).length ≤ 4 := by
  unfold roF
  by_cases h : VR t sc ps
  · rw [onR_t h]; have := h.inv.finl; have := h.2.1.1; omega
  · rw [onR_f h]; simp
theorem rlF_len {t : List Nd} {sc : List (List Dd)} {ps : List Int} : (rlF t sc ps).length ≤ 48 := by
  unfold rlF
  by_cases h : VR t sc ps
  · rw [onR_t h]; exact h.inv.tab.1
  · rw [onR_f h]; simp
theorem rwF_len {t : List Nd} {sc : List (List Dd)} {ps : List Int} : (rwF t sc ps).length ≤ 12 := by
  unfold rwF
  by_cases h : VR t sc ps
  · rw [onR_t h]; exact (h.inv.waits h.1 h.2.1).1
  · rw [onR_f h]; simp
section
variable {t : List Nd} {sc : List (List Dd)} {m : Mc}
/-- The reference's way: each other script in order. -/
noncomputable def wtS (t : List Nd) (m : Mc) (who : Int) (d : Dd) (j : Nat) : List Wt := (((List.range j).map fun (o : Nat) => (o : Int)).filter (blkD t m who d)).map fun o => ⟨who, o⟩
theorem wtS_yes {who : Int} {d : Dd} {j : Nat} (h : blkD t m who d j = true) : wtS t m who d (j + 1) = wtS t m who d j ++ [⟨who, (j : Int)⟩] := by
  unfold wtS
  rw [List.range_succ, List.map_append, List.filter_append]
  simp [h]
theorem wtS_no {who : Int} {d : Dd} {j : Nat} (h : blkD t m who d j = false) : wtS t m who d (j + 1) = wtS t m who d j := by
  unfold wtS
  rw [List.range_succ, List.map_append, List.filter_append]
  simp [h]
theorem wtS_len (who : Int) (d : Dd) (j : Nat) : (wtS t m who d j).length ≤ j := by
  unfold wtS
  rw [List.length_map]
  refine Nat.le_trans (List.length_filter_le _ _) ?_
  simp
theorem mark_range {f : Int → Bool} {n : Nat} (hn : n ≤ 4) (h : ∀ o : Int, f o = true → o < n) : ((List.range n).map fun (o : Nat) => (o : Int)).filter f = markL f := by
  have e : ∀ k : Nat, n ≤ k → f k = false := fun k hk => by
    cases hf : f k with
    | false => rfl
    | true => have := h k hf; omega
  unfold markL
  match n, hn with
  | 0, _ =>
    have h0 := e 0 (by omega); have h1 := e 1 (by omega); have h2 := e 2 (by omega); have h3 := e 3 (by omega)
    simp at h0 h1 h2 h3
    simp [h0, h1, h2, h3]
  | 1, _ =>
    have h1 := e 1 (by omega); have h2 := e 2 (by omega); have h3 := e 3 (by omega)
    simp at h1 h2 h3
    simp [List.range_succ, List.filter_cons, h1, h2, h3]
  | 2, _ =>
    have h2 := e 2 (by omega); have h3 := e 3 (by omega)
    simp at h2 h3
    simp [List.range_succ, List.filter_cons, h2, h3]
  | 3, _ =>
    have h3 := e 3 (by omega)
    simp at h3
    simp [List.range_succ, List.filter_cons, h3]
  | 4, _ => simp [List.range_succ, List.filter_cons]
theorem wtS_full (h : Inv t sc m) (hsc : VSc t sc) {who : Nat} {d : Dd} (hd : nextD sc m who = some d) : wtS t m who d sc.length = wtOne t sc m who := by
  unfold wtOne
  rw [hd]
  simp only
  unfold wtS
  rw [mark_range hsc.1 fun o ho => ?_]
  obtain ⟨y, _, hy⟩ := List.any_eq_true.1 ho
  obtain ⟨i, e, hi, _⟩ := h.held _ _ (lbF_holds h.tab (of_decide_eq_true hy))
  omega
theorem wtOne_none {who : Nat} (hd : nextD sc m who = none) : wtOne t sc m who = [] := by unfold wtOne; rw [hd]
theorem wtOne_some {who : Nat} {d : Dd} (hd : nextD sc m who = some d) : wtOne t sc m who = (markL (blkD t m who d)).map fun o => ⟨(who : Int), o⟩ := by unfold wtOne; rw [hd]
theorem wtF_le (hsc : VSc t sc) {k : Nat} (hk : k ≤ sc.length) : (wtF t sc m k).length ≤ 12 := by
  have := wtF_len (m := m) hsc k hk
  have := hsc.1
  omega
end

set_option maxHeartbeats 1000000 in
theorem marked_any (f : Int → Bool) (w : World) :
    Calls Tryd.prog 57 #[.agg #[.bool (f 0), .bool (f 1), .bool (f 2), .bool (f 3)]] w (IntsP w (markL f)) := by
  generalize h0 : f 0 = b0
  generalize h1 : f 1 = b1
  generalize h2 : f 2 = b2
  generalize h3 : f 3 = b3
  have hF : ∀ k : Nat, k < 4 → f k = (match k with | 0 => b0 | 1 => b1 | 2 => b2 | _ => b3) := by
    intro k hk
    match k, hk with
    | 0, _ => exact h0
    | 1, _ => exact h1
    | 2, _ => exact h2
    | 3, _ => exact h3
  have HF := Lib.hid hF
  have HM : Hid ((([0, 1, 2, 3] : List Int).take 4).filter f = markL f) := (rfl : _ = _)
  clear h0 h1 h2 h3 hF
  have i0 : ∀ w, (Instr.index 74 (.agg #[.bool b0, .bool b1, .bool b2, .bool b3]) (.int .i64 0)).run Tryd.prog w = .ok (.bool b0) w := fun _ => by kernel_rfl
  have i1 : ∀ w, (Instr.index 74 (.agg #[.bool b0, .bool b1, .bool b2, .bool b3]) (.int .i64 1)).run Tryd.prog w = .ok (.bool b1) w := fun _ => by kernel_rfl
  have i2 : ∀ w, (Instr.index 74 (.agg #[.bool b0, .bool b1, .bool b2, .bool b3]) (.int .i64 2)).run Tryd.prog w = .ok (.bool b2) w := fun _ => by kernel_rfl
  have i3 : ∀ w, (Instr.index 74 (.agg #[.bool b0, .bool b1, .bool b2, .bool b3]) (.int .i64 3)).run Tryd.prog w = .ok (.bool b3) w := fun _ => by kernel_rfl
  go_enter Tryd.func57, Tryd.ntmps57
  go_wp2_with fail
  go_loopw [3, 7] (fun v i wr => ∃ k : Nat, k ≤ 4 ∧ i = .int .i64 k ∧ Own cI 1 3 wr w.heap.size v ((([0, 1, 2, 3] : List Int).take k).filter f) ∧ Below w.heap.size w wr) (fun _ i _ => 4 - (intOf i).toNat)
  case atStart => exact ⟨0, Nat.zero_le _, rfl, Own.nil _ _, (Below.refl _ _).alloc (Nat.le_refl _) _⟩
  case round =>
    obtain ⟨k, hk, rfl, ho, hbl⟩ := hrel
    have hs := hbl.size
    by_cases hlt : k < 4
    case neg =>
      obtain rfl : k = 4 := by omega
      rw [HM.out] at ho
      go_wp2_with fail
      go_ret
      exact ⟨_, rfl, ho, hbl⟩
    have hml := mark_len f k
    have hf := HF.out k hlt
    obtain rfl | rfl | rfl | rfl : k = 0 ∨ k = 1 ∨ k = 2 ∨ k = 3 := by omega
    all_goals simp only at hf
    · cases b0
      · have HS := Lib.hid (mark_f hlt hf)
        clear hf
        go_wp2_with fail
        go_roundw
        case rel => exact ⟨1, by omega, by go_num, by rw [HS.out]; exact ho, hbl⟩
        case measure => simp [intOf]
      · have HS := Lib.hid (mark_t hlt hf)
        clear hf
        go_wp2_with (at_builtin; refine wpList_append_rd elI _ rfl (.tmp 12) (.tmp 14) rfl rfl (ho.alloc _) rfl (Rd_one _ #[.int .i64 0] 3 0 rfl) (by omega) (by simp; omega) ?_; intro v3 w3 ho3 hg3 _)
        have hb3 := below_own (hbl.alloc hs _) (ho.alloc (.cells #[.int .i64 0] 3)) hg3 (Nat.le_refl _) (by simp; omega)
        go_roundw
        case rel => exact ⟨1, by omega, by go_num, by rw [HS.out]; exact ho3, hb3⟩
        case measure => simp [intOf]
    · cases b1
      · have HS := Lib.hid (mark_f hlt hf)
        clear hf
        go_wp2_with fail
        go_roundw
        case rel => exact ⟨2, by omega, by go_num, by rw [HS.out]; exact ho, hbl⟩
        case measure => simp [intOf]
      · have HS := Lib.hid (mark_t hlt hf)
        clear hf
        go_wp2_with (at_builtin; refine wpList_append_rd elI _ rfl (.tmp 12) (.tmp 14) rfl rfl (ho.alloc _) rfl (Rd_one _ #[.int .i64 1] 3 1 rfl) (by omega) (by simp; omega) ?_; intro v3 w3 ho3 hg3 _)
        have hb3 := below_own (hbl.alloc hs _) (ho.alloc (.cells #[.int .i64 1] 3)) hg3 (Nat.le_refl _) (by simp; omega)
        go_roundw
        case rel => exact ⟨2, by omega, by go_num, by rw [HS.out]; exact ho3, hb3⟩
        case measure => simp [intOf]
    · cases b2
      · have HS := Lib.hid (mark_f hlt hf)
        clear hf
        go_wp2_with fail
        go_roundw
        case rel => exact ⟨3, by omega, by go_num, by rw [HS.out]; exact ho, hbl⟩
        case measure => simp [intOf]
      · have HS := Lib.hid (mark_t hlt hf)
        clear hf
        go_wp2_with (at_builtin; refine wpList_append_rd elI _ rfl (.tmp 12) (.tmp 14) rfl rfl (ho.alloc _) rfl (Rd_one _ #[.int .i64 2] 3 2 rfl) (by omega) (by simp; omega) ?_; intro v3 w3 ho3 hg3 _)
        have hb3 := below_own (hbl.alloc hs _) (ho.alloc (.cells #[.int .i64 2] 3)) hg3 (Nat.le_refl _) (by simp; omega)
        go_roundw
        case rel => exact ⟨3, by omega, by go_num, by rw [HS.out]; exact ho3, hb3⟩
        case measure => simp [intOf]
    · cases b3
      · have HS := Lib.hid (mark_f hlt hf)
        clear hf
        go_wp2_with fail
        go_roundw
        case rel => exact ⟨4, by omega, by go_num, by rw [HS.out]; exact ho, hbl⟩
        case measure => simp [intOf]
      · have HS := Lib.hid (mark_t hlt hf)
        clear hf
        go_wp2_with (at_builtin; refine wpList_append_rd elI _ rfl (.tmp 12) (.tmp 14) rfl rfl (ho.alloc _) rfl (Rd_one _ #[.int .i64 3] 3 3 rfl) (by omega) (by simp; omega) ?_; intro v3 w3 ho3 hg3 _)
        have hb3 := below_own (hbl.alloc hs _) (ho.alloc (.cells #[.int .i64 3] 3)) hg3 (Nat.le_refl _) (by simp; omega)
        go_roundw
        case rel => exact ⟨4, by omega, by go_num, by rw [HS.out]; exact ho3, hb3⟩
        case measure => simp [intOf]

def IntsR (w : World) (l : List Int) (e : Ending) (w' : World) : Prop := ∃ A m c, e = .returned (.slice A m c) ∧ m ≤ c ∧ Rd cI 1 w' w.heap.size A m l ∧ Below w.heap.size w w'
def LksQ (w : World) (l : List Lk) (e : Ending) (w' : World) : Prop := ∃ A m c, e = .returned (.slice A m c) ∧ m ≤ c ∧ Rd cL 3 w' w.heap.size A m l ∧ Below w.heap.size w w'
def WtsR (w : World) (l : List Wt) (e : Ending) (w' : World) : Prop := ∃ A m c, e = .returned (.slice A m c) ∧ m ≤ c ∧ Rd cW 2 w' w.heap.size A m l ∧ Below w.heap.size w w'
section
variable (lo lo2 lo3 : Nat) (A A2 A3 : Option Addr) (n c n2 c2 n3 c3 : Nat) (t : List Nd) (sc : List (List Dd)) (ps : List Int) (w : World)
theorem RunValues_any (hr : Rd cN 3 w lo A n t) (hc : n ≤ c) (hr2 : Rds cD 2 w lo2 A2 n2 sc) (hr3 : Rd cI 1 w lo3 A3 n3 ps) (hT : Tb w) :
    Calls Tryd.prog 17 #[.slice A n c, .slice A2 n2 c2, .slice A3 n3 c3] w (IntsR w (rvF t sc ps)) := by
  go_enter Tryd.func17, Tryd.ntmps17
  go_wp2_with fail
  refine (runAll_any lo lo2 lo3 A A2 A3 n c n2 c2 n3 c3 t sc ps w hr hc hr2 hr3 hT).mono ?_
  rintro e w1 (⟨hP, v1, v2, v3, v4, rfl, ⟨⟨B1, k1, d1, rfl, hd1, hr1⟩, ⟨B2, k2, d2, rfl, hd2, _⟩, ⟨B3, k3, d3, rfl, hd3, _⟩, ⟨B4, k4, d4, rfl, hd4, _⟩⟩, hb1⟩ | ⟨hP, rfl, hb1⟩)
  · have HE : Hid (rvF t sc ps = (runM t sc ps).vals) := onR_t hP _
    have HB := Lib.hid (hb1.alloc hb1.size (.cells #[.slice B1 k1 d1, .slice B2 k2 d2, .slice B3 k3 d3, .slice B4 k4 d4] 60))
    have HR := Lib.hid (hr1.alloc (.cells #[.slice B1 k1 d1, .slice B2 k2 d2, .slice B3 k3 d3, .slice B4 k4 d4] 60))
    clear hP hr1
    go_wp2_with fail
    go_ret
    exact ⟨_, _, _, rfl, hd1, by rw [HE.out]; exact HR.out, HB.out⟩
  · have HE : Hid (rvF t sc ps = []) := onR_f hP _
    have HB := Lib.hid (hb1.alloc hb1.size (.cells #[.slice none 0 0, .slice none 0 0, .slice none 0 0, .slice none 0 0] 60))
    clear hP
    go_wp2_with fail
    go_ret
    exact ⟨_, _, _, rfl, Nat.le_refl _, by rw [HE.out]; exact Rd.nil, HB.out⟩
theorem RunOrder_any (hr : Rd cN 3 w lo A n t) (hc : n ≤ c) (hr2 : Rds cD 2 w lo2 A2 n2 sc) (hr3 : Rd cI 1 w lo3 A3 n3 ps) (hT : Tb w) :
    Calls Tryd.prog 20 #[.slice A n c, .slice A2 n2 c2, .slice A3 n3 c3] w (IntsR w (roF t sc ps)) := by
  go_enter Tryd.func20, Tryd.ntmps20
  go_wp2_with fail
  refine (runAll_any lo lo2 lo3 A A2 A3 n c n2 c2 n3 c3 t sc ps w hr hc hr2 hr3 hT).mono ?_
  rintro e w1 (⟨hP, v1, v2, v3, v4, rfl, ⟨⟨B1, k1, d1, rfl, hd1, _⟩, ⟨B2, k2, d2, rfl, hd2, _⟩, ⟨B3, k3, d3, rfl, hd3, hr1⟩, ⟨B4, k4, d4, rfl, hd4, _⟩⟩, hb1⟩ | ⟨hP, rfl, hb1⟩)
  · have HE : Hid (roF t sc ps = (runM t sc ps).fin) := onR_t hP _
    have HB := Lib.hid (hb1.alloc hb1.size (.cells #[.slice B1 k1 d1, .slice B2 k2 d2, .slice B3 k3 d3, .slice B4 k4 d4] 60))
    have HR := Lib.hid (hr1.alloc (.cells #[.slice B1 k1 d1, .slice B2 k2 d2, .slice B3 k3 d3, .slice B4 k4 d4] 60))
    clear hP hr1
    go_wp2_with fail
    go_ret
    exact ⟨_, _, _, rfl, hd3, by rw [HE.out]; exact HR.out, HB.out⟩
  · have HE : Hid (roF t sc ps = []) := onR_f hP _
    have HB := Lib.hid (hb1.alloc hb1.size (.cells #[.slice none 0 0, .slice none 0 0, .slice none 0 0, .slice none 0 0] 60))
    clear hP
    go_wp2_with fail
    go_ret
    exact ⟨_, _, _, rfl, Nat.le_refl _, by rw [HE.out]; exact Rd.nil, HB.out⟩
theorem RunLocks_any (hr : Rd cN 3 w lo A n t) (hc : n ≤ c) (hr2 : Rds cD 2 w lo2 A2 n2 sc) (hr3 : Rd cI 1 w lo3 A3 n3 ps) (hT : Tb w) :
    Calls Tryd.prog 24 #[.slice A n c, .slice A2 n2 c2, .slice A3 n3 c3] w (LksQ w (rlF t sc ps)) := by
  go_enter Tryd.func24, Tryd.ntmps24
  go_wp2_with fail
  refine (runAll_any lo lo2 lo3 A A2 A3 n c n2 c2 n3 c3 t sc ps w hr hc hr2 hr3 hT).mono ?_
  rintro e w1 (⟨hP, v1, v2, v3, v4, rfl, ⟨⟨B1, k1, d1, rfl, hd1, _⟩, ⟨B2, k2, d2, rfl, hd2, _⟩, ⟨B3, k3, d3, rfl, hd3, _⟩, ⟨B4, k4, d4, rfl, hd4, hr1⟩⟩, hb1⟩ | ⟨hP, rfl, hb1⟩)
  · have HE : Hid (rlF t sc ps = (runM t sc ps).tab) := onR_t hP _
    have HB := Lib.hid (hb1.alloc hb1.size (.cells #[.slice B1 k1 d1, .slice B2 k2 d2, .slice B3 k3 d3, .slice B4 k4 d4] 60))
    have HR := Lib.hid (hr1.alloc (.cells #[.slice B1 k1 d1, .slice B2 k2 d2, .slice B3 k3 d3, .slice B4 k4 d4] 60))
    clear hP hr1
    go_wp2_with fail
    go_ret
    exact ⟨_, _, _, rfl, hd4, by rw [HE.out]; exact HR.out, HB.out⟩
  · have HE : Hid (rlF t sc ps = []) := onR_f hP _
    have HB := Lib.hid (hb1.alloc hb1.size (.cells #[.slice none 0 0, .slice none 0 0, .slice none 0 0, .slice none 0 0] 60))
    clear hP
    go_wp2_with fail
    go_ret
    exact ⟨_, _, _, rfl, Nat.le_refl _, by rw [HE.out]; exact Rd.nil, HB.out⟩
end

/-- A list of numbers lies in no block of slices. -/
theorem Rd.setNe {α : Type} {cs : α → List Value} {sz : Nat} {w : World} {lo n g i : Nat} {A : Option Addr} {l : List α} {u : Value} {cells : Array Value} {t : TypeId} (h : Rd cs sz w lo A n l) (hns : ∀ x : α, ∃ z, (cs x)[0]? = some (.int .i64 z))
    (hb : w.heap[g]? = some (.cells cells t (0, 0))) (hcs : ∀ (k : Nat) (z : Int), cells[k]? ≠ some (.int .i64 z)) : Rd cs sz (w.setCell ⟨g, i, none⟩ u) lo A n l := by
  refine ⟨h.1, h.2.1, fun hn => ?_⟩
  obtain ⟨b, o, e, hlo, hbl, hc⟩ := h.2.2 hn
  have hl0 : 0 < l.length := by rw [h.1]; exact hn
  have h0 : l[0]? = some (l[0]'hl0) := List.getElem?_eq_getElem hl0
  obtain ⟨z, hz⟩ := hns (l[0]'hl0)
  have hcell := hc 0 _ h0 0 _ hz
  have hne : b ≠ g := by
    rintro rfl
    rw [cell_of_row w b _ cells t (0, 0) hb] at hcell
    exact hcs _ _ hcell
  exact ⟨b, o, e, hlo, by simpa [World.setCell] using hbl, fun k x hx j v hv => (World.cell?_of_block (Below.heap_setCell _ _ _ _ (by show b ≠ g; exact hne))).trans (hc k x hx j v hv)⟩
theorem no_int (A1 A2 A3 A4 : Option Addr) (n1 n2 n3 n4 c1 c2 c3 c4 : Nat) : ∀ (k : Nat) (z : Int), (#[.slice A1 n1 c1, .slice A2 n2 c2, .slice A3 n3 c3, .slice A4 n4 c4] : Array Value)[k]? ≠ some (.int .i64 z) := by
  intro k z h
  match k, h with
  | 0, h | 1, h | 2, h | 3, h => simp at h
  | k + 4, h => simp at h
theorem MacR.setNe {w : World} {lo g i : Nat} {v1 v2 v3 v4 u : Value} {m : Mc} {cells : Array Value} {t : TypeId} (h : MacR w lo v1 v2 v3 v4 m) (hb : w.heap[g]? = some (.cells cells t (0, 0))) (hcs : ∀ (k : Nat) (z : Int), cells[k]? ≠ some (.int .i64 z)) : MacR (w.setCell ⟨g, i, none⟩ u) lo v1 v2 v3 v4 m := by
  obtain ⟨⟨A1, n1, c1, e1, h1, r1⟩, ⟨A2, n2, c2, e2, h2, r2⟩, ⟨A3, n3, c3, e3, h3, r3⟩, ⟨A4, n4, c4, e4, h4, r4⟩⟩ := h
  exact ⟨⟨A1, n1, c1, e1, h1, r1.setNe (fun x => ⟨x, rfl⟩) hb hcs⟩, ⟨A2, n2, c2, e2, h2, r2.setNe (fun x => ⟨x, rfl⟩) hb hcs⟩, ⟨A3, n3, c3, e3, h3, r3.setNe (fun x => ⟨x, rfl⟩) hb hcs⟩, ⟨A4, n4, c4, e4, h4, r4.setNe (fun x => ⟨x.who, rfl⟩) hb hcs⟩⟩
theorem MacR.set4 {w : World} {lo g : Nat} {v1 v2 v3 v4 : Value} {m : Mc} {A1 A2 A3 A4 B1 B2 B3 B4 : Option Addr} {n1 n2 n3 n4 c1 c2 c3 c4 k1 k2 k3 k4 d1 d2 d3 d4 : Nat} {t : TypeId} (h : MacR w lo v1 v2 v3 v4 m) (hb : w.heap[g]? = some (.cells #[.slice A1 n1 c1, .slice A2 n2 c2, .slice A3 n3 c3, .slice A4 n4 c4] t (0, 0))) :
    MacR ((((w.setCell ⟨g, 0, none⟩ (.slice B1 k1 d1)).setCell ⟨g, 1, none⟩ (.slice B2 k2 d2)).setCell ⟨g, 2, none⟩ (.slice B3 k3 d3)).setCell ⟨g, 3, none⟩ (.slice B4 k4 d4)) lo v1 v2 v3 v4 m ∧
    ((((w.setCell ⟨g, 0, none⟩ (.slice B1 k1 d1)).setCell ⟨g, 1, none⟩ (.slice B2 k2 d2)).setCell ⟨g, 2, none⟩ (.slice B3 k3 d3)).setCell ⟨g, 3, none⟩ (.slice B4 k4 d4)).heap[g]? = some (.cells #[.slice B1 k1 d1, .slice B2 k2 d2, .slice B3 k3 d3, .slice B4 k4 d4] t (0, 0)) := by
  have b1 := blk_set hb 0 (.slice B1 k1 d1)
  have b2 := blk_set b1 1 (.slice B2 k2 d2)
  have b3 := blk_set b2 2 (.slice B3 k3 d3)
  have b4 := blk_set b3 3 (.slice B4 k4 d4)
  exact ⟨(((h.setNe hb (no_int A1 A2 A3 A4 n1 n2 n3 n4 c1 c2 c3 c4)).setNe b1 (no_int B1 A2 A3 A4 k1 n2 n3 n4 d1 c2 c3 c4)).setNe b2 (no_int B1 B2 A3 A4 k1 k2 n3 n4 d1 d2 c3 c4)).setNe b3 (no_int B1 B2 B3 A4 k1 k2 k3 n4 d1 d2 d3 c4), b4.trans (by rfl)⟩

set_option maxRecDepth 100000 in
set_option maxHeartbeats 6400000 in
theorem run_t (lo lo2 lo3 : Nat) (A A2 A3 : Option Addr) (n c n2 c2 n3 c3 : Nat) (t : List Nd) (sc : List (List Dd)) (ps : List Int) (w : World) (hvr : VR t sc ps) (hr : Rd cN 3 w lo A n t) (hr2 : Rds cD 2 w lo2 A2 n2 sc) (hr3 : Rd cI 1 w lo3 A3 n3 ps) :
    Calls Tryd.prog 45 #[.slice A n c, .slice A2 n2 c2, .slice A3 n3 c3] w (PickO w w.heap.size (runM t sc ps)) := by
  have HL := Lib.hid hr.len
  have HL2 := Lib.hid hr2.len
  have HL3 := Lib.hid hr3.len
  have hn12 : n ≤ 12 := by have := hvr.1.2.1; have := HL.out; omega
  have hn24 : n2 ≤ 4 := by have := hvr.2.1.1; have := HL2.out; omega
  have hle3 := hr3.le
  have HVR := Lib.hid hvr
  have hbA := bel_alloc (Below.refl w.heap.size w) (.cells #[.slice none 0 0, .slice none 0 0, .slice none 0 0, .slice none 0 0] 65)
  have hRB := heap_alloc_new w (.cells #[.slice none 0 0, .slice none 0 0, .slice none 0 0, .slice none 0 0] 65)
  have HS := Lib.hid (start_t lo lo2 A A2 n c n2 c2 t sc (w.alloc (.cells #[.slice none 0 0, .slice none 0 0, .slice none 0 0, .slice none 0 0] 65)) (hr.alloc _) (hr2.alloc _) (by omega) (by omega))
  clear hvr
  go_enter Tryd.func45, Tryd.ntmps45
  go_wp2_with fail
  refine HS.out.mono ?_
  rintro e w1 ⟨v1, v2, v3, v4, rfl, hM1, hb1⟩
  obtain ⟨⟨B1, k1, d1, rfl, hd1, _⟩, ⟨B2, k2, d2, rfl, hd2, _⟩, ⟨B3, k3, d3, rfl, hd3, _⟩, ⟨B4, k4, d4, rfl, hd4, _⟩⟩ := id hM1
  have hB1 := bel_next hbA hb1
  have hs1 := hB1.size
  have hR1 := blk_below hRB hb1
  have hl1 := blk_lt hR1
  have hG2 := heap_alloc_new w1 (.cells #[.slice B1 k1 d1, .slice B4 k4 d4, .slice B2 k2 d2, .slice B3 k3 d3] 65)
  have hR2 := blk_alloc hR1 (.cells #[.slice B1 k1 d1, .slice B4 k4 d4, .slice B2 k2 d2, .slice B3 k3 d3] 65)
  have hM2 := (hM1.low (by simp : w.heap.size ≤ _)).below ((Below.refl w1.heap.size w1).alloc (Nat.le_refl _) (.cells #[.slice B1 k1 d1, .slice B4 k4 d4, .slice B2 k2 d2, .slice B3 k3 d3] 65))
  have hB2 := bel_alloc hB1 (.cells #[.slice B1 k1 d1, .slice B4 k4 d4, .slice B2 k2 d2, .slice B3 k3 d3] 65)
  clear hM1 hb1 hRB hbA HS
  go_wp2_with fail
  go_loopw [8] (fun i wr => ∃ (j : Nat) (C1 C2 C3 C4 : Option Addr) (q1 q2 q3 q4 e1 e2 e3 e4 : Nat), j ≤ n3 ∧ i = .int .i64 j ∧ MacR wr w.heap.size (.slice C1 q1 e1) (.slice C2 q2 e2) (.slice C3 q3 e3) (.slice C4 q4 e4) (runM t sc (ps.take j)) ∧
      wr.heap[w1.heap.size]? = some (.cells #[.slice C1 q1 e1, .slice C4 q4 e4, .slice C2 q2 e2, .slice C3 q3 e3] 65 (0, 0)) ∧ wr.heap[w.heap.size]? = some (.cells #[.slice none 0 0, .slice none 0 0, .slice none 0 0, .slice none 0 0] 65 (0, 0)) ∧ Below w.heap.size w wr) (fun i _ => n3 - (intOf i).toNat)
  case atStart => exact ⟨0, _, _, _, _, _, _, _, _, _, _, _, _, Nat.zero_le _, rfl, by rw [List.take_zero, runM_zero]; exact hM2, hG2, hR2, hB2⟩
  case round =>
    rename World => W1
    obtain ⟨j, C1, C2, C3, C4, q1, q2, q3, q4, e1, e2, e3, e4, hj, rfl, hM, hG, hR, hbl⟩ := hrel
    have hs := hbl.size
    by_cases hlt : j < n3
    case neg =>
      obtain rfl : j = n3 := by omega
      have hall : ps.take j = ps := List.take_of_length_le (by have := HL3.out; omega)
      rw [hall] at hM
      have f0 := blk_cell hG (i := 0) rfl
      have f1 := blk_cell hG (i := 1) rfl
      have f2 := blk_cell hG (i := 2) rfl
      have f3 := blk_cell hG (i := 3) rfl
      have y0 := blk_cell hR (i := 0) rfl
      have y1 := blk_cell hR (i := 1) rfl
      have y2 := blk_cell hR (i := 2) rfl
      have y3 := blk_cell hR (i := 3) rfl
      have yf := blk_free hR
      have HMM := Lib.hid (hM.set4 (B1 := C1) (B2 := C4) (B3 := C2) (B4 := C3) (k1 := q1) (k2 := q4) (k3 := q2) (k4 := q3) (d1 := e1) (d2 := e4) (d3 := e2) (d4 := e3) hR)
      clear hM hG hR hall
      go_wp2_with fail
      have r0 := blk_cell HMM.out.2 (i := 0) rfl
      have r1 := blk_cell HMM.out.2 (i := 1) rfl
      have r2 := blk_cell HMM.out.2 (i := 2) rfl
      have r3 := blk_cell HMM.out.2 (i := 3) rfl
      refine bodyPost_ret (v := .agg #[.slice C1 q1 e1, .slice C4 q4 e4, .slice C2 q2 e2, .slice C3 q3 e3]) (by simp [results, Tryd.results45, go_sem, r0, r1, r2, r3]) rfl ?_
      exact ⟨_, _, _, _, rfl, HMM.out.1, (((hbl.setCell (p := ⟨w.heap.size, 0, none⟩) (Nat.le_refl _) _).setCell (p := ⟨w.heap.size, 1, none⟩) (Nat.le_refl _) _).setCell (p := ⟨w.heap.size, 2, none⟩) (Nat.le_refl _) _).setCell (p := ⟨w.heap.size, 3, none⟩) (Nat.le_refl _) _⟩
    obtain ⟨b, o, p, rfl, _, hb, hx, p0⟩ := (hr3.below hbl).atI hlt
    have hp := HVR.out.2.2.2 p (List.mem_of_getElem? hx)
    obtain ⟨who, rfl⟩ := Int.eq_ofNat_of_zero_le hp.1
    have hinv : Inv t sc (runM t sc (ps.take j)) := Inv.runM HVR.out.1 HVR.out.2.1 fun p hp => HVR.out.2.2.2 p (List.mem_of_mem_take hp)
    have HP : Hid (∀ w' : World, Below W1.heap.size W1 w' → Calls Tryd.prog 72 #[.slice A n c, .slice A2 n2 c2, .agg #[.slice C1 q1 e1, .slice C4 q4 e4, .slice C2 q2 e2, .slice C3 q3 e3], .int .i64 (who : Int)] w' (PickO w' w.heap.size (pickM t sc (runM t sc (ps.take j)) who))) := fun w' hb' =>
      pickS_t w.heap.size lo lo2 _ _ _ _ _ t sc who A A2 n c n2 c2 w' HVR.out.1 HVR.out.2.1 hinv (by have := hp.2; omega) (hM.below hb') (by have := hb'.size; omega) ((hr.below hbl).below hb') ((hr2.below hbl).below hb')
    have HSN := Lib.hid (runM_snoc (t := t) (sc := sc) hx)
    have f0 := blk_cell hG (i := 0) rfl
    have f1 := blk_cell hG (i := 1) rfl
    have f2 := blk_cell hG (i := 2) rfl
    have f3 := blk_cell hG (i := 3) rfl
    have hne : Hid (w.heap.size ≠ w1.heap.size) := by show _ ≠ _; omega
    have HG := Lib.hid hG
    have HR := Lib.hid hR
    clear hM hx hinv hG hR hp
    go_wp2_with fail
    go_region_with (first | (go_simp; go_at_call 72; refine (HP.out W1.drew (Below.refl W1.heap.size W1).drew).mono ?_; rintro e w5 ⟨u1, u2, u3, u4, rfl, hM5, hb5⟩; obtain ⟨⟨D1, r1, s1, rfl, hs1', _⟩, ⟨D2, r2, s2, rfl, hs2', _⟩, ⟨D3, r3, s3, rfl, hs3', _⟩, ⟨D4, r4, s4, rfl, hs4', _⟩⟩ := id hM5; have hG5 := blk_below (w := W1.drew) HG.out hb5; have z0 := blk_cell hG5 (i := 0) rfl; have z1 := blk_cell hG5 (i := 1) rfl; have z2 := blk_cell hG5 (i := 2) rfl; have z3 := blk_cell hG5 (i := 3) rfl; have zf := blk_free hG5))
    all_goals (
      have hR5 := blk_below (w := W1.drew) HR.out hb5
      have hB5 := bel_next hbl.drew hb5
      have h4 := hM5.set4 (B1 := D1) (B2 := D4) (B3 := D2) (B4 := D3) (k1 := r1) (k2 := r4) (k3 := r2) (k4 := r3) (d1 := s1) (d2 := s4) (d3 := s2) (d4 := s3) hG5
      have HM' : Hid (MacR ((((w5.setCell ⟨w1.heap.size, 0, none⟩ (.slice D1 r1 s1)).setCell ⟨w1.heap.size, 1, none⟩ (.slice D4 r4 s4)).setCell ⟨w1.heap.size, 2, none⟩ (.slice D2 r2 s2)).setCell ⟨w1.heap.size, 3, none⟩ (.slice D3 r3 s3)) w.heap.size (.slice D1 r1 s1) (.slice D2 r2 s2) (.slice D3 r3 s3) (.slice D4 r4 s4) (runM t sc (ps.take (j + 1)))) := by
        show MacR _ _ _ _ _ _ _
        rw [HSN.out, Int.toNat_natCast]; exact h4.1
      have HG' := Lib.hid h4.2
      have HR' := Lib.hid (blk_setne (blk_setne (blk_setne (blk_setne hR5 hne.out 0 (.slice D1 r1 s1)) hne.out 1 (.slice D4 r4 s4)) hne.out 2 (.slice D2 r2 s2)) hne.out 3 (.slice D3 r3 s3))
      have HB' := Lib.hid ((((hB5.setCell (p := ⟨w1.heap.size, 0, none⟩) hs1 (.slice D1 r1 s1)).setCell (p := ⟨w1.heap.size, 1, none⟩) hs1 (.slice D4 r4 s4)).setCell (p := ⟨w1.heap.size, 2, none⟩) hs1 (.slice D2 r2 s2)).setCell (p := ⟨w1.heap.size, 3, none⟩) hs1 (.slice D3 r3 s3))
      clear h4 hR5 hG5 hM5 z0 z1 z2 z3 zf
      go_wp2_with fail
      go_roundw
      case rel => exact ⟨j + 1, D1, D2, D3, D4, r1, r2, r3, r4, s1, s2, s3, s4, by omega, by go_num, HM'.out, HG'.out, HR'.out, HB'.out⟩
      case measure => simp [intOf]; omega)
theorem mfld (A1 A2 A3 A4 : Option Addr) (n1 n2 n3 n4 c1 c2 c3 c4 : Nat) (w : World) : (Instr.field 65 (.agg #[.slice A1 n1 c1, .slice A2 n2 c2, .slice A3 n3 c3, .slice A4 n4 c4]) 0).run Tryd.prog w = .ok (.slice A1 n1 c1) w ∧
    (Instr.field 65 (.agg #[.slice A1 n1 c1, .slice A2 n2 c2, .slice A3 n3 c3, .slice A4 n4 c4]) 1).run Tryd.prog w = .ok (.slice A2 n2 c2) w ∧ (Instr.field 65 (.agg #[.slice A1 n1 c1, .slice A2 n2 c2, .slice A3 n3 c3, .slice A4 n4 c4]) 3).run Tryd.prog w = .ok (.slice A4 n4 c4) w :=
  ⟨by kernel_rfl, by kernel_rfl, by kernel_rfl⟩
section
variable (lo lo2 lo3 : Nat) (A A2 A3 : Option Addr) (n c n2 c2 n3 c3 : Nat) (t : List Nd) (sc : List (List Dd)) (ps : List Int) (w : World)
set_option maxRecDepth 100000 in
theorem RunValuesS_any (hr : Rd cN 3 w lo A n t) (hc : n ≤ c) (hz : NmB t) (hr2 : Rds cD 2 w lo2 A2 n2 sc) (hr3 : Rd cI 1 w lo3 A3 n3 ps) :
    Calls Tryd.prog 19 #[.slice A n c, .slice A2 n2 c2, .slice A3 n3 c3] w (IntsR w (rvF t sc ps)) := by
  have HV := Lib.hid (validRun_any lo lo2 lo3 A A2 A3 n c n2 c2 n3 c3 t sc ps w hr hc hz hr2 hr3)
  by_cases hP : VR t sc ps
  · have HE : Hid (rvF t sc ps = (runM t sc ps).vals) := onR_t hP _
    rw [vrB_t hP] at HV
    have HR : Hid (∀ w', Below w.heap.size w w' → Calls Tryd.prog 45 #[.slice A n c, .slice A2 n2 c2, .slice A3 n3 c3] w' (PickO w' w'.heap.size (runM t sc ps))) := fun w' hb => run_t lo lo2 lo3 A A2 A3 n c n2 c2 n3 c3 t sc ps w' hP (hr.below hb) (hr2.below hb) (hr3.below hb)
    clear hP
    go_enter Tryd.func19, Tryd.ntmps19
    go_wp2_with fail
    refine HV.out.mono ?_
    rintro e w1 ⟨rfl, hb1⟩
    go_wp2_with fail
    refine (HR.out w1 hb1).mono ?_
    rintro e w2 ⟨v1, v2, v3, v4, rfl, ⟨⟨B1, k1, d1, rfl, hd1, hr1⟩, ⟨B2, k2, d2, rfl, hd2, _⟩, ⟨B3, k3, d3, rfl, hd3, _⟩, ⟨B4, k4, d4, rfl, hd4, _⟩⟩, hb2⟩
    have HR1 := Lib.hid hr1
    have HFD := fun w => (mfld B1 B4 B2 B3 k1 k4 k2 k3 d1 d4 d2 d3 w).1
    clear hr1
    go_wp2_with fail
    go_ret
    exact ⟨_, _, _, rfl, hd1, by rw [HE.out]; exact HR1.out.low hb1.size, bel_next hb1 hb2⟩
  · have HE : Hid (rvF t sc ps = []) := onR_f hP _
    rw [vrB_f hP] at HV
    clear hP
    go_enter Tryd.func19, Tryd.ntmps19
    go_wp2_with fail
    refine HV.out.mono ?_
    rintro e w1 ⟨rfl, hb1⟩
    go_wp2_with fail
    go_ret
    exact ⟨_, _, _, rfl, Nat.le_refl _, by rw [HE.out]; exact Rd.nil, hb1⟩
set_option maxRecDepth 100000 in
theorem RunOrderS_any (hr : Rd cN 3 w lo A n t) (hc : n ≤ c) (hz : NmB t) (hr2 : Rds cD 2 w lo2 A2 n2 sc) (hr3 : Rd cI 1 w lo3 A3 n3 ps) :
    Calls Tryd.prog 22 #[.slice A n c, .slice A2 n2 c2, .slice A3 n3 c3] w (IntsR w (roF t sc ps)) := by
  have HV := Lib.hid (validRun_any lo lo2 lo3 A A2 A3 n c n2 c2 n3 c3 t sc ps w hr hc hz hr2 hr3)
  by_cases hP : VR t sc ps
  · have HE : Hid (roF t sc ps = (runM t sc ps).fin) := onR_t hP _
    rw [vrB_t hP] at HV
    have HR : Hid (∀ w', Below w.heap.size w w' → Calls Tryd.prog 45 #[.slice A n c, .slice A2 n2 c2, .slice A3 n3 c3] w' (PickO w' w'.heap.size (runM t sc ps))) := fun w' hb => run_t lo lo2 lo3 A A2 A3 n c n2 c2 n3 c3 t sc ps w' hP (hr.below hb) (hr2.below hb) (hr3.below hb)
    clear hP
    go_enter Tryd.func22, Tryd.ntmps22
    go_wp2_with fail
    refine HV.out.mono ?_
    rintro e w1 ⟨rfl, hb1⟩
    go_wp2_with fail
    refine (HR.out w1 hb1).mono ?_
    rintro e w2 ⟨v1, v2, v3, v4, rfl, ⟨⟨B1, k1, d1, rfl, hd1, _⟩, ⟨B2, k2, d2, rfl, hd2, _⟩, ⟨B3, k3, d3, rfl, hd3, hr1⟩, ⟨B4, k4, d4, rfl, hd4, _⟩⟩, hb2⟩
    have HR1 := Lib.hid hr1
    have HFD := fun w => (mfld B1 B4 B2 B3 k1 k4 k2 k3 d1 d4 d2 d3 w).2.2
    clear hr1
    go_wp2_with fail
    go_ret
    exact ⟨_, _, _, rfl, hd3, by rw [HE.out]; exact HR1.out.low hb1.size, bel_next hb1 hb2⟩
  · have HE : Hid (roF t sc ps = []) := onR_f hP _
    rw [vrB_f hP] at HV
    clear hP
    go_enter Tryd.func22, Tryd.ntmps22
    go_wp2_with fail
    refine HV.out.mono ?_
    rintro e w1 ⟨rfl, hb1⟩
    go_wp2_with fail
    go_ret
    exact ⟨_, _, _, rfl, Nat.le_refl _, by rw [HE.out]; exact Rd.nil, hb1⟩
set_option maxRecDepth 100000 in
theorem RunLocksS_any (hr : Rd cN 3 w lo A n t) (hc : n ≤ c) (hz : NmB t) (hr2 : Rds cD 2 w lo2 A2 n2 sc) (hr3 : Rd cI 1 w lo3 A3 n3 ps) :
    Calls Tryd.prog 27 #[.slice A n c, .slice A2 n2 c2, .slice A3 n3 c3] w (LksQ w (rlF t sc ps)) := by
  have HV := Lib.hid (validRun_any lo lo2 lo3 A A2 A3 n c n2 c2 n3 c3 t sc ps w hr hc hz hr2 hr3)
  by_cases hP : VR t sc ps
  · have HE : Hid (rlF t sc ps = (runM t sc ps).tab) := onR_t hP _
    rw [vrB_t hP] at HV
    have HR : Hid (∀ w', Below w.heap.size w w' → Calls Tryd.prog 45 #[.slice A n c, .slice A2 n2 c2, .slice A3 n3 c3] w' (PickO w' w'.heap.size (runM t sc ps))) := fun w' hb => run_t lo lo2 lo3 A A2 A3 n c n2 c2 n3 c3 t sc ps w' hP (hr.below hb) (hr2.below hb) (hr3.below hb)
    clear hP
    go_enter Tryd.func27, Tryd.ntmps27
    go_wp2_with fail
    refine HV.out.mono ?_
    rintro e w1 ⟨rfl, hb1⟩
    go_wp2_with fail
    refine (HR.out w1 hb1).mono ?_
    rintro e w2 ⟨v1, v2, v3, v4, rfl, ⟨⟨B1, k1, d1, rfl, hd1, _⟩, ⟨B2, k2, d2, rfl, hd2, _⟩, ⟨B3, k3, d3, rfl, hd3, _⟩, ⟨B4, k4, d4, rfl, hd4, hr1⟩⟩, hb2⟩
    have HR1 := Lib.hid hr1
    have HFD := fun w => (mfld B1 B4 B2 B3 k1 k4 k2 k3 d1 d4 d2 d3 w).2.1
    clear hr1
    go_wp2_with fail
    go_ret
    exact ⟨_, _, _, rfl, hd4, by rw [HE.out]; exact HR1.out.low hb1.size, bel_next hb1 hb2⟩
  · have HE : Hid (rlF t sc ps = []) := onR_f hP _
    rw [vrB_f hP] at HV
    clear hP
    go_enter Tryd.func27, Tryd.ntmps27
    go_wp2_with fail
    refine HV.out.mono ?_
    rintro e w1 ⟨rfl, hb1⟩
    go_wp2_with fail
    go_ret
    exact ⟨_, _, _, rfl, Nat.le_refl _, by rw [HE.out]; exact Rd.nil, hb1⟩
end

/-- The drawn arguments lie in a world. -/
structure RA (w : World) (A : Option Addr) (n c : Nat) (t : List Nd) (A2 : Option Addr) (m c2 : Nat) (sc : List (List Dd)) (A3 : Option Addr) (k c3 : Nat) (ps : List Int) : Prop where
  hc : n ≤ c
  rt : Rd cN 3 w 0 A n t
  hn : n ≤ 13
  nm : NmB t
  hm : m ≤ c2
  rsc : Rds cD 2 w 0 A2 m sc
  hm5 : m ≤ 5
  hk : k ≤ c3
  rps : Rd cI 1 w 0 A3 k ps
  hk17 : k ≤ 17
  tb : Tb w
section
variable {w w' : World} {A : Option Addr} {n c : Nat} {t : List Nd} {A2 : Option Addr} {m c2 : Nat} {sc : List (List Dd)} {A3 : Option Addr} {k c3 : Nat} {ps : List Int}
theorem RA.below (h : RA w A n c t A2 m c2 sc A3 k c3 ps) (hb : Below w.heap.size w w') : RA w' A n c t A2 m c2 sc A3 k c3 ps :=
  ⟨h.hc, h.rt.below hb, h.hn, h.nm, h.hm, h.rsc.below hb, h.hm5, h.hk, h.rps.below hb, h.hk17, h.tb.below hb⟩
theorem RA.rv (h : RA w A n c t A2 m c2 sc A3 k c3 ps) : Calls Tryd.prog 17 #[.slice A n c, .slice A2 m c2, .slice A3 k c3] w (IntsR w (rvF t sc ps)) := RunValues_any 0 0 0 A A2 A3 n c m c2 k c3 t sc ps w h.rt h.hc h.rsc h.rps h.tb
theorem RA.ro (h : RA w A n c t A2 m c2 sc A3 k c3 ps) : Calls Tryd.prog 20 #[.slice A n c, .slice A2 m c2, .slice A3 k c3] w (IntsR w (roF t sc ps)) := RunOrder_any 0 0 0 A A2 A3 n c m c2 k c3 t sc ps w h.rt h.hc h.rsc h.rps h.tb
theorem RA.rl (h : RA w A n c t A2 m c2 sc A3 k c3 ps) : Calls Tryd.prog 24 #[.slice A n c, .slice A2 m c2, .slice A3 k c3] w (LksQ w (rlF t sc ps)) := RunLocks_any 0 0 0 A A2 A3 n c m c2 k c3 t sc ps w h.rt h.hc h.rsc h.rps h.tb
theorem RA.rvS (h : RA w A n c t A2 m c2 sc A3 k c3 ps) : Calls Tryd.prog 19 #[.slice A n c, .slice A2 m c2, .slice A3 k c3] w (IntsR w (rvF t sc ps)) := RunValuesS_any 0 0 0 A A2 A3 n c m c2 k c3 t sc ps w h.rt h.hc h.nm h.rsc h.rps
theorem RA.roS (h : RA w A n c t A2 m c2 sc A3 k c3 ps) : Calls Tryd.prog 22 #[.slice A n c, .slice A2 m c2, .slice A3 k c3] w (IntsR w (roF t sc ps)) := RunOrderS_any 0 0 0 A A2 A3 n c m c2 k c3 t sc ps w h.rt h.hc h.nm h.rsc h.rps
theorem RA.rlS (h : RA w A n c t A2 m c2 sc A3 k c3 ps) : Calls Tryd.prog 27 #[.slice A n c, .slice A2 m c2, .slice A3 k c3] w (LksQ w (rlF t sc ps)) := RunLocksS_any 0 0 0 A A2 A3 n c m c2 k c3 t sc ps w h.rt h.hc h.nm h.rsc h.rps
theorem RunD.ra {w0 : World} {e : Ending} (hT : Tb w0) (h : RunD w0 e w) : ∃ (A : Option Addr) (n c : Nat) (t : List Nd) (A2 : Option Addr) (m c2 : Nat) (sc : List (List Dd)) (A3 : Option Addr) (k c3 : Nat) (ps : List Int), e = .returned (.tuple #[.slice A n c, .slice A2 m c2, .slice A3 k c3]) ∧ RA w A n c t A2 m c2 sc A3 k c3 ps ∧ Below w0.heap.size w0 w := by
  obtain ⟨A, n, c, t, A2, m, c2, sc, A3, k, c3, ps, rfl, h1, h2, h3, h4, h5, h6, h7, h8, h9, h10, hb⟩ := h
  exact ⟨A, n, c, t, A2, m, c2, sc, A3, k, c3, ps, rfl, ⟨h1, h2.low (Nat.zero_le _), h3, h4, h5, h6.low (Nat.zero_le _), h7, h8, h9.low (Nat.zero_le _), h10, hT.below hb⟩, hb⟩
end
/-- Who holds a lock behind a run was picked. -/
theorem rlF_who {t : List Nd} {sc : List (List Dd)} {ps : List Int} {x : Lk} (hx : x ∈ rlF t sc ps) : x.who ∈ ps := by
  unfold rlF at hx
  by_cases h : VR t sc ps
  · rw [onR_t h] at hx
    have hI := h.inv
    have h1 := heldF_mem hI.tab hx
    have h2 := (hI.tab.ask hx).2.2
    obtain ⟨i, e1, hi, h3, _⟩ := hI.held x.who x.node (by omega)
    have := h.cnt i
    rw [e1]
    exact cntF_pos ps (by omega)
  · rw [onR_f h] at hx; cases hx
theorem rlF_VTb {t : List Nd} {sc : List (List Dd)} {ps : List Int} : VTb (rlF t sc ps) := by
  unfold rlF
  by_cases h : VR t sc ps
  · rw [onR_t h]; exact h.inv.tab
  · rw [onR_f h]; exact VTb_nil
theorem rlF_fine {t : List Nd} {sc : List (List Dd)} {ps : List Int} (a : Int) : Fine t (rlF t sc ps) a := by
  unfold rlF
  by_cases h : VR t sc ps
  · rw [onR_t h]; exact h.inv.fine a
  · rw [onR_f h]; intro k x _ _; show strF 0 (needF 0) = true; decide

theorem pickM_fin {t : List Nd} {sc : List (List Dd)} {m : Mc} {who : Nat} : ∃ r : List Int, (pickM t sc m who).fin = m.fin ++ r ∧ r.length ≤ 1 := by
  cases hd : nextD sc m who with
  | none => rw [pickM_none hd]; exact ⟨[], by simp, by simp⟩
  | some d =>
    cases hb : takeL m.tab (lkF t who d.node (modeF d)) with
    | none => rw [pickM_block hd hb]; exact ⟨[], by simp, by simp⟩
    | some l =>
      rw [pickM_step hd hb]
      unfold endM
      split
      · exact ⟨[(who : Int)], rfl, by simp⟩
      · exact ⟨[], by simp [stepM], by simp⟩
theorem VR.short {t : List Nd} {sc : List (List Dd)} {ps : List Int} {q : Nat} (h : VR t sc ps) (hq : ps.length = q + 1) : ∃ r : List Int, roF t sc ps = roF t sc (ps.take q) ++ r ∧ r.length ≤ 1 := by
  have hx : ps[q]? = some (ps[q]'(by omega)) := List.getElem?_eq_getElem (by omega)
  have e := runM_snoc (t := t) (sc := sc) hx
  rw [List.take_of_length_le (by omega)] at e
  unfold roF
  rw [onR_t h, onR_t (h.take q), e]
  exact pickM_fin
theorem VR.more {t : List Nd} {sc : List (List Dd)} {ps : List Int} {z : Int} (h : VR t sc ps) (h16 : ps.length < 16) (hz : z ∈ roF t sc ps) : rvF t sc (ps ++ [z]) = rvF t sc ps ∧ roF t sc (ps ++ [z]) = roF t sc ps := by
  unfold roF at hz
  rw [onR_t h] at hz
  have hI := h.inv
  have hr := hI.finr hz
  have h2 : VR t sc (ps ++ [z]) := ⟨h.1, h.2.1, by simp; omega, fun p hp => by
    rcases List.mem_append.1 hp with hp | hp
    · exact h.2.2.2 p hp
    · simp only [List.mem_singleton] at hp; subst hp; exact hr⟩
  unfold rvF roF
  rw [onR_t h2, onR_t h, onR_t h2, onR_t h, runM_one, hI.picked hz]
  exact ⟨rfl, rfl⟩
theorem VR_of_rv {t : List Nd} {sc : List (List Dd)} {ps : List Int} (h : rvF t sc ps ≠ []) : VR t sc ps := Classical.byContradiction fun hc => h (by unfold rvF; rw [onR_f hc])
theorem rv_ne {t : List Nd} {sc : List (List Dd)} {ps : List Int} (h : VR t sc ps) : (rvF t sc ps).length = t.length := by unfold rvF; rw [onR_t h]; exact h.inv.vlen

set_option maxRecDepth 100000 in
set_option maxHeartbeats 1600000 in
theorem lawRunOrderShort (A : Option Addr) (n c : Nat) (zs : List Int) (w : World) (hn : n ≤ 1048576) (hr : Rd cB 1 w 0 A n zs) (hc : n ≤ c) (hz : ∀ (k : Nat) (z : Int), zs[k]? = some z → 0 ≤ z ∧ z ≤ 255) (hT : Tb w) :
    Calls Tryd.prog 7 #[.slice A n c] w fun e w' => e = .returned (.bool true) ∧ Below w.heap.size w w' := by
  have hn' : (n : Int) ≤ 1048576 := by omega
  go_enter Tryd.func7, Tryd.ntmps7
  go_wp2_with fail
  refine (DrawRunOrder_any A n c zs _ hr hc hz).mono ?_
  intro e w1 hD
  obtain ⟨A1, n1, c1, t, A2, m, c2, sc, A3, k, c3, ps, rfl, hR, hb1⟩ := hD.ra hT
  have HR := Lib.hid hR
  clear hR hD hr hz
  go_wp2_with fail
  refine HR.out.ro.mono ?_
  rintro e w2 ⟨B4, k4, d4, rfl, hd4, hr4, hb2⟩
  have hB2 := bel_next hb1 hb2
  have HR2 := Lib.hid (HR.out.below hb2)
  have HL4 := Lib.hid hr4
  have hk4 : k4 ≤ 4 := by have := hr4.len; have := roF_len (t := t) (sc := sc) (ps := ps); omega
  clear hr4
  go_wp2_with fail
  refine HR2.out.roS.mono ?_
  rintro e w3 ⟨B5, k5, d5, rfl, hd5, hr5, hb3⟩
  have hB3 := bel_next hB2 hb3
  have HR3 := Lib.hid (HR2.out.below hb3)
  have HEQ := Lib.hid (equalInts_t _ _ B4 B5 k4 d4 k5 d5 _ w3 (HL4.out.below hb3) hr5)
  have HL3 := Lib.hid (HL4.out.below hb3)
  clear hr5 HL4
  go_wp2_with fail
  refine HEQ.out.mono ?_
  rintro e w4 ⟨rfl, hb4⟩
  have hB4 := bel_next hB3 hb4
  have HR4 := Lib.hid (HR3.out.below hb4)
  have HL4 := Lib.hid (HL3.out.below hb4)
  clear HL3 HEQ HR HR2 HR3
  have HEND : Hid (∀ w' : World, Below w4.heap.size w4 w' → Calls Tryd.prog 22 #[.slice A1 n1 c1, .slice A2 m c2, .slice A3 k c3] w' (IntsR w' (roF t sc ps))) := fun w' hb => (HR4.out.below hb).roS
  have HEQ : Hid (∀ (w' : World) (lo6 : Nat) (B6 : Option Addr) (k6 d6 : Nat), Below w4.heap.size w4 w' → Rd cI 1 w' lo6 B6 k6 (roF t sc ps) → Calls Tryd.prog 18 #[.slice B4 k4 d4, .slice B6 k6 d6] w' fun e w'' => e = .returned (.bool true) ∧ Below w'.heap.size w' w'') := fun w' lo6 B6 k6 d6 hb hr6 => equalInts_t _ lo6 B4 B6 k4 d4 k6 d6 _ w' (HL4.out.below hb) hr6
  by_cases hk0 : k = 0
  · subst hk0
    go_wp2_with fail
    refine (HEND.out w4 (Below.refl _ _)).mono ?_
    rintro e w5 ⟨B6, k6, d6, rfl, hd6, hr6, hb5⟩
    have HE6 := Lib.hid (HEQ.out w5 _ B6 k6 d6 hb5 hr6)
    clear hr6
    go_wp2_with fail
    refine HE6.out.mono ?_
    rintro e w6 ⟨rfl, hb6⟩
    go_wp2_with fail
    go_ret
    exact ⟨rfl, bel_next (bel_next hB4 hb5) hb6⟩
  obtain ⟨q, rfl⟩ : ∃ q, k = q + 1 := ⟨k - 1, by omega⟩
  go_wp2_with fail
  refine HR4.out.rv.mono ?_
  rintro e w5 ⟨B7, k7, d7, rfl, hd7, hr7, hb5⟩
  have hB5 := bel_next hB4 hb5
  by_cases hk7 : k7 = 0
  · subst hk7
    clear hr7
    go_wp2_with fail
    refine (HEND.out w5 hb5).mono ?_
    rintro e w6 ⟨B6, k6, d6, rfl, hd6, hr6, hb6⟩
    have HE6 := Lib.hid (HEQ.out w6 _ B6 k6 d6 (bel_next hb5 hb6) hr6)
    clear hr6
    go_wp2_with fail
    refine HE6.out.mono ?_
    rintro e w7 ⟨rfl, hb7⟩
    go_wp2_with fail
    go_ret
    exact ⟨rfl, bel_next (bel_next hB5 hb6) hb7⟩
  have HVR : Hid (VR t sc ps) := VR_of_rv fun e => hk7 (by have := hr7.len; rw [e] at this; simpa using this.symm)
  have hk7' : ((k7 : Int) == 0) = false := by simp; omega
  have hq17 := HR4.out.hk17
  have hqc : (q : Int) ≤ (c3 : Int) := by have := HR4.out.hk; omega
  have hqn : (q : Int) + 1 - 1 = (q : Int) := by omega
  have HR5 := Lib.hid (HR4.out.below hb5)
  have HRQ : Hid (RA w5 A1 n1 c1 t A2 m c2 sc A3 q c3 (ps.take q)) := ⟨HR5.out.hc, HR5.out.rt, HR5.out.hn, HR5.out.nm, HR5.out.hm, HR5.out.rsc, HR5.out.hm5, by have := HR5.out.hk; omega, HR5.out.rps.take (by omega), by omega, HR5.out.tb⟩
  have HPL := Lib.hid HR5.out.rps.len
  obtain ⟨r, hre, hrl⟩ := HVR.out.short HPL.out
  have HRE := Lib.hid hre
  clear hr7 hk7 hre hk0
  go_wp2_with fail
  refine HRQ.out.ro.mono ?_
  rintro e w6 ⟨B8, k8, d8, rfl, hd8, hr8, hb6⟩
  have hB6 := bel_next hB5 hb6
  have hL6 := HL4.out.below (bel_next hb5 hb6)
  have hk48 : k4 = k8 + r.length := by
    have h1 := hL6.len
    have h2 := hr8.len
    rw [HRE.out, List.length_append] at h1
    omega
  have ht : (roF t sc ps).take k8 = roF t sc (ps.take q) := by
    rw [HRE.out, List.take_left' hr8.len]
  have hL8 := hL6.take (k := k8) (by omega)
  rw [ht] at hL8
  have HEL := Lib.hid (equalInts_t _ _ B4 B8 k8 d4 k8 d8 _ w6 hL8 hr8)
  have h84 : (k8 : Int) ≤ (k4 : Int) := by omega
  have h48 : (k4 : Int) ≤ (k8 : Int) + 1 := by omega
  have h8d : (k8 : Int) ≤ (d4 : Int) := by omega
  have h84' : (k8 : Int) ≤ 4 := by omega
  clear hL6 hL8 ht hr8 hk48 hrl
  go_wp2_with fail
  refine HEL.out.mono ?_
  rintro e w7 ⟨rfl, hb7⟩
  go_wp2_with fail
  go_ret
  exact ⟨rfl, bel_next hB6 hb7⟩
end Go.Proofs.YtieokkinmnphgaaDoor
